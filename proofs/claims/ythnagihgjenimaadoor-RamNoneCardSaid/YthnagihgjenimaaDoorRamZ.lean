/- ram: a memory that is not there. -/
import Derived.Test.YthnagihgjenimaaDoorRamR
namespace Go.Proofs.YthnagihgjenimaaDoor
open Go.RowKit
set_option linter.unusedVariables false
set_option linter.unusedSimpArgs false
set_option maxRecDepth 100000 in
theorem put_nil_r (a b c d e f : Value) (w : World) : Calls Tryd.prog 33 #[.pointer none, .agg #[a, b, c, d, e, f]] w fun e' w' => e' = .returned (.tuple #[.slice none 0 0, .int .i64 1]) ∧ Keeps (fun _ => False) w w' := by
  go_enter Tryd.func33, Tryd.ntmps33
  go_wp2_with fail
  go_ret2
  exact ⟨rfl, (Keeps.refl _ _).alloc _⟩
theorem remove_nil_r (v : Value) (w : World) : Calls Tryd.prog 47 #[.pointer none, v] w fun e' w' => e' = .returned (.int .i64 1) ∧ w' = w := by
  go_enter Tryd.func47, Tryd.ntmps47
  go_wp2_with fail
  go_ret
  exact ⟨rfl, rfl⟩
theorem clear_nil_r (w : World) : Calls Tryd.prog 51 #[.pointer none] w fun e' w' => e' = .returned (.int .i64 1) ∧ w' = w := by
  go_enter Tryd.func51, Tryd.ntmps51
  go_wp2_with fail
  go_ret
  exact ⟨rfl, rfl⟩
set_option maxRecDepth 100000 in
theorem clean_nil_r (v : Value) (w : World) : Calls Tryd.prog 49 #[.pointer none, v] w fun e' w' => e' = .returned (.int .i64 1) ∧ Keeps (fun _ => False) w w' := by
  have HP := Lib.hid (fun W => peek_nil v W)
  unfold PeekN zItemV at HP
  go_enter Tryd.func49, Tryd.ntmps49
  go_wp2_with fail
  refine (HP.out _).mono ?_
  rintro e w1 ⟨rfl, hk1⟩
  have HK := Lib.hid hk1
  clear hk1
  go_wp2_with fail
  go_ret
  exact ⟨rfl, HK.out.alloc _⟩
set_option maxRecDepth 100000 in
theorem get_nil_r (v : Value) (w : World) : Calls Tryd.prog 34 #[.pointer none, v] w (PeekN 1 w) := by
  obtain ⟨W0, hW0⟩ : ∃ W0, W0 = w.alloc (.cells zItem.toArray 64) := ⟨_, rfl⟩
  have k0 : Keeps (fun _ => False) w W0 := by rw [hW0]; exact (Keeps.refl _ _).alloc _
  have hz0 : Blk W0 w.heap.size 64 zItem := by rw [hW0]; exact Blk.new w 64 _
  have HP := Lib.hid (peek_nil v W0)
  have HK0 := Lib.hid k0
  have HZ0 := Lib.hid hz0
  have HW0 := Lib.hid hW0
  clear k0 hz0 hW0
  unfold PeekN zItemV at HP
  go_enter Tryd.func34, Tryd.ntmps34
  go_upto_region 1 with fail
  rw [show w.alloc (Obj.cells #[Value.slice none 0 0, Value.slice none 0 0, Value.int .u32 0, Value.int .u32 0, Value.int .u64 0, Value.bool false] 64) = W0 from HW0.out.symm]
  go_wp2_with fail
  refine HP.out.mono ?_
  rintro e w1 ⟨rfl, hk1⟩
  go_upto_region 4 with fail
  obtain ⟨W1, hW1⟩ : ∃ W1, W1 = w1.alloc (.cells #[.slice none 0 0, .slice none 0 0, .int .u32 0, .int .u32 0, .int .u64 0, .bool false] 64) := ⟨_, rfl⟩
  have hit : Blk W1 w1.heap.size 64 [.slice none 0 0, .slice none 0 0, .int .u32 0, .int .u32 0, .int .u64 0, .bool false] := by rw [hW1]; exact Blk.new w1 64 _
  have k1 : Keeps (fun _ => False) W0 W1 := by rw [hW1]; exact hk1.alloc _
  rw [← hW1]
  have hz := k1.blk HZ0.out id
  have HZ1 := Lib.hid hz
  have HK1 := Lib.hid (HK0.out.trans k1)
  have n0 := hit.cell (i := 0) rfl
  have n1 := hit.cell (i := 1) rfl
  have n2 := hit.cell (i := 2) rfl
  have n3 := hit.cell (i := 3) rfl
  have n4 := hit.cell (i := 4) rfl
  have n5 := hit.cell (i := 5) rfl
  have y0 := hz.cell (i := 0) rfl
  have f0 := hz.free 0
  have y1 := hz.cell (i := 1) rfl
  have f1 := hz.free 1
  have y2 := hz.cell (i := 2) rfl
  have f2 := hz.free 2
  have y3 := hz.cell (i := 3) rfl
  have f3 := hz.free 3
  have y4 := hz.cell (i := 4) rfl
  have f4 := hz.free 4
  have y5 := hz.cell (i := 5) rfl
  have f5 := hz.free 5
  clear hit k1 hz hW1 hk1 HP
  go_wp2_with fail
  obtain ⟨ho, hk⟩ := st6 HZ1.out (.slice none 0 0) (.slice none 0 0) (.int .u32 0) (.int .u32 0) (.int .u64 0) (.bool false)
  have q0 := ho.cell (i := 0) rfl
  have q1 := ho.cell (i := 1) rfl
  have q2 := ho.cell (i := 2) rfl
  have q3 := ho.cell (i := 3) rfl
  have q4 := ho.cell (i := 4) rfl
  have q5 := ho.cell (i := 5) rfl
  have hkf : Keeps (fun _ => False) w _ := ((HK1.out.mono (S' := fun k => k = w.heap.size) (fun _ _ h => h.elim)).trans hk).mono (S' := fun _ => False) fun k hk' h => by
    have h : k = w.heap.size := h
    omega
  refine bodyPost_ret (v := .tuple #[zItemV, .int .i64 1]) (by unfold zItemV; simp [results, Tryd.f34, go_sem, q0, q1, q2, q3, q4, q5]) rfl ⟨rfl, hkf⟩
end Go.Proofs.YthnagihgjenimaaDoor
