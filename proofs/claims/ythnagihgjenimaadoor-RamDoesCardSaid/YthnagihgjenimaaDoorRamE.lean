/- ram: Get, Remove, Clean of a key that is not there; Remove, Clean of one that is; Clear. -/
import Derived.Test.YthnagihgjenimaaDoorRamL
import Derived.Deep.RegionHeld3
namespace Go.Proofs.YthnagihgjenimaaDoor
open Go.RowKit
set_option linter.unusedVariables false
set_option linter.unusedSimpArgs false
set_option maxRecDepth 100000 in
set_option maxHeartbeats 2000000 in
theorem get_gone (L : RL) (D : AD) (hs : List HM) (k : List Int) (v : Value) (w : World) (h : RAt w L D hs) (hn : ∀ x ∈ hs, x.it.key ≠ k) (hkb : Bytes k) (hkl : k.length ≤ 140737488351232) (hv : SlB w v k) : Calls Tryd.prog 34 #[L.ptr, v] w (PeekN 4 w) := by
  obtain ⟨W0, hW0⟩ : ∃ W0, W0 = w.alloc (.cells zItem.toArray 64) := ⟨_, rfl⟩
  have k0 : Keeps (fun _ => False) w W0 := by rw [hW0]; exact (Keeps.refl _ _).alloc _
  have hz0 : Blk W0 w.heap.size 64 zItem := by rw [hW0]; exact Blk.new w 64 _
  have HP := Lib.hid (peek_gone L D hs k v W0 (h.quiet k0) hn hkb hkl (hv.quiet k0))
  have HK0 := Lib.hid k0
  have HZ0 := Lib.hid hz0
  have HW0 := Lib.hid hW0
  obtain ⟨a, c, rfl, _⟩ := hv
  clear k0 hz0 hW0 h hn hkb hkl
  unfold PeekN zItemV RL.ptr at *
  go_enter Tryd.func34, Tryd.ntmps34
  go_upto_region 1 with fail
  rw [show w.alloc (Obj.cells #[Value.slice none 0 0, Value.slice none 0 0, Value.int .u32 0, Value.int .u32 0, Value.int .u64 0, Value.bool false] 64) = W0 from HW0.out.symm]
  go_wp2_with fail
  refine HP.out.mono ?_
  rintro e w1 ⟨rfl, hk1⟩
  go_upto_region 4 with fail
  obtain ⟨W1, hW1⟩ : ∃ W1, W1 = w1.alloc (.cells #[.slice none 0 0, .slice none 0 0, .int .u32 0, .int .u32 0, .int .u64 0, .bool false] 64) := ⟨_, rfl⟩
  have hit : Blk W1 w1.heap.size 64 [.slice none 0 0, .slice none 0 0, .int .u32 0, .int .u32 0, .int .u64 0, .bool false] := by rw [hW1]; exact Blk.new w1 64 _
  have k1 : Keeps (fun _ => False) W0 W1 := by rw [hW1]; exact hk1.alloc _
  rw [← hW1]
  have hz := k1.blk HZ0.out id
  have HZ1 := Lib.hid hz
  have HK1 := Lib.hid (HK0.out.trans k1)
  have n0 := hit.cell (i := 0) rfl
  have n1 := hit.cell (i := 1) rfl
  have n2 := hit.cell (i := 2) rfl
  have n3 := hit.cell (i := 3) rfl
  have n4 := hit.cell (i := 4) rfl
  have n5 := hit.cell (i := 5) rfl
  have y0 := hz.cell (i := 0) rfl
  have f0 := hz.free 0
  have y1 := hz.cell (i := 1) rfl
  have f1 := hz.free 1
  have y2 := hz.cell (i := 2) rfl
  have f2 := hz.free 2
  have y3 := hz.cell (i := 3) rfl
  have f3 := hz.free 3
  have y4 := hz.cell (i := 4) rfl
  have f4 := hz.free 4
  have y5 := hz.cell (i := 5) rfl
  have f5 := hz.free 5
  clear hit k1 hz hW1 hk1 HP
  go_wp2_with fail
  obtain ⟨ho, hk⟩ := st6 HZ1.out (.slice none 0 0) (.slice none 0 0) (.int .u32 0) (.int .u32 0) (.int .u64 0) (.bool false)
  have q0 := ho.cell (i := 0) rfl
  have q1 := ho.cell (i := 1) rfl
  have q2 := ho.cell (i := 2) rfl
  have q3 := ho.cell (i := 3) rfl
  have q4 := ho.cell (i := 4) rfl
  have q5 := ho.cell (i := 5) rfl
  have hkf : Keeps (fun _ => False) w _ := ((HK1.out.mono (S' := fun k => k = w.heap.size) (fun _ _ h => h.elim)).trans hk).mono (S' := fun _ => False) fun k hk' h => by
    have h : k = w.heap.size := h
    omega
  refine bodyPost_ret (v := .tuple #[.agg #[.slice none 0 0, .slice none 0 0, .int .u32 0, .int .u32 0, .int .u64 0, .bool false], .int .i64 4]) (by simp [results, Tryd.f34, go_sem, q0, q1, q2, q3, q4, q5]) rfl ⟨rfl, hkf⟩
def GoneV (w : World) (e : Ending) (w' : World) : Prop := (∃ (ka va : Option Addr) (kn kc vn vc : Nat) (fg ex sq : Int) (dt : Bool), e = .returned (.tuple #[.agg #[.slice ka kn kc, .slice va vn vc, .int .u32 fg, .int .u32 ex, .int .u64 sq, .bool dt], .bool false])) ∧ Keeps (fun _ => False) w w'
set_option maxRecDepth 100000 in
set_option maxHeartbeats 4000000 in
theorem out_goneV (L : RL) (D : AD) (hs : List HM) (k : List Int) (w : World) (h : RAt w L D hs) (hkl : k.length ≤ 140737488351232) (hkb : Bytes k) (hn : ∀ x ∈ hs, x.it.key ≠ k) :
    Calls Tryd.prog 62 #[L.ptr, .string (strOfNums k)] w (GoneV w) := by
  obtain ⟨f, hm1, hf⟩ := h.at'
  obtain ⟨g, hm2, hg⟩ := h.th
  obtain ⟨i, ka, va, kn, kc, vn, vc, hgz⟩ := h.zero hg
  have hfn : f (keyL k) = none := hf.none fun x hx e => hn x hx (keyL_inj (h.inv.good x hx).1.kb hkb e)
  obtain ⟨W0, hW0⟩ : ∃ W0, W0 = w.alloc (.cells zItem.toArray 64) := ⟨_, rfl⟩
  have k0 : Keeps (fun _ => False) w W0 := by rw [hW0]; exact (Keeps.refl _ _).alloc _
  have hz0 : Blk W0 w.heap.size 64 zItem := by rw [hW0]; exact Blk.new w 64 _
  have HT := Lib.hid (take_gone L k _ i ka va kn kc vn vc f g W0 (hm1.keep k0 id) (hm2.keep k0 id) h.mm hkl hfn hgz)
  have hb0 := k0.blk h.obj id
  have c0 := hb0.cell (i := 0) rfl
  have c1 := hb0.cell (i := 1) rfl
  have HK0 := Lib.hid k0
  have HZ0 := Lib.hid hz0
  have HW0 := Lib.hid hW0
  clear h k0 hb0 hz0 hW0 hf hg hm1 hm2 hfn hgz hn
  unfold TakeN shelfV IT.agg at HT
  unfold RL.ptr
  go_enter Tryd.func62, Tryd.ntmps62
  go_upto_region 1 with fail
  rw [show w.alloc (Obj.cells #[Value.slice none 0 0, Value.slice none 0 0, Value.int .u32 0, Value.int .u32 0, Value.int .u64 0, Value.bool false] 64) = W0 from HW0.out.symm]
  go_wp2_with fail
  refine HT.out.mono ?_
  rintro e w1 ⟨rfl, hk1⟩
  go_upto_region 6 with fail
  obtain ⟨W1, hW1⟩ : ∃ W1, W1 = w1.alloc (.cells #[.slice ka kn kc, .slice va vn vc, .int .u32 i.fg, .int .u32 i.ex, .int .u64 i.sq, .bool i.dt] 64) := ⟨_, rfl⟩
  have k1 : Keeps (fun _ => False) w W1 := by rw [hW1]; exact (HK0.out.trans hk1).alloc _
  have k01 : Keeps (fun _ => False) W0 W1 := by rw [hW1]; exact hk1.alloc _
  have hit : Blk W1 w1.heap.size 64 [.slice ka kn kc, .slice va vn vc, .int .u32 i.fg, .int .u32 i.ex, .int .u64 i.sq, .bool i.dt] := by rw [hW1]; exact Blk.new w1 64 _
  have hz := k01.blk HZ0.out id
  rw [← hW1]
  have HK1 := Lib.hid k1
  have HZ1 := Lib.hid hz
  have n0 := hit.cell (i := 0) rfl
  have n1 := hit.cell (i := 1) rfl
  have n2 := hit.cell (i := 2) rfl
  have n3 := hit.cell (i := 3) rfl
  have n4 := hit.cell (i := 4) rfl
  have n5 := hit.cell (i := 5) rfl
  have y0 := hz.cell (i := 0) rfl
  have y1 := hz.cell (i := 1) rfl
  have y2 := hz.cell (i := 2) rfl
  have y3 := hz.cell (i := 3) rfl
  have y4 := hz.cell (i := 4) rfl
  have y5 := hz.cell (i := 5) rfl
  have y0f := hz.free 0
  have y1f := hz.free 1
  have y2f := hz.free 2
  have y3f := hz.free 3
  have y4f := hz.free 4
  have y5f := hz.free 5
  clear hk1 k1 k01 hit hz hW1 HT c0 c1
  go_wp2_with fail
  have ho := ((((((HZ1.out.store 0 (.slice ka kn kc)).store 1 (.slice va vn vc)).store 2 (.int .u32 i.fg)).store 3 (.int .u32 i.ex)).store 4 (.int .u64 i.sq)).store 5 (.bool i.dt))
  have hk6 : Keeps (fun k => k = w.heap.size) W1 ((((((W1.setCell ⟨w.heap.size, 0, none⟩ (.slice ka kn kc)).setCell ⟨w.heap.size, 1, none⟩ (.slice va vn vc)).setCell ⟨w.heap.size, 2, none⟩ (.int .u32 i.fg)).setCell ⟨w.heap.size, 3, none⟩ (.int .u32 i.ex)).setCell ⟨w.heap.size, 4, none⟩ (.int .u64 i.sq)).setCell ⟨w.heap.size, 5, none⟩ (.bool i.dt)) := (((((((Keeps.refl (fun k => k = w.heap.size) W1).store (p := ⟨w.heap.size, 0, none⟩) (.inl rfl) _).store (p := ⟨w.heap.size, 1, none⟩) (.inl rfl) _).store (p := ⟨w.heap.size, 2, none⟩) (.inl rfl) _).store (p := ⟨w.heap.size, 3, none⟩) (.inl rfl) _).store (p := ⟨w.heap.size, 4, none⟩) (.inl rfl) _).store (p := ⟨w.heap.size, 5, none⟩) (.inl rfl) _)
  have q0 := ho.cell (i := 0) rfl
  have q1 := ho.cell (i := 1) rfl
  have q2 := ho.cell (i := 2) rfl
  have q3 := ho.cell (i := 3) rfl
  have q4 := ho.cell (i := 4) rfl
  have q5 := ho.cell (i := 5) rfl
  have hkf : Keeps (fun _ => False) w _ := ((HK1.out.mono (S' := fun k => k = w.heap.size) (fun k _ h => h.elim)).trans hk6).mono (S' := fun _ => False) fun k hk' h => by
    have h : k = w.heap.size := h
    omega
  refine bodyPost_ret (v := .tuple #[.agg #[.slice ka kn kc, .slice va vn vc, .int .u32 i.fg, .int .u32 i.ex, .int .u64 i.sq, .bool i.dt], .bool false]) (by simp [results, Tryd.f62, go_sem, q0, q1, q2, q3, q4, q5]) rfl ⟨⟨_, _, _, _, _, _, _, _, _, _, rfl⟩, hkf⟩
set_option maxRecDepth 100000 in
theorem remove_gone (L : RL) (D : AD) (hs : List HM) (k : List Int) (v : Value) (w : World) (h : RAt w L D hs) (hn : ∀ x ∈ hs, x.it.key ≠ k) (hkb : Bytes k) (hkl : k.length ≤ 140737488351232) (hv : SlB w v k) : Calls Tryd.prog 47 #[L.ptr, v] w fun e w' => e = .returned (.int .i64 4) ∧ Keeps (fun _ => False) w w' := by
  have HO := Lib.hid (out_goneV L D hs k w h hkl hkb hn)
  have cv := conv_slb hv
  obtain ⟨a, c, rfl, _⟩ := hv
  clear h hn hkb
  unfold RL.ptr at *
  go_enter Tryd.func47, Tryd.ntmps47
  go_wp2_with fail
  refine HO.out.mono ?_
  rintro e w1 ⟨⟨ka, va, kn, kc, vn, vc, fg, ex, sq, dt, rfl⟩, hk⟩
  have HK := Lib.hid hk
  clear hk HO cv
  go_wp2_with fail
  go_ret
  exact ⟨rfl, HK.out.alloc _⟩
set_option maxRecDepth 100000 in
theorem remove_there (L : RL) (D : AD) (xs ys : List HM) (x : HM) (v : Value) (w : World) (h : RAt w L D (xs ++ x :: ys)) (hv : SlB w v x.it.key) : Calls Tryd.prog 47 #[L.ptr, v] w fun e w' => e = .returned (.int .i64 0) ∧ RAt w' L (D.less x.ch) (xs ++ ys) ∧ Keeps L.own w w' := by
  have HO := Lib.hid (out_there L D xs ys x w h)
  have hrd := h.rd x (by simp)
  obtain ⟨ka, kc, hka, _⟩ := own_bytes hrd.k
  obtain ⟨va, vc, hva, _⟩ := own_bytes hrd.v
  have cv := conv_slb hv
  obtain ⟨a, c, rfl, _⟩ := hv
  unfold OutP HM.val IT.agg RL.ptr at *
  rw [hka, hva] at HO
  clear h hrd hka hva
  go_enter Tryd.func47, Tryd.ntmps47
  go_wp2_with fail
  refine HO.out.mono ?_
  rintro e w1 ⟨rfl, hr, _, hk⟩
  have HR := Lib.hid hr
  have HK := Lib.hid hk
  clear hr hk HO cv
  go_wp2_with fail
  go_ret
  exact ⟨rfl, HR.out.quiet ((Keeps.refl _ _).alloc _), HK.out.alloc _⟩
set_option maxRecDepth 100000 in
theorem clean_gone (L : RL) (D : AD) (hs : List HM) (k : List Int) (v : Value) (w : World) (h : RAt w L D hs) (hn : ∀ x ∈ hs, x.it.key ≠ k) (hkb : Bytes k) (hkl : k.length ≤ 140737488351232) (hv : SlB w v k) : Calls Tryd.prog 49 #[L.ptr, v] w fun e w' => e = .returned (.int .i64 4) ∧ Keeps (fun _ => False) w w' := by
  have HP := Lib.hid (peek_gone L D hs k v w h hn hkb hkl hv)
  obtain ⟨a, c, rfl, _⟩ := hv
  clear h hn hkb
  unfold PeekN zItemV RL.ptr at *
  go_enter Tryd.func49, Tryd.ntmps49
  go_wp2_with fail
  refine HP.out.mono ?_
  rintro e w1 ⟨rfl, hk1⟩
  have HK := Lib.hid hk1
  clear hk1
  go_wp2_with fail
  go_ret
  exact ⟨rfl, HK.out.alloc _⟩
end Go.Proofs.YthnagihgjenimaaDoor
