/- super: a store's small functions. -/
import Derived.Test.YtjiammhmeliogaaRrd
import Derived.Test.YtjiammhmeliogaaSmall
namespace Go.Proofs.Ytjiammhmeliogaa
open Go.RowKit
set_option linter.unusedVariables false
set_option linter.unusedSimpArgs false

/-- What a store holds. -/
def stc (x : SX) (t : Int) (L : DL) : List Value := [.int .i64 x.sg, .int .i64 x.sc, .int .u64 x.ge, .int .u64 x.re, .int .u64 x.rs, .int .u64 x.fl, .int .u64 t, L.ptr]
def SXP (x : SX) (w : World) (e : Ending) (w' : World) : Prop := e = .returned x.val ∧ Keeps (fun _ => False) w w'
theorem get_fin {w W : World} {cs : List Value} (h : Keeps (fun k => k = w.heap.size) (w.alloc (.cells cs.toArray 71)) W) : Keeps (fun _ => False) w W :=
  ((((Keeps.refl (fun _ => False) w).alloc (.cells cs.toArray 71)).mono fun _ _ h => h.elim).trans h).mono fun k hk e => by have e : k = w.heap.size := e; omega
theorem get_any (S : Nat) (x : SX) (t : Int) (L : DL) (w : World) (h : Blk w S 114 (stc x t L)) : Calls Try.prog 42 #[.pointer (some ⟨S, 0, none⟩)] w (SXP x w) := by
  have hk : Keeps (fun _ => False) w (w.alloc (.cells s71.toArray 71)) := (Keeps.refl _ _).alloc _
  have hb := Blk.new w 71 s71
  have hs := hk.blk h id
  unfold s71 SX.zero SX.cells at hb hs
  unfold stc at hs
  have x0 := hs.cell (i := 0) rfl
  have x1 := hs.cell (i := 1) rfl
  have x2 := hs.cell (i := 2) rfl
  have x3 := hs.cell (i := 3) rfl
  have x4 := hs.cell (i := 4) rfl
  have x5 := hs.cell (i := 5) rfl
  have z0 := hb.free 0
  have z1 := hb.free 1
  have z2 := hb.free 2
  have z3 := hb.free 3
  have z4 := hb.free 4
  have z5 := hb.free 5
  have y0 := hb.cell (i := 0) rfl
  have y1 := hb.cell (i := 1) rfl
  have y2 := hb.cell (i := 2) rfl
  have y3 := hb.cell (i := 3) rfl
  have y4 := hb.cell (i := 4) rfl
  have y5 := hb.cell (i := 5) rfl
  obtain ⟨sg, sc, ge, re, rs, fl⟩ := x
  have HB := Lib.hid hb
  clear h hk hb hs
  go_enter Try.func42, Try.ntmps42
  go_wp2_with fail
  have hb := Blk.new w 71 (SX.cells ⟨sg, sc, ge, re, rs, fl⟩)
  unfold SX.cells at hb
  have q0 := hb.cell (i := 0) rfl
  have q1 := hb.cell (i := 1) rfl
  have q2 := hb.cell (i := 2) rfl
  have q3 := hb.cell (i := 3) rfl
  have q4 := hb.cell (i := 4) rfl
  have q5 := hb.cell (i := 5) rfl
  refine bodyPost_ret (v := .agg #[.int .i64 sg, .int .i64 sc, .int .u64 ge, .int .u64 re, .int .u64 rs, .int .u64 fl]) (by simp [results, Try.f42, go_sem, q0, q1, q2, q3, q4, q5]) rfl ⟨rfl, (Keeps.refl _ _).alloc _⟩
theorem get_nil (w : World) : Calls Try.prog 42 #[.pointer none] w (SXP SX.zero w) := by
  have hb := Blk.new w 71 s71
  unfold s71 SX.zero SX.cells at hb
  have z0 := hb.free 0
  have z1 := hb.free 1
  have z2 := hb.free 2
  have z3 := hb.free 3
  have z4 := hb.free 4
  have z5 := hb.free 5
  have y0 := hb.cell (i := 0) rfl
  have y1 := hb.cell (i := 1) rfl
  have y2 := hb.cell (i := 2) rfl
  have y3 := hb.cell (i := 3) rfl
  have y4 := hb.cell (i := 4) rfl
  have y5 := hb.cell (i := 5) rfl
  have HB := Lib.hid hb
  clear hb
  go_enter Try.func42, Try.ntmps42
  go_wp2_with fail
  refine bodyPost_ret (v := .agg #[.int .i64 0, .int .i64 0, .int .u64 0, .int .u64 0, .int .u64 0, .int .u64 0]) (by simp [results, Try.f42, go_sem, y0, y1, y2, y3, y4, y5]) rfl ⟨rfl, (Keeps.refl _ _).alloc _⟩
theorem disk_nil (w : World) : Calls Try.prog 49 #[.pointer none] w fun e w' => e = .returned (.pointer none) ∧ w = w' := by
  go_enter Try.func49, Try.ntmps49
  go_wp2_with fail
  go_ret
  exact ⟨rfl, rfl⟩
theorem base_nil (i : Int) (w : World) : Calls Try.prog 48 #[.pointer none, .int .i64 i] w fun e w' => e = .returned (.tuple #[.int .i64 0, .int .i64 1]) ∧ w = w' := by
  go_enter Try.func48, Try.ntmps48
  go_wp2_with fail
  refine bodyPost_ret (v := .tuple #[.int .i64 0, .int .i64 1]) (by simp [results, Try.f48, go_sem]) rfl ⟨rfl, rfl⟩
theorem open_nil (w : World) : Calls Try.prog 47 #[.pointer none] w fun e w' => e = .returned (.tuple #[.pointer none, .int .i64 1]) ∧ w = w' := by
  go_enter Try.func47, Try.ntmps47
  go_wp2_with fail
  refine bodyPost_ret (v := .tuple #[.pointer none, .int .i64 1]) (by simp [results, Try.f47, go_sem]) rfl ⟨rfl, rfl⟩
theorem format_nil (s c : Int) (w : World) : Calls Try.prog 39 #[.pointer none, .int .i64 s, .int .i64 c] w fun e w' => e = .returned (.tuple #[.pointer none, .int .i64 1]) ∧ w = w' := by
  go_enter Try.func39, Try.ntmps39
  go_wp2_with fail
  refine bodyPost_ret (v := .tuple #[.pointer none, .int .i64 1]) (by simp [results, Try.f39, go_sem]) rfl ⟨rfl, rfl⟩
theorem set_nil (x : SX) (w : World) : Calls Try.prog 41 #[.pointer none, x.val] w fun e w' => e = .returned (.int .i64 1) ∧ Keeps (fun _ => False) w w' := by
  have hk : Keeps (fun _ => False) w (w.alloc (.cells x.cells.toArray 71)) := (Keeps.refl _ _).alloc _
  unfold SX.val SX.cells at *
  go_enter Try.func41, Try.ntmps41
  go_wp2_with fail
  go_ret
  exact ⟨rfl, hk⟩
/-- Is there room? -/
theorem room_any (L : DL) (D : DD) (x : SX) (hx : x.may) (w : World) (h : DkAt w L D) : Calls Try.prog 69 #[L.ptr, x.val] w (BoolP (decide (2 + x.sg * x.sc ≤ (D.n : Int))) w) := by
  obtain ⟨m1, m2, m3, m4, m5⟩ := hx
  obtain ⟨q1, q2⟩ : 0 ≤ x.sg * x.sc ∧ x.sg * x.sc ≤ 1024 := ⟨Int.mul_nonneg (by omega) (by omega), by
    have := Int.mul_le_mul m2 m4 (by omega) (by omega)
    omega⟩
  have hn := h.n2
  have hk : Keeps (fun _ => False) w (w.alloc (.cells x.cells.toArray 71)) := (Keeps.refl _ _).alloc _
  have HL := Lib.hid (fun n => (len_any L D ((w.alloc (.cells x.cells.toArray 71)).drewN n) (h.quiet (hk.drewN n))).mono fun _ _ h => (⟨h.1, h.2.symm⟩ : _ ∧ _ = ((w.alloc (.cells x.cells.toArray 71)).drewN n)))
  have HK := Lib.hid hk
  unfold DL.ptr SX.val SX.cells at *
  clear h hk
  go_enter Try.func69, Try.ntmps69
  go_wp2_with fail
  go_quiet (first | (go_at_call 26; exact Calls.quiet_of_same (HL.out _)))
  go_wp2_with fail
  go_ret
  exact ⟨rfl, HK.out.drewN _⟩
end Go.Proofs.Ytjiammhmeliogaa
