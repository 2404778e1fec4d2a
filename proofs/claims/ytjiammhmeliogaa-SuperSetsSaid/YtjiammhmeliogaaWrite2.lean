/- do; Write. -/
import Derived.Test.YtjiammhmeliogaaWrite
namespace Go.Proofs.Ytjiammhmeliogaa
open Go.RowKit
set_option linter.unusedVariables false

/-- The power goes. -/
def DD.gone (D : DD) : DD := { D with dead := true, armed := false }
/-- Something is done. -/
def DD.done (D : DD) : DD := { D with left := if D.armed then D.left - 1 else D.left, ops := D.ops + 1 }

theorem do_dead (L : DL) (D : DD) (w : World) (h : DkAt w L D) (fv : Value) (ha : D.armed = true) (hl : D.left = 0) : Calls Try.prog 62 #[L.ptr, fv] w (DStep L 7 D.gone w) := by
  have HD := Lib.hid h
  obtain ⟨c0, c1, c2, c3, c4, c5, c6⟩ := h.cells
  rw [ha] at c3
  rw [hl] at c4
  have k2 := h.obj.free 2
  have k3 := h.obj.free 3
  unfold DL.ptr
  clear h ha hl
  go_enter Try.func62, Try.ntmps62
  go_wp2_with fail
  go_ret
  have hk : Keeps (fun k => k = L.B) w ((w.setCell ⟨L.B, 2, none⟩ (.bool true)).setCell ⟨L.B, 3, none⟩ (.bool false)) := ((Keeps.refl (fun k => k = L.B) w).store (p := ⟨L.B, 2, none⟩) (.inl rfl) _).store (p := ⟨L.B, 3, none⟩) (.inl rfl) _
  exact ⟨rfl, HD.out.turn hk ((HD.out.obj.store 2 _).store 3 _) rfl rfl rfl HD.out.o1 HD.out.o2 HD.out.l1 HD.out.l2 HD.out.f1 HD.out.f2, hk⟩

theorem DMoved.after {L : DL} {D' : DD} {w w1 w' : World} (h : DMoved L D' w1 w') (hk : Keeps (fun k => k = L.B) w w1) : DMoved L D' w w' := by
  obtain ⟨pv, h1, h2, h3⟩ := h
  refine ⟨pv, h1, fun g hg => ?_, (hk.mono fun k _ e => .inl e).trans h3⟩
  rcases h2 g hg with h2 | h2
  · exact .inl h2
  · exact .inr (Nat.le_trans hk.size h2)
theorem DMoved.of_step {L : DL} {D' : DD} {w w' : World} (h : DkAt w' L D') (hk : Keeps (fun k => k = L.B) w w') : DMoved L D' w w' :=
  ⟨L.pv, h, fun g hg => .inl hg, hk.mono fun k _ e => .inl e⟩
theorem DMoved.quiet {L : DL} {D' : DD} {w w1 w' : World} (h : DMoved L D' w1 w') (hk : Keeps (fun _ => False) w w1) : DMoved L D' w w' := h.after (hk.mono fun _ _ h => h.elim)
theorem DMoved.quiet2 {L : DL} {D' : DD} {w w1 w' : World} (h : DMoved L D' w w1) (hk : Keeps (fun _ => False) w1 w') : DMoved L D' w w' := by
  obtain ⟨pv, h1, h2, h3⟩ := h
  exact ⟨pv, h1.quiet hk, h2, h3.trans (hk.mono fun _ _ h => h.elim)⟩

/-- What the disk is when what is to be done is done. -/
structure DoneAt (L : DL) (D : DD) (w w1 : World) : Prop where
  at_ : DkAt w1 L D.done
  keeps : Keeps (fun k => k = L.B) w w1

set_option maxHeartbeats 1000000 in
/-- do, where the power does not go; what it does is function 81. -/
theorem do_write (L : DL) (D : DD) (w : World) (h : DkAt w L D) (hla : D.armed = true → 0 < D.left) (hop : D.ops < 1000000000000) (pb ib bb i : Nat) (b : List Int) (hi : i < D.n) (hb : b.length = 64) (h1 : Blk w pb 24 [L.ptr]) (h2 : Blk w ib 3 [.int .i64 (i : Int)]) (h3 : Blk w bb 27 (bk b)) (hpn : D.p.length < 1000000) :
    Calls Try.prog 62 #[L.ptr, .func (.func 81) #[] #[.pointer (some ⟨pb, 0, none⟩), .pointer (some ⟨ib, 0, none⟩), .pointer (some ⟨bb, 0, none⟩)]] w fun e w' => e = .returned (.int .i64 0) ∧ DMoved L { D.done with p := D.p ++ [(i, b)] } w w' := by
  have HD := Lib.hid h
  obtain ⟨c0, c1, c2, c3, c4, c5, c6⟩ := h.cells
  have k4 := h.obj.free 4
  have k6 := h.obj.free 6
  have o1 := h.o1
  have l1 := h.l1
  have l2 := h.l2
  have hf : Hid (∀ w1, DkAt w1 L D.done → Keeps (fun k => k = L.B) w w1 → Calls Try.prog 81 #[.pointer (some ⟨pb, 0, none⟩), .pointer (some ⟨ib, 0, none⟩), .pointer (some ⟨bb, 0, none⟩)] w1 fun e w' => (∃ v, e = .returned v) ∧ DMoved L { D.done with p := D.p ++ [(i, b)] } w w') := Lib.hid fun w1 hd hk =>
    (write_fn L D.done w1 hd pb ib bb i b hi hb (hk.blk h1 (h1.ne h.obj (by decide))) (hk.blk h2 (h2.ne h.obj (by decide))) (hk.blk h3 (h3.ne h.obj (by decide))) hpn).mono fun e w' ⟨a, m⟩ => ⟨a, m.after hk⟩
  clear h h1 h2 h3
  cases ha : D.armed
  · rw [ha] at c3
    have HE : Hid (D.done = { D with ops := D.ops + 1 }) := Lib.hid (by unfold DD.done; simp [ha])
    clear ha hla
    unfold DL.ptr at *
    go_enter Try.func62, Try.ntmps62
    go_wp2_with fail
    have hk : Keeps (fun k => k = L.B) w (w.setCell ⟨L.B, 6, none⟩ (.int .i64 (D.ops + 1))) := (Keeps.refl (fun k => k = L.B) w).store (p := ⟨L.B, 6, none⟩) (.inl rfl) _
    refine (hf.out _ (by rw [HE.out]; exact HD.out.turn hk (HD.out.obj.store 6 _) rfl rfl rfl (by show 0 ≤ D.ops + 1; omega) (by show D.ops + 1 ≤ _; omega) HD.out.l1 HD.out.l2 HD.out.f1 HD.out.f2) hk).mono ?_
    rintro e w' ⟨⟨v, rfl⟩, hm⟩
    have HM := Lib.hid hm
    clear hm
    go_wp2_with fail
    go_ret
    exact ⟨rfl, HM.out⟩
  · rw [ha] at c3
    have hpos := hla ha
    have HE : Hid (D.done = { D with left := D.left - 1, ops := D.ops + 1 }) := Lib.hid (by unfold DD.done; simp [ha])
    have hne : (D.left == 0) = false := by rw [beq_eq_false_iff_ne]; omega
    clear ha hla
    unfold DL.ptr at *
    go_enter Try.func62, Try.ntmps62
    go_wp2_with fail
    have hk : Keeps (fun k => k = L.B) w ((w.setCell ⟨L.B, 4, none⟩ (.int .i64 (D.left - 1))).setCell ⟨L.B, 6, none⟩ (.int .i64 (D.ops + 1))) := ((Keeps.refl (fun k => k = L.B) w).store (p := ⟨L.B, 4, none⟩) (.inl rfl) _).store (p := ⟨L.B, 6, none⟩) (.inl rfl) _
    refine (hf.out _ (by rw [HE.out]; exact HD.out.turn hk ((HD.out.obj.store 4 _).store 6 _) rfl rfl rfl (by show 0 ≤ D.ops + 1; omega) (by show D.ops + 1 ≤ _; omega) (by show _ ≤ D.left - 1; omega) (by show D.left - 1 ≤ _; omega) HD.out.f1 HD.out.f2) hk).mono ?_
    rintro e w' ⟨⟨v, rfl⟩, hm⟩
    have HM := Lib.hid hm
    clear hm
    go_wp2_with fail
    go_ret
    exact ⟨rfl, HM.out⟩

/-- What Write answers and makes of the disk. -/
def DD.write (D : DD) (i : Int) (b : List Int) : Int × DD :=
  if (D.ready i).1 ≠ 0 then D.ready i
  else if (D.ready i).2.armed = true ∧ (D.ready i).2.left = 0 then (7, (D.ready i).2.gone)
  else (0, { (D.ready i).2.done with p := D.p ++ [(i.toNat, b)] })

/-- What holds of the count that is left. -/
def DD.ok (D : DD) : Prop := D.armed = true → 0 ≤ D.left

theorem ready_cases (D : DD) (i : Int) : ((D.ready i).1 ≠ 0) ∨ ((D.ready i).1 = 0 ∧ 0 ≤ i ∧ i < D.n) := by
  unfold DD.ready
  by_cases h1 : D.dead = true
  · simp [h1]
  · by_cases h2 : i < 0 ∨ (D.n : Int) ≤ i
    · simp [h1, h2]
    · by_cases h3 : D.fails = 1
      · simp [h1, h2, h3]
      · by_cases h4 : 1 < D.fails
        · simp [h1, h2, h3, h4]; omega
        · simp [h1, h2, h3, h4]; omega
theorem ready_same (D : DD) (i : Int) : (D.ready i).2.n = D.n ∧ (D.ready i).2.f = D.f ∧ (D.ready i).2.p = D.p ∧ (D.ready i).2.dead = D.dead ∧ (D.ready i).2.armed = D.armed ∧ (D.ready i).2.left = D.left ∧ (D.ready i).2.ops = D.ops := by
  unfold DD.ready
  by_cases h1 : D.dead = true
  · simp [h1]
  · by_cases h2 : i < 0 ∨ (D.n : Int) ≤ i
    · simp [h1, h2]
    · by_cases h3 : D.fails = 1
      · simp [h1, h2, h3]
      · by_cases h4 : 1 < D.fails
        · simp [h1, h2, h3, h4]
        · simp [h1, h2, h3, h4]
end Go.Proofs.Ytjiammhmeliogaa
