/- A disk of one's own, beside blocks that are reserved. -/
import Derived.Test.YtjiammhmeliogaaSto
import Derived.Test.YtjiammhmeliogaaWorn
import Derived.Test.YtjiammhmeliogaaCrash0
namespace Go.Proofs.Ytjiammhmeliogaa
open Go.RowKit
set_option linter.unusedVariables false
set_option linter.unusedSimpArgs false

/-- k things more can be done to it. -/
def Fine (k : Nat) (D : DD) : Prop := D.ok ∧ D.ops + k < 1000000000000 ∧ D.p.length + k < 1000000
theorem Fine.less {k j : Nat} {D : DD} (h : Fine k D) (hj : j ≤ k) : Fine j D := ⟨h.1, by have := h.2.1; omega, by have := h.2.2; omega⟩
theorem Fine.ready {k : Nat} {D : DD} (h : Fine k D) (i : Int) : Fine k (D.ready i).2 := by
  obtain ⟨e1, e2, e3, e4, e5, e6, e7⟩ := ready_same D i
  unfold Fine DD.ok at *
  rw [e3, e5, e6, e7]
  exact h
theorem Fine.done {k : Nat} {D : DD} (h : Fine (k + 1) D) (hl : ¬ (D.armed = true ∧ D.left = 0)) : Fine k D.done := by
  unfold Fine DD.ok DD.done at *
  obtain ⟨h1, h2, h3⟩ := h
  refine ⟨fun ha => ?_, by show D.ops + 1 + k < _; omega, by show D.p.length + k < _; omega⟩
  have ha : D.armed = true := ha
  have := h1 ha
  show 0 ≤ if D.armed = true then D.left - 1 else D.left
  rw [if_pos ha]
  have : D.left ≠ 0 := fun e => hl ⟨ha, e⟩
  omega
theorem Fine.gone {k : Nat} {D : DD} (h : Fine k D) : Fine k D.gone := ⟨fun h => by simp [DD.gone] at h, h.2.1, h.2.2⟩
theorem Fine.write {k : Nat} {D : DD} (h : Fine (k + 1) D) (i : Int) (b : List Int) : Fine k (D.write i b).2 := by
  have hr := h.ready i
  have hp := (ready_same D i).2.2.1
  unfold DD.write
  split
  · exact hr.less (Nat.le_succ _)
  · split
    · exact (hr.gone).less (Nat.le_succ _)
    · rename_i hl
      have h2 := hr.done hl
      have h3 := h.2.2
      refine ⟨h2.1, h2.2.1, ?_⟩
      show (D.p ++ [(i.toNat, b)]).length + k < _
      rw [List.length_append]
      simp
      omega
theorem Fine.sync {k : Nat} {D : DD} (h : Fine (k + 1) D) : Fine k D.sync.2 := by
  have hr := h.ready 0
  unfold DD.sync
  split
  · exact hr.less (Nat.le_succ _)
  · split
    · exact (hr.gone).less (Nat.le_succ _)
    · rename_i hl
      have h2 := hr.done hl
      refine ⟨h2.1, h2.2.1, ?_⟩
      have := h.2.2
      show ([] : List (Nat × List Int)).length + k < _
      simp
      omega
theorem Fine.arm {k : Nat} {D : DD} (h : Fine k D) (n : Int) : Fine k (D.arm n).2 := by
  unfold DD.arm
  split
  · exact h
  · exact ⟨fun ha => by simpa using ha, h.2.1, h.2.2⟩
theorem Fine.fail {k : Nat} {D : DD} (h : Fine k D) (n : Int) : Fine k (D.fail n).2 := by
  unfold DD.fail
  split
  · exact h
  · exact ⟨h.1, h.2.1, h.2.2⟩
theorem Fine.crash {k : Nat} {D : DD} (h : Fine k D) (xs : List Bool) : Fine k (D.crash xs) := by
  have := h.2.2
  exact ⟨fun ha => by simp [DD.crash] at ha, h.2.1, by show ([] : List (Nat × List Int)).length + k < _; simp; omega⟩

/-- The disk at B, its blocks as old as w0 at most; the blocks R are none of its own. -/
def Dr (w0 w : World) (R : Nat → Prop) (B : Nat) (D : DD) : Prop := ∃ L : DL, L.B = B ∧ DkAt w L D ∧ (∀ k, L.own k → w0.heap.size ≤ k ∧ ¬ R k) ∧ (∀ k, R k → w0.heap.size ≤ k ∧ k < w.heap.size) ∧ Keeps (fun _ => False) w0 w
section
variable {w0 w w' : World} {R : Nat → Prop} {B : Nat} {D D' : DD}
theorem Dr.keep (h : Dr w0 w R B D) : Keeps (fun _ => False) w0 w := h.choose_spec.2.2.2.2
theorem Dr.quiet (h : Dr w0 w R B D) (hk : Keeps (fun _ => False) w w') : Dr w0 w' R B D := by
  obtain ⟨L, e, h1, h2, h3, h4⟩ := h
  exact ⟨L, e, h1.quiet hk, h2, fun k hr => ⟨(h3 k hr).1, Nat.lt_of_lt_of_le (h3 k hr).2 hk.size⟩, h4.trans hk⟩
/-- Reserved blocks are turned. -/
theorem Dr.turn (h : Dr w0 w R B D) (hk : Keeps R w w') : Dr w0 w' R B D := by
  obtain ⟨L, e, h1, h2, h3, h4⟩ := h
  exact ⟨L, e, h1.keep hk fun k ho => (h2 k ho).2, h2, fun k hr => ⟨(h3 k hr).1, Nat.lt_of_lt_of_le (h3 k hr).2 hk.size⟩,
    ((h4.mono fun _ _ h => h.elim).trans hk).mono fun k hk' hr => by have := (h3 k hr).1; omega⟩
theorem Dr.less {R' : Nat → Prop} (h : Dr w0 w R B D) (hs : ∀ k, R' k → R k) : Dr w0 w R' B D := by
  obtain ⟨L, e, h1, h2, h3, h4⟩ := h
  exact ⟨L, e, h1, fun k ho => ⟨(h2 k ho).1, fun hr => (h2 k ho).2 (hs k hr)⟩, fun k hr => h3 k (hs k hr), h4⟩
/-- New blocks are reserved. -/
theorem Dr.more (h : Dr w0 w R B D) (hk : Keeps (fun _ => False) w w') : Dr w0 w' (fun k => R k ∨ (w.heap.size ≤ k ∧ k < w'.heap.size)) B D := by
  obtain ⟨L, e, h1, h2, h3, h4⟩ := h
  refine ⟨L, e, h1.quiet hk, fun k ho => ⟨(h2 k ho).1, fun hr => hr.elim (h2 k ho).2 fun hr => ?_⟩, fun k hr => hr.elim (fun hr => ⟨(h3 k hr).1, Nat.lt_of_lt_of_le (h3 k hr).2 hk.size⟩) fun hr => ⟨Nat.le_trans h4.size hr.1, hr.2⟩, h4.trans hk⟩
  have := h1.lt k ho
  omega
theorem Dr.fine (h : Dr w0 w R B D) : 1 ≤ D.n ∧ D.n ≤ 2048 ∧ (∀ i, i < D.n → (D.f i).length = 64) := by
  obtain ⟨L, e, h1, _⟩ := h
  exact ⟨h1.n1, h1.n2, h1.fl⟩
theorem Dr.moved {L : DL} (e : L.B = B) (h1 : DkAt w L D) (h2 : ∀ k, L.own k → w0.heap.size ≤ k ∧ ¬ R k) (h3 : ∀ k, R k → w0.heap.size ≤ k ∧ k < w.heap.size) (h4 : Keeps (fun _ => False) w0 w) (hm : DMoved L D' w w') : Dr w0 w' R B D' ∧ Keeps (fun k => ¬ R k) w w' := by
  obtain ⟨L', e1, e2, e3, e4, e5⟩ := hm.here (fun k ho => (h2 k ho).1) h4.size
  have eB : L'.B = B := by
    unfold DL.ptr at e1
    injection e1 with e1
    injection e1 with e1
    injection e1 with e1
    exact e1.trans e
  refine ⟨⟨L', eB, e2, fun k ho => ⟨e3 k ho, fun hr => (e4 k ho).elim (fun ho => (h2 k ho).2 hr) fun hge => by have := (h3 k hr).2; omega⟩, fun k hr => ⟨(h3 k hr).1, Nat.lt_of_lt_of_le (h3 k hr).2 e5.size⟩, ((h4.mono fun _ _ h => h.elim).trans e5).mono fun k hk ho => by have := (h2 k ho).1; omega⟩, e5.mono fun k hk ho => (h2 k ho).2⟩
/-- A call that answers an Errno. -/
def DrP (w0 : World) (R : Nat → Prop) (B : Nat) (D' : DD) (c : Int) (w : World) (e : Ending) (w' : World) : Prop := e = .returned (.int .i64 c) ∧ Dr w0 w' R B D' ∧ Keeps (fun k => ¬ R k) w w'
theorem Dr.len (h : Dr w0 w R B D) : Calls Try.prog 26 #[.pointer (some ⟨B, 0, none⟩)] w fun e w' => e = .returned (.int .i64 (D.n : Int)) ∧ w = w' := by
  obtain ⟨L, rfl, h1, _⟩ := h
  exact len_any L D w h1
theorem Dr.room (h : Dr w0 w R B D) (x : SX) (hx : x.may) : Calls Try.prog 69 #[.pointer (some ⟨B, 0, none⟩), x.val] w (BoolP (decide (2 + x.sg * x.sc ≤ (D.n : Int))) w) := by
  obtain ⟨L, rfl, h1, _⟩ := h
  exact room_any L D x hx w h1
theorem Dr.write (h : Dr w0 w R B D) {m : Nat} (hf : Fine (m + 1) D) (i : Int) (b : List Int) (hb : b.length = 64) : Calls Try.prog 50 #[.pointer (some ⟨B, 0, none⟩), .int .i64 i, .agg (bk b).toArray] w (DrP w0 R B (D.write i b).2 (D.write i b).1 w) := by
  obtain ⟨L, e, h1, h2, h3, h4⟩ := h
  subst e
  refine (write_any L D w h1 hf.1 (by have := hf.2.1; omega) (by have := hf.2.2; omega) i b hb).mono ?_
  rintro e w' ⟨rfl, hm⟩
  exact ⟨rfl, Dr.moved rfl h1 h2 h3 h4 hm⟩
theorem Dr.sync (h : Dr w0 w R B D) {m : Nat} (hf : Fine (m + 1) D) : Calls Try.prog 31 #[.pointer (some ⟨B, 0, none⟩)] w (DrP w0 R B D.sync.2 D.sync.1 w) := by
  obtain ⟨L, e, h1, h2, h3, h4⟩ := h
  subst e
  refine (sync_any L D w h1 hf.1 (by have := hf.2.1; omega)).mono ?_
  rintro e w' ⟨rfl, hm⟩
  exact ⟨rfl, Dr.moved rfl h1 h2 h3 h4 hm⟩
theorem Dr.arm (h : Dr w0 w R B D) (n : Int) (hn : (Lit.int .i64 n).wf = true) : Calls Try.prog 29 #[.pointer (some ⟨B, 0, none⟩), .int .i64 n] w (DrP w0 R B (D.arm n).2 (D.arm n).1 w) := by
  obtain ⟨L, e, h1, h2, h3, h4⟩ := h
  subst e
  refine (arm_any L D w h1 n hn).mono ?_
  rintro e w' ⟨rfl, hd, hk⟩
  exact ⟨rfl, Dr.moved rfl h1 h2 h3 h4 (DMoved.of_step hd hk)⟩
theorem Dr.fail (h : Dr w0 w R B D) (n : Int) : Calls Try.prog 32 #[.pointer (some ⟨B, 0, none⟩), .int .i64 n] w (DrP w0 R B (D.fail n).2 (D.fail n).1 w) := by
  obtain ⟨L, e, h1, h2, h3, h4⟩ := h
  subst e
  refine (fail_any L D w h1 n).mono ?_
  rintro e w' ⟨rfl, hd, hk⟩
  exact ⟨rfl, Dr.moved rfl h1 h2 h3 h4 (DMoved.of_step hd hk)⟩
/-- A sector is read. -/
def DrR (w0 : World) (R : Nat → Prop) (B : Nat) (D' : DD) (b : List Int) (c : Int) (w : World) (e : Ending) (w' : World) : Prop := e = .returned (.tuple #[.agg (bk b).toArray, .int .i64 c]) ∧ Dr w0 w' R B D' ∧ Keeps (fun k => ¬ R k) w w'
theorem Dr.read (h : Dr w0 w R B D) (hf : Fine 0 D) (i : Int) : Calls Try.prog 27 #[.pointer (some ⟨B, 0, none⟩), .int .i64 i] w (DrR w0 R B (D.read i).2.2 (D.read i).1 (D.read i).2.1 w) := by
  obtain ⟨L, e, h1, h2, h3, h4⟩ := h
  subst e
  refine (read_any L D w h1 (by have := hf.2.1; omega) i).mono ?_
  rintro e w' ⟨rfl, hd, hk⟩
  exact ⟨rfl, Dr.moved rfl h1 h2 h3 h4 (DMoved.of_step hd hk)⟩
theorem Dr.pending (h : Dr w0 w R B D) : Calls Try.prog 33 #[.pointer (some ⟨B, 0, none⟩)] w (PendP D.p w) := by
  obtain ⟨L, rfl, h1, _⟩ := h
  exact pending_any L D w h1
theorem Dr.crash (h : Dr w0 w R B D) (ka : Option Addr) (kn kc : Nat) (xs : List Bool) (hkr : BoolRow w ka kn xs) (hka : ∀ b off, ka = some ⟨b, off, none⟩ → b < w0.heap.size ∨ R b) (hkn : kn ≤ 140737488355328) :
    Calls Try.prog 34 #[.pointer (some ⟨B, 0, none⟩), .slice ka kn kc] w (DrP w0 R B (D.crash xs) 0 w) := by
  obtain ⟨L, e, h1, h2, h3, h4⟩ := h
  subst e
  refine (crash_any L D w h1 ka kn kc xs hkr (fun b off hb hg => (hka b off hb).elim (fun hlt => by have := (h2 b (.inr (.inl hg))).1; omega) fun hr => (h2 b (.inr (.inl hg))).2 hr) hkn).mono ?_
  rintro e w' ⟨rfl, hm⟩
  exact ⟨rfl, Dr.moved rfl h1 h2 h3 h4 hm⟩
end
/-- A new disk. -/
def DrN (n : Nat) (w : World) (e : Ending) (w' : World) : Prop := ∃ B, e = .returned (.tuple #[.pointer (some ⟨B, 0, none⟩), .int .i64 0]) ∧ Dr w w' (fun _ => False) B (DD.fresh n)
theorem new_dr (n : Nat) (h1 : 1 ≤ n) (h2 : n ≤ 2048) (w : World) : Calls Try.prog 21 #[.int .i64 (n : Int)] w (DrN n w) := by
  refine (new_ok n h1 h2 w).mono ?_
  rintro e w' ⟨L, rfl, hd, ho, hk⟩
  exact ⟨L.B, rfl, L, rfl, hd, fun k h => ⟨ho k h, id⟩, fun k h => h.elim, hk⟩
theorem fresh_fine (n : Nat) : Fine 1000 (DD.fresh n) := ⟨fun h => by simp [DD.fresh] at h, by simp [DD.fresh], by simp [DD.fresh]⟩
end Go.Proofs.Ytjiammhmeliogaa
