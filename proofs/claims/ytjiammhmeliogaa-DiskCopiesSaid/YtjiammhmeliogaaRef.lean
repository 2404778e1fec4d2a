/- The document's disk: asked, done, Arm, Fail. -/
import Derived.Test.YtjiammhmeliogaaSmall
namespace Go.Proofs.Ytjiammhmeliogaa
open Go.RowKit
set_option linter.unusedVariables false
set_option linter.unusedSimpArgs false

/-- What the document's disk holds. -/
structure RD where
  n : Nat
  f : Nat → List Int
  p : List (Nat × List Int)
  dead : Bool
  left : Int
  fails : Int
  ops : Int
def rv (sv pv : Value) (R : RD) : Value := .agg #[sv, pv, .bool R.dead, .int .i64 R.left, .int .i64 R.fails, .int .i64 R.ops]
structure RdAt (w : World) (sv pv : Value) (R : RD) : Prop where
  safe : w.ownsRow 0 27 64 sv R.n (flat R.f R.n)
  pend : w.ownsRow 0 101 65 pv R.p.length (pflat R.p)
  n1 : 1 ≤ R.n
  n2 : R.n ≤ 2048
  fl : ∀ i, i < R.n → (R.f i).length = 64
  pl : ∀ a ∈ R.p, a.2.length = 64
  pa : ∀ a ∈ R.p, a.1 < R.n
  pn : R.p.length ≤ 1000000
  o1 : 0 ≤ R.ops
  o2 : R.ops ≤ 1000000000000
  l1 : -1 ≤ R.left
  l2 : R.left ≤ 9223372036854775807
  f1 : -1 ≤ R.fails
  f2 : R.fails ≤ 9223372036854775807

section
variable {w w' : World} {sv pv : Value} {R R' : RD}
theorem RdAt.keep (h : RdAt w sv pv R) {S : Nat → Prop} (hk : Keeps S w w') (h1 : ∀ g, sv.ownBlock = some g → ¬ S g) (h2 : ∀ g, pv.ownBlock = some g → ¬ S g) : RdAt w' sv pv R :=
  ⟨hk.own h.safe h1, hk.own h.pend h2, h.n1, h.n2, h.fl, h.pl, h.pa, h.pn, h.o1, h.o2, h.l1, h.l2, h.f1, h.f2⟩
theorem RdAt.quiet (h : RdAt w sv pv R) (hk : Keeps (fun _ => False) w w') : RdAt w' sv pv R := h.keep hk (fun _ _ => id) fun _ _ => id
theorem RdAt.turn (h : RdAt w sv pv R) (hn : R'.n = R.n) (hf : R'.f = R.f) (hp : R'.p = R.p)
    (o1 : 0 ≤ R'.ops) (o2 : R'.ops ≤ 1000000000000) (l1 : -1 ≤ R'.left) (l2 : R'.left ≤ 9223372036854775807) (f1 : -1 ≤ R'.fails) (f2 : R'.fails ≤ 9223372036854775807) : RdAt w sv pv R' :=
  ⟨by rw [hn, hf]; exact h.safe, by rw [hp]; exact h.pend, by rw [hn]; exact h.n1, by rw [hn]; exact h.n2, by rw [hn, hf]; exact h.fl, by rw [hp]; exact h.pl, by rw [hp, hn]; exact h.pa, by rw [hp]; exact h.pn, o1, o2, l1, l2, f1, f2⟩
end

/-- An operation of a sector is asked. -/
def RD.asked (R : RD) (i : Int) : Int × RD :=
  if R.dead then (7, R) else if i < 0 ∨ (R.n : Int) ≤ i then (2, R) else if R.fails = 0 then (8, { R with fails := -1 }) else if 0 < R.fails then (0, { R with fails := R.fails - 1 }) else (0, R)
def AskP (sv pv : Value) (R : RD) (c : Int) (w : World) (e : Ending) (w' : World) : Prop := e = .returned (.tuple #[rv sv pv R, .int .i64 c]) ∧ Keeps (fun _ => False) w w'

set_option maxHeartbeats 2000000 in
theorem asked_any (sv pv : Value) (R : RD) (w : World) (h : RdAt w sv pv R) (i : Int) : Calls Try.prog 59 #[rv sv pv R, .int .i64 i] w (AskP sv pv (R.asked i).2 (R.asked i).1 w) := by
  obtain ⟨sa, sc, rfl, _, hmx⟩ := own_slice h.safe
  obtain ⟨qa, qc, rfl, _, _⟩ := own_slice h.pend
  have n2 := h.n2
  have f1 := h.f1
  have f2 := h.f2
  have l1 := h.l1
  have l2 := h.l2
  have o1 := h.o1
  have o2 := h.o2
  unfold maxLen at hmx
  clear h
  obtain ⟨n, f, p, dead, left, fails, ops⟩ := R
  unfold rv at *
  dsimp only at *
  cases dead
  · by_cases h1 : i < 0
    · have HE : Hid (RD.asked ⟨n, f, p, false, left, fails, ops⟩ i = (2, ⟨n, f, p, false, left, fails, ops⟩)) := Lib.hid (by simp [RD.asked, h1])
      go_enter Try.func59, Try.ntmps59
      go_wp2
      refine bodyPost_ret (v := .tuple #[.agg #[.slice sa n sc, .slice qa p.length qc, .bool false, .int .i64 left, .int .i64 fails, .int .i64 ops], .int .i64 2]) (by simp [results, Try.f59, go_sem]) rfl ?_
      rw [HE.out]
      exact ⟨rfl, by (repeat (first | exact Keeps.refl _ _ | refine Keeps.alloc ?_ _ | refine Keeps.drew ?_ | refine Keeps.store ?_ (.inr (by simp)) _))⟩
    · have h1' : decide (i < 0) = false := by simpa using h1
      by_cases h2 : (n : Int) ≤ i
      · have HE : Hid (RD.asked ⟨n, f, p, false, left, fails, ops⟩ i = (2, ⟨n, f, p, false, left, fails, ops⟩)) := Lib.hid (by simp [RD.asked, h2])
        clear h1
        go_enter Try.func59, Try.ntmps59
        go_wp2
        refine bodyPost_ret (v := .tuple #[.agg #[.slice sa n sc, .slice qa p.length qc, .bool false, .int .i64 left, .int .i64 fails, .int .i64 ops], .int .i64 2]) (by simp [results, Try.f59, go_sem]) rfl ?_
        rw [HE.out]
        exact ⟨rfl, by (repeat (first | exact Keeps.refl _ _ | refine Keeps.alloc ?_ _ | refine Keeps.drew ?_ | refine Keeps.store ?_ (.inr (by simp)) _))⟩
      · have h2' : decide ((n : Int) ≤ i) = false := by simpa using h2
        by_cases h3 : fails = 0
        · subst h3
          have HE : Hid (RD.asked ⟨n, f, p, false, left, 0, ops⟩ i = (8, ⟨n, f, p, false, left, -1, ops⟩)) := Lib.hid (by simp [RD.asked, h1, h2])
          clear h1 h2
          go_enter Try.func59, Try.ntmps59
          go_wp2
          refine bodyPost_ret (v := .tuple #[.agg #[.slice sa n sc, .slice qa p.length qc, .bool false, .int .i64 left, .int .i64 (-1), .int .i64 ops], .int .i64 8]) (by simp [results, Try.f59, go_sem]) rfl ?_
          rw [HE.out]
          exact ⟨rfl, by (repeat (first | exact Keeps.refl _ _ | refine Keeps.alloc ?_ _ | refine Keeps.drew ?_ | refine Keeps.store ?_ (.inr (by simp)) _))⟩
        · have h3' : (fails == 0) = false := by simpa using h3
          by_cases h4 : 0 < fails
          · have HE : Hid (RD.asked ⟨n, f, p, false, left, fails, ops⟩ i = (0, ⟨n, f, p, false, left, fails - 1, ops⟩)) := Lib.hid (by simp [RD.asked, h1, h2, h3, h4])
            clear h1 h2 h3
            go_enter Try.func59, Try.ntmps59
            go_wp2
            refine bodyPost_ret (v := .tuple #[.agg #[.slice sa n sc, .slice qa p.length qc, .bool false, .int .i64 left, .int .i64 (fails - 1), .int .i64 ops], .int .i64 0]) (by simp [results, Try.f59, go_sem]) rfl ?_
            rw [HE.out]
            exact ⟨rfl, by (repeat (first | exact Keeps.refl _ _ | refine Keeps.alloc ?_ _ | refine Keeps.drew ?_ | refine Keeps.store ?_ (.inr (by simp)) _))⟩
          · have HE : Hid (RD.asked ⟨n, f, p, false, left, fails, ops⟩ i = (0, ⟨n, f, p, false, left, fails, ops⟩)) := Lib.hid (by simp [RD.asked, h1, h2, h3, h4])
            have h4' : decide (0 < fails) = false := by simpa using h4
            clear h1 h2 h3 h4
            go_enter Try.func59, Try.ntmps59
            go_wp2
            refine bodyPost_ret (v := .tuple #[.agg #[.slice sa n sc, .slice qa p.length qc, .bool false, .int .i64 left, .int .i64 fails, .int .i64 ops], .int .i64 0]) (by simp [results, Try.f59, go_sem]) rfl ?_
            rw [HE.out]
            exact ⟨rfl, by (repeat (first | exact Keeps.refl _ _ | refine Keeps.alloc ?_ _ | refine Keeps.drew ?_ | refine Keeps.store ?_ (.inr (by simp)) _))⟩
  · have HE : Hid (RD.asked ⟨n, f, p, true, left, fails, ops⟩ i = (7, ⟨n, f, p, true, left, fails, ops⟩)) := Lib.hid (by simp [RD.asked])
    go_enter Try.func59, Try.ntmps59
    go_wp2
    refine bodyPost_ret (v := .tuple #[.agg #[.slice sa n sc, .slice qa p.length qc, .bool true, .int .i64 left, .int .i64 fails, .int .i64 ops], .int .i64 7]) (by simp [results, Try.f59, go_sem]) rfl ?_
    rw [HE.out]
    exact ⟨rfl, by (repeat (first | exact Keeps.refl _ _ | refine Keeps.alloc ?_ _ | refine Keeps.drew ?_ | refine Keeps.store ?_ (.inr (by simp)) _))⟩

/-- Is a write or a sync done? -/
def RD.done (R : RD) : Bool × RD := if R.left = 0 then (false, { R with dead := true }) else if 0 < R.left then (true, { R with left := R.left - 1, ops := R.ops + 1 }) else (true, { R with ops := R.ops + 1 })
def DoneP (sv pv : Value) (R : RD) (c : Bool) (w : World) (e : Ending) (w' : World) : Prop := e = .returned (.tuple #[rv sv pv R, .bool c]) ∧ Keeps (fun _ => False) w w'
set_option maxHeartbeats 2000000 in
theorem rdone_any (sv pv : Value) (R : RD) (w : World) (h : RdAt w sv pv R) (hop : R.ops < 1000000000000) : Calls Try.prog 82 #[rv sv pv R] w (DoneP sv pv R.done.2 R.done.1 w) := by
  obtain ⟨sa, sc, rfl, _, hmx⟩ := own_slice h.safe
  obtain ⟨qa, qc, rfl, _, _⟩ := own_slice h.pend
  have n2 := h.n2
  have f1 := h.f1
  have f2 := h.f2
  have l1 := h.l1
  have l2 := h.l2
  have o1 := h.o1
  have o2 := h.o2
  unfold maxLen at hmx
  clear h
  obtain ⟨n, f, p, dead, left, fails, ops⟩ := R
  unfold rv at *
  dsimp only at *
  by_cases h1 : left = 0
  · subst h1
    have HE : Hid (RD.done ⟨n, f, p, dead, 0, fails, ops⟩ = (false, ⟨n, f, p, true, 0, fails, ops⟩)) := Lib.hid (by simp [RD.done])
    go_enter Try.func82, Try.ntmps82
    go_wp2
    refine bodyPost_ret (v := .tuple #[.agg #[.slice sa n sc, .slice qa p.length qc, .bool true, .int .i64 0, .int .i64 fails, .int .i64 ops], .bool false]) (by simp [results, Try.f82, go_sem]) rfl ?_
    rw [HE.out]
    exact ⟨rfl, by (repeat (first | exact Keeps.refl _ _ | refine Keeps.alloc ?_ _ | refine Keeps.drew ?_ | refine Keeps.store ?_ (.inr (by simp)) _))⟩
  · have h1' : (left == 0) = false := by simpa using h1
    by_cases h2 : 0 < left
    · have HE : Hid (RD.done ⟨n, f, p, dead, left, fails, ops⟩ = (true, ⟨n, f, p, dead, left - 1, fails, ops + 1⟩)) := Lib.hid (by simp [RD.done, h1, h2])
      clear h1
      go_enter Try.func82, Try.ntmps82
      go_wp2
      refine bodyPost_ret (v := .tuple #[.agg #[.slice sa n sc, .slice qa p.length qc, .bool dead, .int .i64 (left - 1), .int .i64 fails, .int .i64 (ops + 1)], .bool true]) (by simp [results, Try.f82, go_sem]) rfl ?_
      rw [HE.out]
      exact ⟨rfl, by (repeat (first | exact Keeps.refl _ _ | refine Keeps.alloc ?_ _ | refine Keeps.drew ?_ | refine Keeps.store ?_ (.inr (by simp)) _))⟩
    · have HE : Hid (RD.done ⟨n, f, p, dead, left, fails, ops⟩ = (true, ⟨n, f, p, dead, left, fails, ops + 1⟩)) := Lib.hid (by simp [RD.done, h1, h2])
      have h2' : decide (0 < left) = false := by simpa using h2
      clear h1 h2
      go_enter Try.func82, Try.ntmps82
      go_wp2
      refine bodyPost_ret (v := .tuple #[.agg #[.slice sa n sc, .slice qa p.length qc, .bool dead, .int .i64 left, .int .i64 fails, .int .i64 (ops + 1)], .bool true]) (by simp [results, Try.f82, go_sem]) rfl ?_
      rw [HE.out]
      exact ⟨rfl, by (repeat (first | exact Keeps.refl _ _ | refine Keeps.alloc ?_ _ | refine Keeps.drew ?_ | refine Keeps.store ?_ (.inr (by simp)) _))⟩

/-- Arm. -/
def RD.arm (R : RD) (m : Int) : Int × RD := if R.dead then (7, R) else (0, { R with left := if m < -1 then -1 else m })
set_option maxHeartbeats 2000000 in
theorem rarm_any (sv pv : Value) (R : RD) (w : World) (h : RdAt w sv pv R) (m : Int) : Calls Try.prog 54 #[rv sv pv R, .int .i64 m] w (AskP sv pv (R.arm m).2 (R.arm m).1 w) := by
  obtain ⟨sa, sc, rfl, _, hmx⟩ := own_slice h.safe
  obtain ⟨qa, qc, rfl, _, _⟩ := own_slice h.pend
  have n2 := h.n2
  have f1 := h.f1
  have f2 := h.f2
  have l1 := h.l1
  have l2 := h.l2
  have o1 := h.o1
  have o2 := h.o2
  unfold maxLen at hmx
  clear h
  obtain ⟨n, f, p, dead, left, fails, ops⟩ := R
  unfold rv at *
  dsimp only at *
  cases dead
  · by_cases h1 : m < -1
    · have HE : Hid (RD.arm ⟨n, f, p, false, left, fails, ops⟩ m = (0, ⟨n, f, p, false, -1, fails, ops⟩)) := Lib.hid (by simp [RD.arm, h1])
      go_enter Try.func54, Try.ntmps54
      go_wp2
      refine bodyPost_ret (v := .tuple #[.agg #[.slice sa n sc, .slice qa p.length qc, .bool false, .int .i64 (-1), .int .i64 fails, .int .i64 ops], .int .i64 0]) (by simp [results, Try.f54, go_sem]) rfl ?_
      rw [HE.out]
      exact ⟨rfl, by (repeat (first | exact Keeps.refl _ _ | refine Keeps.alloc ?_ _ | refine Keeps.drew ?_ | refine Keeps.store ?_ (.inr (by simp)) _))⟩
    · have HE : Hid (RD.arm ⟨n, f, p, false, left, fails, ops⟩ m = (0, ⟨n, f, p, false, m, fails, ops⟩)) := Lib.hid (by simp [RD.arm, h1])
      have h1' : -1 ≤ m := by omega
      clear h1
      go_enter Try.func54, Try.ntmps54
      go_wp2
      refine bodyPost_ret (v := .tuple #[.agg #[.slice sa n sc, .slice qa p.length qc, .bool false, .int .i64 m, .int .i64 fails, .int .i64 ops], .int .i64 0]) (by simp [results, Try.f54, go_sem]) rfl ?_
      rw [HE.out]
      exact ⟨rfl, by (repeat (first | exact Keeps.refl _ _ | refine Keeps.alloc ?_ _ | refine Keeps.drew ?_ | refine Keeps.store ?_ (.inr (by simp)) _))⟩
  · have HE : Hid (RD.arm ⟨n, f, p, true, left, fails, ops⟩ m = (7, ⟨n, f, p, true, left, fails, ops⟩)) := Lib.hid (by simp [RD.arm])
    go_enter Try.func54, Try.ntmps54
    go_wp2
    refine bodyPost_ret (v := .tuple #[.agg #[.slice sa n sc, .slice qa p.length qc, .bool true, .int .i64 left, .int .i64 fails, .int .i64 ops], .int .i64 7]) (by simp [results, Try.f54, go_sem]) rfl ?_
    rw [HE.out]
    exact ⟨rfl, by (repeat (first | exact Keeps.refl _ _ | refine Keeps.alloc ?_ _ | refine Keeps.drew ?_ | refine Keeps.store ?_ (.inr (by simp)) _))⟩

/-- Fail. -/
def RD.fail (R : RD) (m : Int) : Int × RD := if R.dead then (7, R) else (0, { R with fails := if m < -1 then -1 else m })
set_option maxHeartbeats 2000000 in
theorem rfail_any (sv pv : Value) (R : RD) (w : World) (h : RdAt w sv pv R) (m : Int) : Calls Try.prog 55 #[rv sv pv R, .int .i64 m] w (AskP sv pv (R.fail m).2 (R.fail m).1 w) := by
  obtain ⟨sa, sc, rfl, _, hmx⟩ := own_slice h.safe
  obtain ⟨qa, qc, rfl, _, _⟩ := own_slice h.pend
  have n2 := h.n2
  have f1 := h.f1
  have f2 := h.f2
  have l1 := h.l1
  have l2 := h.l2
  have o1 := h.o1
  have o2 := h.o2
  unfold maxLen at hmx
  clear h
  obtain ⟨n, f, p, dead, left, fails, ops⟩ := R
  unfold rv at *
  dsimp only at *
  cases dead
  · by_cases h1 : m < -1
    · have HE : Hid (RD.fail ⟨n, f, p, false, left, fails, ops⟩ m = (0, ⟨n, f, p, false, left, -1, ops⟩)) := Lib.hid (by simp [RD.fail, h1])
      go_enter Try.func55, Try.ntmps55
      go_wp2
      refine bodyPost_ret (v := .tuple #[.agg #[.slice sa n sc, .slice qa p.length qc, .bool false, .int .i64 left, .int .i64 (-1), .int .i64 ops], .int .i64 0]) (by simp [results, Try.f55, go_sem]) rfl ?_
      rw [HE.out]
      exact ⟨rfl, by (repeat (first | exact Keeps.refl _ _ | refine Keeps.alloc ?_ _ | refine Keeps.drew ?_ | refine Keeps.store ?_ (.inr (by simp)) _))⟩
    · have HE : Hid (RD.fail ⟨n, f, p, false, left, fails, ops⟩ m = (0, ⟨n, f, p, false, left, m, ops⟩)) := Lib.hid (by simp [RD.fail, h1])
      have h1' : -1 ≤ m := by omega
      clear h1
      go_enter Try.func55, Try.ntmps55
      go_wp2
      refine bodyPost_ret (v := .tuple #[.agg #[.slice sa n sc, .slice qa p.length qc, .bool false, .int .i64 left, .int .i64 m, .int .i64 ops], .int .i64 0]) (by simp [results, Try.f55, go_sem]) rfl ?_
      rw [HE.out]
      exact ⟨rfl, by (repeat (first | exact Keeps.refl _ _ | refine Keeps.alloc ?_ _ | refine Keeps.drew ?_ | refine Keeps.store ?_ (.inr (by simp)) _))⟩
  · have HE : Hid (RD.fail ⟨n, f, p, true, left, fails, ops⟩ m = (7, ⟨n, f, p, true, left, fails, ops⟩)) := Lib.hid (by simp [RD.fail])
    go_enter Try.func55, Try.ntmps55
    go_wp2
    refine bodyPost_ret (v := .tuple #[.agg #[.slice sa n sc, .slice qa p.length qc, .bool true, .int .i64 left, .int .i64 fails, .int .i64 ops], .int .i64 7]) (by simp [results, Try.f55, go_sem]) rfl ?_
    rw [HE.out]
    exact ⟨rfl, by (repeat (first | exact Keeps.refl _ _ | refine Keeps.alloc ?_ _ | refine Keeps.drew ?_ | refine Keeps.store ?_ (.inr (by simp)) _))⟩
end Go.Proofs.Ytjiammhmeliogaa
