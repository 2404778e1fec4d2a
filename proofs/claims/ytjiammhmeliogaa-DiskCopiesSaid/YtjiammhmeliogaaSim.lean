/- The disk does as the document says: the plain law. -/
import Derived.Test.YtjiammhmeliogaaRefW
namespace Go.Proofs.Ytjiammhmeliogaa
open Go.RowKit
set_option linter.unusedVariables false
set_option linter.unusedSimpArgs false

/-- A disk is as the document says, behind t operations. -/
structure Sim (t : Nat) (D : DD) (R : RD) : Prop where
  n : R.n = D.n
  f : R.f = D.f
  p : R.p = D.p
  dead : R.dead = D.dead
  ops : R.ops = D.ops
  a1 : D.armed = true → R.left = D.left ∧ 0 ≤ D.left
  a2 : D.armed = false → R.left = -1 ∨ D.dead = true
  f0 : 0 ≤ D.fails
  f1 : 0 < D.fails → R.fails = D.fails - 1
  f2 : D.fails = 0 → R.fails = -1 ∨ 4611686018427387904 - (t : Int) ≤ R.fails
  ob : D.ops ≤ t
  pb : D.p.length ≤ t
  tb : t ≤ 1000

variable {t : Nat} {D : DD} {R : RD}
theorem Sim.ok (h : Sim t D R) : D.ok := fun ha => (h.a1 ha).2
theorem Sim.more (h : Sim t D R) (ht : t < 1000) : Sim (t + 1) D R :=
  ⟨h.n, h.f, h.p, h.dead, h.ops, h.a1, h.a2, h.f0, h.f1, fun e => (h.f2 e).imp id fun h => by omega, by have := h.ob; omega, by have := h.pb; omega, by omega⟩
theorem Sim.fresh (n : Nat) : Sim 0 (DD.fresh n) (RD.fresh n) :=
  ⟨rfl, rfl, rfl, rfl, rfl, (fun h => by cases h), fun _ => .inl rfl, Int.le_refl _, (fun h => by simp [DD.fresh] at h), fun _ => .inl rfl, Int.le_refl _, Nat.le_refl _, by omega⟩

/-- Asked. -/
theorem Sim.asked (h : Sim t D R) (ht : t < 1000) (i : Int) : (R.asked i).1 = (D.ready i).1 ∧ Sim (t + 1) (D.ready i).2 (R.asked i).2 := by
  have hm := h.more ht
  have hn := h.n
  unfold RD.asked DD.ready
  by_cases h1 : D.dead = true
  · rw [if_pos (show R.dead = true by rw [h.dead]; exact h1), if_pos h1]
    exact ⟨rfl, hm⟩
  · rw [if_neg (show ¬ R.dead = true by rw [h.dead]; exact h1), if_neg h1]
    by_cases h2 : i < 0 ∨ (D.n : Int) ≤ i
    · rw [if_pos (show i < 0 ∨ (R.n : Int) ≤ i by rw [hn]; exact h2), if_pos h2]
      exact ⟨rfl, hm⟩
    · rw [if_neg (show ¬ (i < 0 ∨ (R.n : Int) ≤ i) by rw [hn]; exact h2), if_neg h2]
      have f0 := h.f0
      by_cases h3 : D.fails = 1
      · have e := h.f1 (by omega)
        rw [if_pos h3, if_pos (by omega)]
        exact ⟨rfl, h.n, h.f, h.p, h.dead, h.ops, h.a1, h.a2, Int.le_refl _, (fun h => by simp at h), fun _ => .inl rfl, hm.ob, hm.pb, hm.tb⟩
      · by_cases h4 : 1 < D.fails
        · have e := h.f1 (by omega)
          rw [if_neg h3, if_pos h4, if_neg (by omega), if_pos (by omega)]
          refine ⟨rfl, h.n, h.f, h.p, h.dead, h.ops, h.a1, h.a2, ?_, fun _ => ?_, fun h => ?_, hm.ob, hm.pb, hm.tb⟩
          · show 0 ≤ D.fails - 1
            omega
          · show R.fails - 1 = D.fails - 1 - 1
            omega
          · have h' : D.fails - 1 = 0 := h
            omega
        · have e0 : D.fails = 0 := by omega
          rw [if_neg h3, if_neg h4]
          rcases h.f2 e0 with e | e
          · rw [if_neg (by omega), if_neg (by omega)]
            exact ⟨rfl, hm⟩
          · rw [if_neg (by omega), if_pos (by omega)]
            refine ⟨rfl, h.n, h.f, h.p, h.dead, h.ops, h.a1, h.a2, h.f0, fun h => ?_, fun _ => .inr ?_, hm.ob, hm.pb, hm.tb⟩
            · have h' : 0 < D.fails := h
              omega
            · show 4611686018427387904 - ((t + 1 : Nat) : Int) ≤ R.fails - 1
              omega

/-- Done. -/
theorem Sim.done (h : Sim t D R) (hd : D.dead = false) (ht : t < 1000) : (R.done.1 = false ↔ (D.armed = true ∧ D.left = 0)) ∧
    (D.armed = true ∧ D.left = 0 → Sim (t + 1) D.gone R.done.2) ∧ (¬ (D.armed = true ∧ D.left = 0) → Sim (t + 1) D.done R.done.2) := by
  have hm := h.more ht
  have hl : R.left = 0 ↔ (D.armed = true ∧ D.left = 0) := by
    cases ha : D.armed
    · have := h.a2 ha
      rw [hd] at this
      simp at this
      simp [this]
    · have := h.a1 ha
      simp [this.1]
  refine ⟨?_, fun hg => ?_, fun hg => ?_⟩
  · rw [← hl]
    unfold RD.done
    by_cases e : R.left = 0
    · rw [if_pos e]
      simp [e]
    · rw [if_neg e]
      split <;> simp [e]
  · have e := hl.2 hg
    unfold RD.done DD.gone
    rw [if_pos e]
    exact ⟨h.n, h.f, h.p, rfl, h.ops, (fun h => by cases h), fun _ => .inr rfl, h.f0, h.f1, hm.f2, hm.ob, hm.pb, hm.tb⟩
  · have e : R.left ≠ 0 := fun e => hg (hl.1 e)
    unfold RD.done DD.done
    rw [if_neg e]
    have ho := h.ops
    have hob := h.ob
    by_cases ha : D.armed = true
    · have h1 := h.a1 ha
      rw [if_pos (show 0 < R.left by omega), if_pos ha]
      refine ⟨h.n, h.f, h.p, h.dead, ?_, fun _ => ?_, fun h => ?_, h.f0, h.f1, hm.f2, ?_, hm.pb, hm.tb⟩
      · show R.ops + 1 = D.ops + 1
        omega
      · show R.left - 1 = D.left - 1 ∧ 0 ≤ D.left - 1
        omega
      · have h' : D.armed = false := h
        rw [ha] at h'
        cases h'
      · show D.ops + 1 ≤ ((t + 1 : Nat) : Int)
        omega
    · have ha' : D.armed = false := by simpa using ha
      have h2 := h.a2 ha'
      rw [hd] at h2
      have h2' : R.left = -1 := h2.resolve_right (by simp)
      rw [if_neg (show ¬ 0 < R.left by omega), if_neg ha]
      refine ⟨h.n, h.f, h.p, h.dead, ?_, fun h => absurd h ha, fun _ => .inl h2', h.f0, h.f1, hm.f2, ?_, hm.pb, hm.tb⟩
      · show R.ops + 1 = D.ops + 1
        omega
      · show D.ops + 1 ≤ ((t + 1 : Nat) : Int)
        omega

theorem ready_live (D : DD) (i : Int) (h : (D.ready i).1 = 0) : (D.ready i).2.dead = false := by
  rw [(ready_same D i).2.2.2.1]
  unfold DD.ready at h
  by_cases h1 : D.dead = true
  · rw [if_pos h1] at h
    cases h
  · simpa using h1

theorem Sim.read (h : Sim t D R) (ht : t + 1 < 1000) (i : Int) : (R.read i).1 = (D.read i).1 ∧ (R.read i).2.1 = (D.read i).2.1 ∧ Sim (t + 2) (D.read i).2.2 (R.read i).2.2 := by
  obtain ⟨h1, h2⟩ := h.asked (by omega) i
  have h3 := h2.more (by omega)
  unfold RD.read DD.read
  by_cases hc : (D.ready i).1 ≠ 0
  · rw [if_pos (show (R.asked i).1 ≠ 0 by rw [h1]; exact hc), if_pos hc]
    exact ⟨rfl, h1, h3⟩
  · rw [if_neg (show ¬ (R.asked i).1 ≠ 0 by rw [h1]; exact hc), if_neg hc]
    refine ⟨by unfold RD.holds DD.holds; rw [h.f, h.p], rfl, ⟨h2.n, h2.f, h2.p, h2.dead, ?_, h2.a1, h2.a2, h2.f0, h2.f1, h3.f2, ?_, h3.pb, h3.tb⟩⟩
    · show R.ops + 1 = D.ops + 1
      rw [h.ops]
    · show D.ops + 1 ≤ ((t + 2 : Nat) : Int)
      have := h.ob
      omega
theorem Sim.write (h : Sim t D R) (ht : t + 1 < 1000) (i : Int) (b : List Int) : (R.write i b).1 = (D.write i b).1 ∧ Sim (t + 2) (D.write i b).2 (R.write i b).2 := by
  obtain ⟨h1, h2⟩ := h.asked (by omega) i
  have h3 := h2.more (by omega)
  unfold RD.write DD.write
  by_cases hc : (D.ready i).1 ≠ 0
  · rw [if_pos (show (R.asked i).1 ≠ 0 by rw [h1]; exact hc), if_pos hc]
    exact ⟨h1, h3⟩
  · obtain ⟨d1, d2, d3⟩ := h2.done (ready_live D i (by simpa using hc)) (by omega)
    rw [if_neg (show ¬ (R.asked i).1 ≠ 0 by rw [h1]; exact hc), if_neg hc]
    by_cases hg : (D.ready i).2.armed = true ∧ (D.ready i).2.left = 0
    · rw [if_pos (d1.2 hg), if_pos hg]
      exact ⟨rfl, d2 hg⟩
    · have h4 := d3 hg
      rw [if_neg (fun e => hg (d1.1 e)), if_neg hg]
      refine ⟨rfl, h4.n, h4.f, ?_, h4.dead, h4.ops, h4.a1, h4.a2, h4.f0, h4.f1, h4.f2, h4.ob, ?_, h4.tb⟩
      · show R.p ++ [(i.toNat, b)] = D.p ++ [(i.toNat, b)]
        rw [h.p]
      · show (D.p ++ [(i.toNat, b)]).length ≤ t + 2
        have := h.pb
        simp
        omega
theorem Sim.sync (h : Sim t D R) (ht : t + 1 < 1000) : R.sync.1 = D.sync.1 ∧ Sim (t + 2) D.sync.2 R.sync.2 := by
  obtain ⟨h1, h2⟩ := h.asked (by omega) 0
  have h3 := h2.more (by omega)
  unfold RD.sync DD.sync
  by_cases hc : (D.ready 0).1 ≠ 0
  · rw [if_pos (show (R.asked 0).1 ≠ 0 by rw [h1]; exact hc), if_pos hc]
    exact ⟨h1, h3⟩
  · obtain ⟨d1, d2, d3⟩ := h2.done (ready_live D 0 (by simpa using hc)) (by omega)
    rw [if_neg (show ¬ (R.asked 0).1 ≠ 0 by rw [h1]; exact hc), if_neg hc]
    by_cases hg : (D.ready 0).2.armed = true ∧ (D.ready 0).2.left = 0
    · rw [if_pos (d1.2 hg), if_pos hg]
      exact ⟨rfl, d2 hg⟩
    · have h4 := d3 hg
      rw [if_neg (fun e => hg (d1.1 e)), if_neg hg]
      refine ⟨rfl, h4.n, ?_, rfl, h4.dead, h4.ops, h4.a1, h4.a2, h4.f0, h4.f1, h4.f2, h4.ob, Nat.zero_le _, h4.tb⟩
      show setl (fun _ => true) 0 (R.asked 0).2.done.2.p (R.asked 0).2.done.2.f = setl (fun _ => true) 0 (D.ready 0).2.done.p (D.ready 0).2.done.f
      rw [h4.f, h4.p]
theorem Sim.arm (h : Sim t D R) (ht : t + 1 < 1000) (m : Int) : (R.arm m).1 = (D.arm m).1 ∧ Sim (t + 2) (D.arm m).2 (R.arm m).2 := by
  have h3 := (h.more (by omega)).more (by omega)
  unfold RD.arm DD.arm
  by_cases hd : D.dead = true
  · rw [if_pos (show R.dead = true by rw [h.dead]; exact hd), if_pos hd]
    exact ⟨rfl, h3⟩
  · rw [if_neg (show ¬ R.dead = true by rw [h.dead]; exact hd), if_neg hd]
    refine ⟨rfl, h.n, h.f, h.p, h.dead, h.ops, fun e => ?_, fun e => .inl ?_, h.f0, h.f1, h3.f2, h3.ob, h3.pb, h3.tb⟩
    · have e' : 0 ≤ m := by simpa using e
      show (if m < -1 then (-1 : Int) else m) = m ∧ 0 ≤ m
      rw [if_neg (by omega)]
      exact ⟨rfl, e'⟩
    · have e' : m < 0 := by simpa using e
      show (if m < -1 then (-1 : Int) else m) = -1
      split <;> omega
theorem Sim.fail (h : Sim t D R) (ht : t + 1 < 1000) (m : Int) : (R.fail m).1 = (D.fail m).1 ∧ Sim (t + 2) (D.fail m).2 (R.fail m).2 := by
  have h3 := (h.more (by omega)).more (by omega)
  unfold RD.fail DD.fail
  by_cases hd : D.dead = true
  · rw [if_pos (show R.dead = true by rw [h.dead]; exact hd), if_pos hd]
    exact ⟨rfl, h3⟩
  · rw [if_neg (show ¬ R.dead = true by rw [h.dead]; exact hd), if_neg hd]
    by_cases hm : 0 ≤ m ∧ m < 4611686018427387904
    · refine ⟨rfl, h.n, h.f, h.p, h.dead, h.ops, h.a1, h.a2, ?_, fun e => ?_, fun e => ?_, h3.ob, h3.pb, h3.tb⟩
      · show 0 ≤ (if 0 ≤ m ∧ m < 4611686018427387904 then m + 1 else 0)
        rw [if_pos hm]
        omega
      · show (if m < -1 then (-1 : Int) else m) = (if 0 ≤ m ∧ m < 4611686018427387904 then m + 1 else 0) - 1
        rw [if_pos hm, if_neg (by omega)]
        omega
      · have e' : (if 0 ≤ m ∧ m < 4611686018427387904 then m + 1 else 0) = 0 := e
        rw [if_pos hm] at e'
        omega
    · refine ⟨rfl, h.n, h.f, h.p, h.dead, h.ops, h.a1, h.a2, ?_, fun e => ?_, fun e => ?_, h3.ob, h3.pb, h3.tb⟩
      · show 0 ≤ (if 0 ≤ m ∧ m < 4611686018427387904 then m + 1 else 0)
        rw [if_neg hm]
        omega
      · have e' : 0 < (if 0 ≤ m ∧ m < 4611686018427387904 then m + 1 else 0) := e
        rw [if_neg hm] at e'
        omega
      · show (if m < -1 then (-1 : Int) else m) = -1 ∨ 4611686018427387904 - ((t + 2 : Nat) : Int) ≤ (if m < -1 then (-1 : Int) else m)
        by_cases h1 : m < -1
        · rw [if_pos h1]
          exact .inl rfl
        · rw [if_neg h1]
          omega
theorem Sim.crash (h : Sim t D R) (ht : t + 1 < 1000) (ks : List Bool) : Sim (t + 2) (D.crash ks) (R.crash ks) := by
  have h3 := (h.more (by omega)).more (by omega)
  refine ⟨h.n, ?_, rfl, rfl, h.ops, fun e => (by cases e), fun _ => .inl rfl, Int.le_refl _, fun e => ?_, fun _ => .inl rfl, h3.ob, Nat.zero_le _, h3.tb⟩
  · show setl (liveOf ks) 0 R.p R.f = setl (liveOf ks) 0 D.p D.f
    rw [h.f, h.p]
  · have e' : (0 : Int) < 0 := e
    omega

/-- An op does as the document says. -/
theorem Sim.step (h : Sim t D R) (ht : t + 1 < 1000) (o : OpT) : (R.want o).1 = (D.does o).1 ∧ (R.want o).2.1 = (D.does o).2.1 ∧ Sim (t + 2) (D.does o).2.2 (R.want o).2.2 := by
  unfold RD.want DD.does
  by_cases e0 : opk o.k = 0
  · rw [if_pos e0, if_pos e0]
    exact h.read ht o.a
  · rw [if_neg e0, if_neg e0]
    by_cases e1 : opk o.k = 1
    · rw [if_pos e1, if_pos e1]
      exact ⟨rfl, h.write ht o.a (blk o.f)⟩
    · rw [if_neg e1, if_neg e1]
      by_cases e2 : opk o.k = 2
      · rw [if_pos e2, if_pos e2]
        exact ⟨rfl, h.sync ht⟩
      · rw [if_neg e2, if_neg e2]
        by_cases e3 : opk o.k = 3
        · rw [if_pos e3, if_pos e3]
          exact ⟨rfl, h.arm ht o.a⟩
        · rw [if_neg e3, if_neg e3]
          by_cases e5 : opk o.k = 5
          · rw [if_pos e5, if_pos e5]
            exact ⟨rfl, h.fail ht o.a⟩
          · rw [if_neg e5, if_neg e5]
            exact ⟨rfl, rfl, h.crash ht o.ks⟩
end Go.Proofs.Ytjiammhmeliogaa
