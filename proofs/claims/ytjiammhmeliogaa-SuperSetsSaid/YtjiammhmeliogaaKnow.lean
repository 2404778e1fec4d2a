/- super: what a disk's first sectors say, in plain words. -/
import Derived.Test.YtjiammhmeliogaaFmt
namespace Go.Proofs.Ytjiammhmeliogaa
open Go.RowKit
set_option linter.unusedVariables false
set_option linter.unusedSimpArgs false

theorem two_ways (a : Int) : a % 2 = 0 ∨ a % 2 = 1 := by omega
/-- Is y older than x? -/
def SX.lowB (y x : SX) : Bool := decide (y.ge < x.ge) || decide (y.re < x.re) || decide (y.rs < x.rs) || decide (y.fl < x.fl)
/-- What Set answers; the disk, what is known, its turn then. -/
def setS (D : DD) (x : SX) (t : Int) (y : SX) : Int × DD × SX × Int :=
  if y.mayB = false ∨ y.sg ≠ x.sg ∨ y.sc ≠ x.sc then (2, D, x, t)
  else if y.lowB x then (171, D, x, t)
  else if (D.write ((t + 1) % 2) (sup y (t + 1))).1 ≠ 0 then ((D.write ((t + 1) % 2) (sup y (t + 1))).1, (D.write ((t + 1) % 2) (sup y (t + 1))).2, x, t)
  else if (D.write ((t + 1) % 2) (sup y (t + 1))).2.sync.1 ≠ 0 then ((D.write ((t + 1) % 2) (sup y (t + 1))).2.sync.1, (D.write ((t + 1) % 2) (sup y (t + 1))).2.sync.2, x, t)
  else (0, (D.write ((t + 1) % 2) (sup y (t + 1))).2.sync.2, y, t + 1)

/-- What two sectors say. -/
def openS (a b : List Int) : Option (SX × Int) :=
  if (dec a).2.2 = false ∧ (dec b).2.2 = false then none
  else if (dec a).2.2 = false ∨ ((dec b).2.2 = true ∧ (dec a).2.1 < (dec b).2.1) then some ((dec b).1, (dec b).2.1)
  else some ((dec a).1, (dec a).2.1)

theorem zb_none : dec zb = (SX.zero, 0, false) := by
  have h : sayB zb = false := by
    unfold sayB
    have : (sparse zb).mayB = false := by decide +kernel
    rw [this]
    rfl
  unfold dec
  rw [if_neg (by rw [h]; simp)]

/-- The sectors f say x, of turn t. -/
structure Known (f : Nat → List Int) (x : SX) (t : Int) : Prop where
  t0 : 0 ≤ t
  t1 : t ≤ 1000000
  may : x.may
  wf : x.Wf
  here : f (t % 2).toNat = sup x t
  there : (dec (f ((t + 1) % 2).toNat)).2.2 = false ∨ (dec (f ((t + 1) % 2).toNat)).2.1 < t
theorem Known.opens {f : Nat → List Int} {x : SX} {t : Int} (h : Known f x t) : openS (f 0) (f 1) = some (x, t) := by
  have hd : dec (sup x t) = (x, t, true) := dec_sup h.may h.wf ⟨h.t0, by have := h.t1; omega⟩
  have h0 := h.here
  have h1 := h.there
  unfold openS
  rcases two_ways t with e | e
  · have e1 : (t + 1) % 2 = 1 := by omega
    rw [e] at h0
    rw [e1] at h1
    have h0 : f 0 = sup x t := h0
    have h1 : (dec (f 1)).2.2 = false ∨ (dec (f 1)).2.1 < t := h1
    rw [h0, hd]
    simp only
    rw [if_neg (by simp), if_neg]
    rintro (h | ⟨h2, h3⟩)
    · cases h
    · rcases h1 with h1 | h1
      · rw [h1] at h2; cases h2
      · omega
  · have e1 : (t + 1) % 2 = 0 := by omega
    rw [e] at h0
    rw [e1] at h1
    have h0 : f 1 = sup x t := h0
    have h1 : (dec (f 0)).2.2 = false ∨ (dec (f 0)).2.1 < t := h1
    rw [h0, hd]
    simp only
    rw [if_neg (by simp), if_pos]
    rcases h1 with h1 | h1
    · exact .inl h1
    · exact .inr ⟨trivial, h1⟩
theorem Known.next {f : Nat → List Int} {x y : SX} {t : Int} (h : Known f x t) (ht : t < 1000000) (hm : y.may) (hy : y.Wf) : Known (updF f ((t + 1) % 2).toNat (sup y (t + 1))) y (t + 1) := by
  have hd : dec (sup x t) = (x, t, true) := dec_sup h.may h.wf ⟨h.t0, by have := h.t1; omega⟩
  have h0 := h.t0
  refine ⟨by omega, by omega, hm, hy, updF_same _ _ _, .inr ?_⟩
  rw [updF_ne _ _ _ (by rcases two_ways t with e | e <;> omega), show (t + 1 + 1) % 2 = t % 2 by omega, h.here, hd]
  show t < t + 1
  omega
theorem Known.same {f g : Nat → List Int} {x : SX} {t : Int} (h : Known f x t) (h0 : g 0 = f 0) (h1 : g 1 = f 1) : Known g x t := by
  have e : ∀ i : Int, g (i % 2).toNat = f (i % 2).toNat := fun i => by
    rcases two_ways i with e | e <;> rw [e]
    · exact h0
    · exact h1
  exact ⟨h.t0, h.t1, h.may, h.wf, (e t).trans h.here, by rw [e]; exact h.there⟩
theorem first_known (s c : Int) (hm : (SX.first s c).may) (n : Nat) : Known (fmtD n s c).f (SX.first s c) 0 := by
  have e0 : (fmtD n s c).f 0 = sup (SX.first s c) 0 := by
    simp [fmtD, DD.settled, DD.wrote, DD.fresh, setl, updF]
  have e1 : (fmtD n s c).f 1 = zb := by
    simp [fmtD, DD.settled, DD.wrote, DD.fresh, setl, updF]
  refine ⟨Int.le_refl 0, by decide, hm, first_wf s c, e0, .inl ?_⟩
  show (dec ((fmtD n s c).f 1)).2.2 = false
  rw [e1, zb_none]

/-- What Set makes of a disk that has settled. -/
theorem set_cases {D : DD} (hp : D.p = []) (hn : 1 ≤ D.n) (x : SX) (t : Int) (y : SX) :
    (setS D x t y).2.1.n = D.n ∧
    (((setS D x t y).1 = 0 ∧ (setS D x t y).2.2 = (y, t + 1) ∧ y.may ∧ (setS D x t y).2.1.p = [] ∧ (setS D x t y).2.1.f = updF D.f ((t + 1) % 2).toNat (sup y (t + 1))) ∨
     ((setS D x t y).1 ≠ 0 ∧ (setS D x t y).2.2 = (x, t) ∧ (setS D x t y).2.1.f = D.f ∧ ((setS D x t y).2.1.p = [] ∨ ((setS D x t y).2.1.p = [(((t + 1) % 2).toNat, sup y (t + 1))] ∧ y.may ∧ ((setS D x t y).1 = 7 ∨ (setS D x t y).1 = 8))))) := by
  unfold setS
  by_cases h1 : y.mayB = false ∨ y.sg ≠ x.sg ∨ y.sc ≠ x.sc
  · rw [if_pos h1]
    exact ⟨rfl, .inr ⟨by simp, rfl, rfl, .inl hp⟩⟩
  · rw [if_neg h1]
    have hm : y.may := by
      rw [← mayB_iff]
      rcases hb : y.mayB with _ | _
      · exact absurd (.inl hb) h1
      · rfl
    by_cases h2 : y.lowB x = true
    · rw [if_pos h2]
      exact ⟨rfl, .inr ⟨by simp, rfl, rfl, .inl hp⟩⟩
    · rw [if_neg h2]
      obtain ⟨r, hr⟩ : ∃ r, r = D.write ((t + 1) % 2) (sup y (t + 1)) := ⟨_, rfl⟩
      rw [← hr]
      have hw : (r.1 ≠ 0 ∧ r.2.f = D.f ∧ r.2.p = [] ∧ r.2.n = D.n) ∨ (r.1 = 0 ∧ r.2.f = D.f ∧ r.2.p = [(((t + 1) % 2).toNat, sup y (t + 1))] ∧ r.2.n = D.n) := by
        obtain ⟨e1, e2, e3, e4, e5, e6, e7⟩ := ready_same D ((t + 1) % 2)
        rw [hr]
        unfold DD.write
        split
        · exact .inl ⟨by assumption, e2, e3.trans hp, e1⟩
        · split
          · exact .inl ⟨by simp, e2, e3.trans hp, e1⟩
          · exact .inr ⟨rfl, e2, by show D.p ++ _ = _; rw [hp]; rfl, e1⟩
      clear hr
      rcases hw with ⟨c1, c2, c3, c4⟩ | ⟨c1, c2, c3, c4⟩
      · rw [if_pos c1]
        exact ⟨c4, .inr ⟨c1, rfl, c2, .inl c3⟩⟩
      · rw [if_neg (fun h => h c1)]
        obtain ⟨q, hq⟩ : ∃ q, q = r.2.sync := ⟨_, rfl⟩
        rw [← hq]
        have hs : ((q.1 = 7 ∨ q.1 = 8) ∧ q.2.f = D.f ∧ q.2.p = r.2.p ∧ q.2.n = D.n) ∨ (q.1 = 0 ∧ q.2.f = updF D.f ((t + 1) % 2).toNat (sup y (t + 1)) ∧ q.2.p = [] ∧ q.2.n = D.n) := by
          obtain ⟨e1, e2, e3, e4, e5, e6, e7⟩ := ready_same r.2 0
          have hz : (r.2.ready 0).1 ≠ 0 → (r.2.ready 0).1 = 7 ∨ (r.2.ready 0).1 = 8 := by
            unfold DD.ready
            split
            · exact fun _ => .inl rfl
            · split
              · omega
              · split
                · exact fun _ => .inr rfl
                · split
                  · exact fun h => absurd rfl h
                  · exact fun h => absurd rfl h
          rw [hq]
          unfold DD.sync
          split
          · rename_i h
            exact .inl ⟨hz h, e2.trans c2, e3, e1.trans c4⟩
          · split
            · exact .inl ⟨.inl rfl, e2.trans c2, e3, e1.trans c4⟩
            · refine .inr ⟨rfl, ?_, rfl, e1.trans c4⟩
              show setl (fun _ => true) 0 (r.2.ready 0).2.p (r.2.ready 0).2.f = _
              rw [e2, e3, c2, c3]
              simp [setl]
        clear hq
        rcases hs with ⟨d1, d2, d3, d4⟩ | ⟨d1, d2, d3, d4⟩
        · have d0 : q.1 ≠ 0 := by omega
          rw [if_pos d0]
          exact ⟨d4, .inr ⟨d0, rfl, d2, .inr ⟨d3.trans c3, hm, d1⟩⟩⟩
        · rw [if_neg (fun h => h d1)]
          exact ⟨d4, .inl ⟨rfl, rfl, hm, d3, d2⟩⟩
/-- What is found behind a crash. -/
theorem cut_found {D : DD} (hp : D.p = []) (hn : 1 ≤ D.n) {x : SX} {t : Int} (hk : Known D.f x t) (ht : t < 1000000) {y : SX} (hy : y.Wf) (xs : List Bool) :
    ∃ z u, Known ((setS D x t y).2.1.crash xs).f z u ∧ ((setS D x t y).1 = 0 → (setS D x t y).2.2.1 = y ∧ z = y) ∧
      ((setS D x t y).1 ≠ 0 → (setS D x t y).2.2.1 = x ∧ (z = x ∨ (z = y ∧ ((setS D x t y).1 = 7 ∨ (setS D x t y).1 = 8)))) := by
  obtain ⟨h1, ⟨c1, c2, c3, c4, c5⟩ | ⟨c1, c2, c3, c4⟩⟩ := set_cases hp hn x t y
  · refine ⟨y, t + 1, ?_, fun _ => ⟨by rw [c2], rfl⟩, fun h => absurd c1 h⟩
    have e : ((setS D x t y).2.1.crash xs).f = updF D.f ((t + 1) % 2).toNat (sup y (t + 1)) := by
      show setl (liveOf xs) 0 (setS D x t y).2.1.p (setS D x t y).2.1.f = _
      rw [c4, c5]
      rfl
    rw [e]
    exact hk.next ht c3 hy
  · have e2 : (setS D x t y).2.2.1 = x := by rw [c2]
    rcases c4 with c4 | ⟨c4, c5, c6⟩
    · refine ⟨x, t, ?_, fun h => absurd h c1, fun _ => ⟨e2, .inl rfl⟩⟩
      have e : ((setS D x t y).2.1.crash xs).f = D.f := by
        show setl (liveOf xs) 0 (setS D x t y).2.1.p (setS D x t y).2.1.f = _
        rw [c4, c3]
        rfl
      rw [e]
      exact hk
    · have e : ((setS D x t y).2.1.crash xs).f = if liveOf xs 0 then updF D.f ((t + 1) % 2).toNat (sup y (t + 1)) else D.f := by
        show setl (liveOf xs) 0 (setS D x t y).2.1.p (setS D x t y).2.1.f = _
        rw [c4, c3]
        rfl
      cases hl : liveOf xs 0
      · rw [hl] at e
        refine ⟨x, t, ?_, fun h => absurd h c1, fun _ => ⟨e2, .inl rfl⟩⟩
        rw [e]
        exact hk
      · rw [hl] at e
        refine ⟨y, t + 1, ?_, fun h => absurd h c1, fun _ => ⟨e2, .inr ⟨rfl, c6⟩⟩⟩
        rw [e]
        exact hk.next ht c5 hy
/-- A disk that works and has settled. -/
theorem set_live {D : DD} (hl : Alive D) (hp : D.p = []) (hn : 2 ≤ D.n) (x : SX) (t : Int) (y : SX) (hm : y.may) (h1 : y.sg = x.sg) (h2 : y.sc = x.sc) (h3 : y.lowB x = false) :
    setS D x t y = (0, (D.wrote ((t + 1) % 2) (sup y (t + 1))).settled, y, t + 1) := by
  unfold setS
  have e := hl.write (i := (t + 1) % 2) (by omega) (by omega) (sup y (t + 1))
  have e2 := (hl.wrote ((t + 1) % 2) (sup y (t + 1))).sync (by show 1 ≤ D.n; omega)
  rw [if_neg (by rw [(mayB_iff _).2 hm, h1, h2]; simp), if_neg (by rw [h3]; simp), e, if_neg (by simp), e2, if_neg (by simp)]
end Go.Proofs.Ytjiammhmeliogaa
