/- SuperCuts: what a cut leaves, in plain words. -/
import Derived.Test.YtjiammhmeliogaaOpenF
import Derived.Test.YtjiammhmeliogaaSBytes
namespace Go.Proofs.Ytjiammhmeliogaa
open Go.RowKit
set_option linter.unusedVariables false
set_option linter.unusedSimpArgs false
/-- Both sectors are bytes. -/
def Bytes2 (f : Nat → List Int) : Prop := (∀ z ∈ f 0, Byte z) ∧ (∀ z ∈ f 1, Byte z)
theorem Bytes2.upd {f : Nat → List Int} (h : Bytes2 f) (i : Nat) (x : SX) (t : Int) : Bytes2 (updF f i (sup x t)) := by
  have e : ∀ j, (∀ z ∈ f j, Byte z) → ∀ z ∈ updF f i (sup x t) j, Byte z := fun j hj z hz => by
    by_cases hij : j = i
    · subst hij
      rw [updF_same] at hz
      exact sup_byte2 x t z hz
    · rw [updF_ne _ _ _ hij] at hz
      exact hj z hz
  exact ⟨e 0 h.1, e 1 h.2⟩
theorem zb_byte : ∀ z ∈ zb, Byte z := by
  intro z hz
  have : z = 0 := by
    unfold zb at hz
    exact List.eq_of_mem_replicate hz
  subst this
  exact ⟨by decide, by decide⟩
theorem fmt_bytes (n : Nat) (s c : Int) : Bytes2 (fmtD n s c).f := by
  have e0 : (fmtD n s c).f 0 = sup (SX.first s c) 0 := by
    simp [fmtD, DD.settled, DD.wrote, DD.fresh, setl, updF]
  have e1 : (fmtD n s c).f 1 = zb := by
    simp [fmtD, DD.settled, DD.wrote, DD.fresh, setl, updF]
  exact ⟨by rw [e0]; exact sup_byte2 _ _, by rw [e1]; exact zb_byte⟩
theorem set_fine {k : Nat} {D : DD} (h : Fine (k + 2) D) (x : SX) (t : Int) (y : SX) : Fine k (setS D x t y).2.1 := by
  unfold setS
  split
  · exact h.less (by omega)
  · split
    · exact h.less (by omega)
    · have hw := h.write ((t + 1) % 2) (sup y (t + 1))
      split
      · exact hw.less (by omega)
      · split
        · exact hw.sync
        · exact hw.sync
/-- A disk that works: it works on, and has settled. -/
theorem set_alive {D : DD} (hl : Alive D) (hp : D.p = []) (hn : 2 ≤ D.n) (x : SX) (t : Int) (y : SX) :
    Alive (setS D x t y).2.1 ∧ (setS D x t y).2.1.p = [] ∧ (setS D x t y).2.1.n = D.n := by
  by_cases h1 : y.mayB = false ∨ y.sg ≠ x.sg ∨ y.sc ≠ x.sc
  · rw [setS_bad h1]; exact ⟨hl, hp, rfl⟩
  · cases h2 : y.lowB x
    · have hm : y.may := by
        rw [← mayB_iff]
        cases hb : y.mayB
        · exact absurd (.inl hb) h1
        · rfl
      rw [set_live hl hp hn x t y hm (Classical.byContradiction fun h => h1 (.inr (.inl h))) (Classical.byContradiction fun h => h1 (.inr (.inr h))) h2]
      exact ⟨(hl.wrote _ _).settled, rfl, rfl⟩
    · rw [setS_low h1 h2]; exact ⟨hl, hp, rfl⟩
theorem set_bytes {D : DD} (hp : D.p = []) (hn : 1 ≤ D.n) (x : SX) (t : Int) (y : SX) (hb : Bytes2 D.f) : Bytes2 (setS D x t y).2.1.f ∧ ∀ xs, Bytes2 ((setS D x t y).2.1.crash xs).f := by
  obtain ⟨h1, ⟨c1, c2, c3, c4, c5⟩ | ⟨c1, c2, c3, c4⟩⟩ := set_cases hp hn x t y
  · have e : ∀ xs, ((setS D x t y).2.1.crash xs).f = updF D.f ((t + 1) % 2).toNat (sup y (t + 1)) := fun xs => by
      show setl (liveOf xs) 0 (setS D x t y).2.1.p (setS D x t y).2.1.f = _
      rw [c4, c5]
      rfl
    exact ⟨by rw [c5]; exact hb.upd _ _ _, fun xs => by rw [e]; exact hb.upd _ _ _⟩
  · refine ⟨by rw [c3]; exact hb, fun xs => ?_⟩
    show Bytes2 (setl (liveOf xs) 0 (setS D x t y).2.1.p (setS D x t y).2.1.f)
    rcases c4 with c4 | ⟨c4, _⟩
    · rw [c4, c3]
      exact hb
    · rw [c4, c3]
      simp only [setl]
      split
      · exact hb.upd _ _ _
      · exact hb
/-- Segments and sectors as the law sets them. -/
def four (x : SX) : SX := ⟨4, 24, x.ge, x.re, x.rs, x.fl⟩
theorem four_wf {x : SX} (h : x.Wf) : (four x).Wf := ⟨h.1, h.2, h.3, h.4⟩
/-- What is known of a settled disk of the law's. -/
structure Kn (D : DD) (k : SX) (t : Int) : Prop where
  p : D.p = []
  n : D.n = 98
  known : Known D.f k t
  sg : k.sg = 4
  sc : k.sc = 24
  b : Bytes2 D.f
theorem Kn.arm {D : DD} {k : SX} {t : Int} (h : Kn D k t) (n : Int) : Kn (D.arm n).2 k t := by
  unfold DD.arm
  split
  · exact h
  · exact ⟨h.p, h.n, h.known, h.sg, h.sc, h.b⟩
theorem Kn.fail {D : DD} {k : SX} {t : Int} (h : Kn D k t) (n : Int) : Kn (D.fail n).2 k t := by
  unfold DD.fail
  split
  · exact h
  · exact ⟨h.p, h.n, h.known, h.sg, h.sc, h.b⟩
theorem fmt_kn : Kn (fmtD 98 4 24) (SX.first 4 24) 0 := ⟨rfl, rfl, first_known 4 24 first4_may 98, rfl, rfl, fmt_bytes _ _ _⟩
/-- The first setting. -/
theorem was_kn {x : SX} (hx : x.Wf) {r : Int × DD × SX × Int} (hr : r = setS (fmtD 98 4 24) (SX.first 4 24) 0 (four x)) : Kn r.2.1 r.2.2.1 r.2.2.2 ∧ r.2.2.2 ≤ 1 ∧ Fine 800 r.2.1 := by
  have h2 : Fine 800 r.2.1 := by rw [hr]; exact set_fine ((fmt_fine 98 4 24).less (by omega)) _ _ _
  obtain ⟨a1, a2, a3⟩ := set_alive (fmt_live 98 4 24) rfl (by show 2 ≤ 98; omega) (SX.first 4 24) 0 (four x)
  obtain ⟨b1, _⟩ := set_bytes (D := fmtD 98 4 24) rfl (by show 1 ≤ 98; omega) (SX.first 4 24) 0 (four x) (fmt_bytes _ _ _)
  rw [← hr] at a1 a2 a3 b1
  obtain ⟨h1, ⟨c1, c2, c3, c4, c5⟩ | ⟨c1, c2, c3, c4⟩⟩ := set_cases (D := fmtD 98 4 24) rfl (by show 1 ≤ 98; omega) (SX.first 4 24) 0 (four x)
  · rw [← hr] at c2 c5
    rw [c2] at *
    refine ⟨⟨a2, a3, ?_, rfl, rfl, b1⟩, by show (0 : Int) + 1 ≤ 1; decide, h2⟩
    show Known r.2.1.f (four x) (0 + 1)
    rw [c5]
    exact fmt_kn.known.next (by decide) c3 (four_wf hx)
  · rw [← hr] at c2 c3
    rw [c2] at *
    refine ⟨⟨a2, a3, ?_, rfl, rfl, b1⟩, by show (0 : Int) ≤ 1; decide, h2⟩
    show Known r.2.1.f (SX.first 4 24) 0
    rw [c3]
    exact fmt_kn.known
/-- What is found behind the cut. -/
theorem cut_kn {D : DD} {k : SX} {t : Int} (h : Kn D k t) (ht : t ≤ 1) {m : Nat} (hf : Fine (m + 2) D) {y : SX} (hy : y.Wf) (ks : List Bool) {r : Int × DD × SX × Int} (hr : r = setS D k t (four y)) {E : DD} (hE : E = r.2.1.crash ks) :
    Alive E ∧ E.p = [] ∧ E.n = 98 ∧ Fine m E ∧ Bytes2 E.f ∧ ∃ z u, openS (E.f 0) (E.f 1) = some (z, u) ∧ z.may ∧ 2 + z.sg * z.sc ≤ 98 ∧
      ((r.1 = 0 ∧ r.2.2.1 = four y ∧ z = four y) ∨ (r.1 ≠ 0 ∧ r.2.2.1 = k ∧ (z = k ∨ (z = four y ∧ (r.1 = 7 ∨ r.1 = 8))))) := by
  obtain ⟨z, u, hk, h1, h2⟩ := cut_found h.p (by rw [h.n]; decide) h.known (by omega) (four_wf hy) ks
  have hc := set_cases h.p (by rw [h.n]; decide) k t (four y)
  have hb := (set_bytes h.p (by rw [h.n]; decide) k t (four y) h.b).2 ks
  have hff := (set_fine hf k t (four y)).crash ks
  rw [← hr] at hk h1 h2 hc hb hff
  rw [← hE] at hk hb hff
  have hz : (r.1 = 0 ∧ r.2.2.1 = four y ∧ z = four y) ∨ (r.1 ≠ 0 ∧ r.2.2.1 = k ∧ (z = k ∨ (z = four y ∧ (r.1 = 7 ∨ r.1 = 8)))) := by
    by_cases h0 : r.1 = 0
    · exact .inl ⟨h0, h1 h0⟩
    · exact .inr ⟨h0, h2 h0⟩
  have hzz : z.sg = 4 ∧ z.sc = 24 := by
    rcases hz with ⟨_, _, rfl⟩ | ⟨_, _, rfl | ⟨rfl, _⟩⟩
    · exact ⟨rfl, rfl⟩
    · exact ⟨h.sg, h.sc⟩
    · exact ⟨rfl, rfl⟩
  refine ⟨?_, ?_, ?_, hff, hb, z, u, hk.opens, hk.may, by rw [hzz.1, hzz.2]; decide, hz⟩
  · rw [hE]; exact ⟨rfl, rfl, rfl⟩
  · rw [hE]; rfl
  · rw [hE]; exact hc.1.trans h.n
end Go.Proofs.Ytjiammhmeliogaa
