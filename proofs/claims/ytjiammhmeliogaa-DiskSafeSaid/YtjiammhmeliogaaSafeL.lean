/- DiskSafe: what lives on is what was safe, or what a pending write wrote. -/
import Derived.Test.YtjiammhmeliogaaMany
namespace Go.Proofs.Ytjiammhmeliogaa
open Go.RowKit
set_option linter.unusedVariables false
set_option linter.unusedSimpArgs false

/-- The row of k falses and a true. -/
def oneAt (k : Nat) : List Bool := List.replicate k false ++ [true]
theorem oneAt_len (k : Nat) : (oneAt k).length = k + 1 := by simp [oneAt]
theorem live_one (k t : Nat) : liveOf (oneAt k) t = decide (t = k) := by
  unfold liveOf oneAt
  rw [List.getD_eq_getElem?_getD]
  by_cases h : t < k
  · rw [List.getElem?_append_left (by simpa using h)]
    simp [h]
    omega
  · rw [List.getElem?_append_right (by simp; omega), List.length_replicate]
    by_cases e : t = k
    · subst e
      simp
    · rw [List.getElem?_eq_none (by simp; omega)]
      simp [e]
theorem oneAt_cells (k : Nat) : (yes 0 (k + 1)).set k (.bool true) = (oneAt k).map Value.bool := by
  unfold yes oneAt
  rw [List.replicate_zero, List.nil_append, Nat.sub_zero, List.replicate_succ', List.set_append, if_neg (by simp), List.length_replicate, Nat.sub_self]
  simp
theorem bools_row {w : World} {g : Nat} {xs : List Bool} (h : Blk w g 4 (xs.map Value.bool)) : BoolRow w (some ⟨g, 0, none⟩) xs.length xs := by
  refine ⟨rfl, fun i hi => ⟨g, 0, rfl, h.lt, ?_⟩⟩
  rw [Nat.zero_add, h.cell (i := i) (v := .bool xs[i]) (by simp [hi])]
  simp [List.getD_eq_getElem?_getD, List.getElem?_eq_getElem hi]
theorem BoolRow.nil (w : World) : BoolRow w none 0 [] := ⟨rfl, fun i h => by omega⟩

/-- Nothing lives. -/
theorem setl_none {live : Nat → Bool} : ∀ (p : List (Nat × List Int)) (k : Nat) (f : Nat → List Int), (∀ t, k ≤ t → t < k + p.length → live t = false) → setl live k p f = f
  | [], k, f, h => rfl
  | a :: r, k, f, h => by
    simp only [setl]
    rw [h k (Nat.le_refl _) (by simp)]
    exact setl_none r (k + 1) f fun t h1 h2 => h t (by omega) (by simp only [List.length_cons]; omega)
/-- One alone lives. -/
theorem setl_only {live : Nat → Bool} : ∀ (p : List (Nat × List Int)) (k : Nat) (f : Nat → List Int) (j : Nat) (a : Nat × List Int), p[j]? = some a → (∀ t, live t = decide (t = k + j)) → setl live k p f = updF f a.1 a.2
  | [], k, f, j, a, h, hl => by simp at h
  | b :: r, k, f, 0, a, h, hl => by
    simp only [List.getElem?_cons_zero, Option.some.injEq] at h
    subst h
    simp only [setl]
    rw [hl k, if_pos (by simp)]
    exact setl_none r (k + 1) _ fun t h1 _ => by rw [hl t]; simp; omega
  | b :: r, k, f, j + 1, a, h, hl => by
    simp only [List.getElem?_cons_succ] at h
    simp only [setl]
    rw [hl k, if_neg (by simp)]
    exact setl_only r (k + 1) f j a h fun t => by rw [hl t]; congr 1; simp only [eq_iff_iff]; omega
/-- What a sector holds behind a crash. -/
theorem setl_some (live : Nat → Bool) (i : Nat) : ∀ (p : List (Nat × List Int)) (k : Nat) (f : Nat → List Int), setl live k p f i = f i ∨ ∃ a, a ∈ p ∧ a.1 = i ∧ setl live k p f i = a.2
  | [], k, f => .inl rfl
  | a :: r, k, f => by
    simp only [setl]
    rcases setl_some live i r (k + 1) (if live k then updF f a.1 a.2 else f) with h | ⟨b, hb, h1, h2⟩
    · rw [h]
      by_cases hl : live k = true
      · rw [if_pos hl]
        by_cases e : a.1 = i
        · refine .inr ⟨a, List.mem_cons_self .., e, ?_⟩
          rw [← e, updF_same]
        · rw [updF_ne _ _ _ (fun h => e h.symm)]
          exact .inl rfl
      · rw [if_neg hl]
        exact .inl rfl
    · exact .inr ⟨b, List.mem_cons_of_mem _ hb, h1, h2⟩

/-- The law's 'fine' behind k of the pending writes. -/
def fineB (f : Nat → List Int) (p : List (Nat × List Int)) (got : List Int) (i k : Nat) : Bool := decide (got = f i) || (p.take k).any fun a => decide (a.1 = i) && decide (got = a.2)
theorem fineB_zero (f : Nat → List Int) (p : List (Nat × List Int)) (got : List Int) (i : Nat) : fineB f p got i 0 = decide (got = f i) := by simp [fineB]
theorem fineB_next (f : Nat → List Int) (p : List (Nat × List Int)) (got : List Int) (i : Nat) {k : Nat} {a : Nat × List Int} (h : p[k]? = some a) : fineB f p got i (k + 1) = (fineB f p got i k || (decide (a.1 = i) && decide (got = a.2))) := by
  unfold fineB
  rw [List.take_add_one, h]
  simp [Bool.or_assoc]
theorem fineB_end (f : Nat → List Int) (p : List (Nat × List Int)) (live : Nat → Bool) (i : Nat) : fineB f p (setl live 0 p f i) i p.length = true := by
  unfold fineB
  rw [List.take_length]
  rcases setl_some live i p 0 f with h | ⟨a, h1, h2, h3⟩
  · simp [h]
  · simp only [Bool.or_eq_true, List.any_eq_true]
    exact .inr ⟨a, h1, by simp [h2, h3]⟩
theorem crash_one (D : DD) {k : Nat} {a : Nat × List Int} (h : D.p[k]? = some a) : (D.crash (oneAt k)).holds = updF D.f a.1 a.2 := by
  unfold DD.holds DD.crash
  simp only [setl]
  exact setl_only D.p 0 D.f k a h fun t => by rw [live_one, Nat.zero_add]
theorem crash_none (D : DD) : (D.crash []).holds = D.f := by
  unfold DD.holds DD.crash
  simp only [setl]
  exact setl_none D.p 0 D.f fun t _ _ => rfl
theorem crash_holds (D : DD) (xs : List Bool) : (D.crash xs).holds = setl (liveOf xs) 0 D.p D.f := by
  unfold DD.holds DD.crash
  simp only [setl]
theorem sync_crash_holds {t : Nat} {D : DD} (h : Calm t D) : (D.sync.2.crash []).holds = D.holds := by
  rw [calm_sync h, crash_none]
  rfl
end Go.Proofs.Ytjiammhmeliogaa
