/- What a sector holds: the last pending write to it, else what is safe. -/
import Derived.Test.YtjiammhmeliogaaBack
namespace Go.Proofs.Ytjiammhmeliogaa
open Go.RowKit
set_option linter.unusedVariables false

/-- What sector i holds. -/
def DD.holds (D : DD) (i : Nat) : List Int := setl (fun _ => true) 0 D.p D.f i

theorem setl_snoc (p : List (Nat × List Int)) (a : Nat × List Int) (f : Nat → List Int) : setl (fun _ => true) 0 (p ++ [a]) f = updF (setl (fun _ => true) 0 p f) a.1 a.2 := by
  rw [setl_append]
  simp [setl]

theorem revp_snoc (p : List (Nat × List Int)) (a : Nat × List Int) : revp (p ++ [a]) = (p.length, a) :: revp p := by
  unfold revp
  rw [List.length_append, List.length_singleton, List.range_succ, List.reverse_append, List.reverse_singleton, List.singleton_append, List.map_cons]
  congr 1
  · simp
  · apply List.map_congr_left
    intro i hi
    have hi' : i < p.length := by simpa using hi
    simp [List.getD_eq_getElem?_getD, List.getElem?_append_left hi']

theorem find_holds (i : Nat) (f : Nat → List Int) : ∀ (n : Nat) (p : List (Nat × List Int)), p.length = n → setl (fun _ => true) 0 p f i = match (revp p).find? (fun x => x.2.1 == i) with
    | some x => x.2.2
    | none => f i
  | 0, p, h => by
    obtain rfl := List.eq_nil_of_length_eq_zero h
    simp [setl, revp]
  | n + 1, p, h => by
    have hne : p ≠ [] := by rintro rfl; cases h
    obtain ⟨q, a, rfl⟩ : ∃ q a, p = q ++ [a] := ⟨_, _, (List.dropLast_concat_getLast hne).symm⟩
    have hq : q.length = n := by simpa using h
    rw [setl_snoc, revp_snoc, List.find?_cons]
    by_cases e : a.1 = i
    · subst e
      simp [updF_same]
    · have e' : ((a.1 == i) = false) := by rw [beq_eq_false_iff_ne]; exact e
      simp only [e']
      rw [updF_ne _ _ _ (fun h => e h.symm)]
      exact find_holds i f n q hq

theorem holds_none {D : DD} {i : Nat} (h : ∀ x ∈ revp D.p, x.2.1 ≠ i) : D.holds i = D.f i := by
  unfold DD.holds
  rw [find_holds i D.f _ D.p rfl]
  have : (revp D.p).find? (fun x => x.2.1 == i) = none := by
    rw [List.find?_eq_none]
    intro x hx
    simpa using h x hx
  rw [this]

theorem holds_some {D : DD} {i : Nat} {pre : List (Nat × (Nat × List Int))} {x : Nat × (Nat × List Int)} (hp : pre ++ [x] <+: revp D.p) (hn : ∀ y ∈ pre, y.2.1 ≠ i) (hx : x.2.1 = i) : D.holds i = x.2.2 := by
  unfold DD.holds
  rw [find_holds i D.f _ D.p rfl]
  obtain ⟨r, hr⟩ := hp
  have : (revp D.p).find? (fun x => x.2.1 == i) = some x := by
    rw [← hr, List.append_assoc, List.find?_append]
    have : pre.find? (fun x => x.2.1 == i) = none := by
      rw [List.find?_eq_none]
      intro y hy
      simpa using hn y hy
    rw [this]
    simp [hx]
  rw [this]

theorem revp_mem {p : List (Nat × List Int)} {x : Nat × (Nat × List Int)} (h : x ∈ revp p) : x.2 ∈ p := by
  unfold revp at h
  rw [List.mem_map] at h
  obtain ⟨i, hi, rfl⟩ := h
  have hi' : i < p.length := by simpa using hi
  show p.getD i (0, []) ∈ p
  rw [List.getD_eq_getElem?_getD, List.getElem?_eq_getElem hi']
  exact List.getElem_mem _

/-- What Read answers and makes of the disk. -/
def DD.read (D : DD) (i : Int) : List Int × Int × DD :=
  if (D.ready i).1 ≠ 0 then (zb, D.ready i) else (D.holds i.toNat, 0, { (D.ready i).2 with ops := D.ops + 1 })

theorem setl_len {live : Nat → Bool} : ∀ (p : List (Nat × List Int)) (k : Nat) (f : Nat → List Int) (n : Nat), (∀ i, i < n → (f i).length = 64) → (∀ a ∈ p, a.2.length = 64) → ∀ i, i < n → (setl live k p f i).length = 64
  | [], k, f, n, hf, hp, i, hi => hf i hi
  | a :: r, k, f, n, hf, hp, i, hi => by
    rw [setl]
    refine setl_len r (k + 1) _ n (fun j hj => ?_) (fun b hb => hp b (List.mem_cons_of_mem _ hb)) i hi
    split
    · by_cases e : j = a.1
      · subst e; rw [updF_same]; exact hp a (List.mem_cons_self ..)
      · rw [updF_ne _ _ _ e]; exact hf j hj
    · exact hf j hj
end Go.Proofs.Ytjiammhmeliogaa
