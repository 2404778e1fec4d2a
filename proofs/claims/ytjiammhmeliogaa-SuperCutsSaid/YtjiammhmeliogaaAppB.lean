/- append([]bool{}, keep...), as one law for the walk. -/
import Derived.Test.YtjiammhmeliogaaClone
import Derived.Test.YtjiammhmeliogaaCut
import Derived.Laws.AppendOwnNone
namespace Go.Proofs.Ytjiammhmeliogaa
open Go.RowKit
set_option linter.unusedVariables false
set_option linter.unusedSimpArgs false

theorem own_bools2 {w : World} {base n : Nat} {v : Value} {xs : List Bool} (h : w.ownsRow base 4 1 v n (xs.map Value.bool)) : ∃ a c, v = .slice a n c ∧ BoolRow w a n xs ∧ (∀ b off, a = some ⟨b, off, none⟩ → base ≤ b ∧ b < w.heap.size) := by
  have hl : xs.length = n := by have := h.1; simpa using this
  rcases h.2 with ⟨rfl, rfl⟩ | ⟨g, cap, cur, rfl, hb, hg, _⟩
  · exact ⟨none, 0, rfl, ⟨hl, fun i hi => absurd hi (by omega)⟩, fun b off e => by cases e⟩
  · have hlt := (Array.getElem?_eq_some_iff.1 hg).1
    refine ⟨_, cap, rfl, ⟨hl, fun i hi => ⟨g, 0, rfl, hlt, ?_⟩⟩, fun b off e => by injection e with e; injection e with e; omega⟩
    have := h.cells (g := g) rfl i (.bool (xs.getD i false)) (by simp [List.getD_eq_getElem?_getD, List.getElem?_eq_getElem (show i < xs.length by omega)])
    rw [add0] at this
    rwa [Nat.zero_add]
theorem bools_cells2 {w : World} {ad : Addr} {n : Nat} {xs : List Bool} (h : BoolRow w (some ad) n xs) : ∀ j u, (xs.map Value.bool)[j]? = some u → w.cell? (ad.add j) = some u := by
  intro j u hu
  rw [List.getElem?_map, Option.map_eq_some_iff] at hu
  obtain ⟨x, hx, rfl⟩ := hu
  have hj : j < n := by
    rw [← h.1]
    exact (List.getElem?_eq_some_iff.1 hx).1
  obtain ⟨b, off, e, hb, hc⟩ := h.2 j hj
  injection e with e
  subst e
  rw [List.getD_eq_getElem?_getD, hx] at hc
  have : (⟨b, off, none⟩ : Addr).add j = ⟨b, off + j, none⟩ := by unfold Addr.add; split <;> simp_all
  rw [this]
  exact hc
theorem empty30 (w : World) : (Instr.buildSlice 30 0 #[]).run Try.prog w = .ok (.slice (some ⟨w.heap.size, 0, none⟩) 0 0) (w.alloc (.cells #[] 4)) := by
  obtain ⟨i0, hi1, hz0, hz1, hz2⟩ := info_parts info4
  simp [Instr.buildSlice, run_underlying Try.underlying30, sizeOf, typeInfo, zeroValue, hi1, hz0, hz1, newRow, Instr.fill]
  rw [range0, Array.map_empty]
/-- A row of Booleans onto an empty one. -/
theorem wpList_append_bools {w W : World} {ops : Array Oper} {rest : List Oper} {o : Oper} {a : Act} {Q : Exit → Act → World → Prop} (hgd : o.guard = none) (s x : Operand)
    (ho : o.op = .call { callee := .builtin .append, args := #[s, x], argTypes := #[30, 30] })
    (hs : a.eval s = .slice (some ⟨w.heap.size, 0, none⟩) 0 0) (hW : W = w.alloc (.cells #[] 4)) (ka : Option Addr) (m c : Nat) (ks : List Bool) (hx : a.eval x = .slice ka m c) (hr : BoolRow w ka m ks) (h0 : ka = none → c = 0) (hm : m ≤ 140737488351232)
    (h : ∀ va vc w', BoolRow w' va m ks → (∀ b off, va = some ⟨b, off, none⟩ → w.heap.size ≤ b ∧ b < w'.heap.size) → Keeps (fun _ => False) w w' → wpList Try.prog ops Q rest (a.put o.dst (.slice va m vc)) w') : wpList Try.prog ops Q (o :: rest) a W := by
  subst hW
  obtain ⟨i0, hi1, hz0, hz1, hz2⟩ := info_parts info4
  have hq : Keeps (fun _ => False) w (w.alloc (.cells #[] 4)) := (Keeps.refl _ _).alloc _
  rcases ka with _ | ad
  · obtain rfl := h0 rfl
    have hk0 : m = 0 := by
      rcases Nat.eq_zero_or_pos m with h | h
      · exact h
      · obtain ⟨_, _, e, _⟩ := hr.2 0 h
        cases e
    subst hk0
    have hks : ks = [] := List.eq_nil_of_length_eq_zero hr.1
    subst hks
    refine wpList_append_own_none hgd s x 30 ho w.heap.size 4 i0 1 Try.underlying30 hi1 _ 0 [] hs (own_empty w 4 1) hx ?_
    exact h _ _ _ ⟨rfl, fun i hi => absurd hi (by omega)⟩ (fun b off e => by injection e with e; injection e with e; subst e; exact ⟨Nat.le_refl _, by simp⟩) hq
  · refine wpList_append_own _ hgd s x 30 ho w.heap.size 4 i0 (.bool false) 1 1 Try.underlying30 hi1 hz0 hz1 hz2 rfl (by decide) _ _ _ hs (own_empty w 4 1) ad m c (ks.map Value.bool) hx (by simp [hr.1]) ?_ ?_ (by unfold maxLen; omega) (by omega) (by simp) ?_
    · intro j u hu
      have h1 := bools_cells2 hr j u hu
      have : (w.alloc (.cells #[] 4)).cell? (ad.add j) = w.cell? (ad.add j) := by
        refine World.cell?_alloc_lt _ _ _ ?_
        rcases Nat.lt_or_ge (ad.add j).block w.heap.size with h' | h'
        · exact h'
        · simp [World.cell?, Array.getElem?_eq_none h'] at h1
      rw [this]
      exact h1
    · intro u hu
      simp at hu
      rcases hu with ⟨_, rfl⟩ | ⟨_, rfl⟩ <;> rfl
    · intro v' w3 hown' hgrow _
      rw [Nat.zero_add, List.nil_append] at hown'
      obtain ⟨va, vc, rfl, h1, h2⟩ := own_bools2 hown'
      exact h va vc w3 h1 h2 (own_grow hq hgrow fun g hg => by injection hg with hg; rw [← hg]; exact Nat.le_refl _)
end Go.Proofs.Ytjiammhmeliogaa
