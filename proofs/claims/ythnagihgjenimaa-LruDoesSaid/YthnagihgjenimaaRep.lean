/- What the lists' arrays mean: lists of numbers, each number in at most one; put and out keep it. -/
import Derived.Test.YthnagihgjenimaaLruOut
import Derived.Test.YthnagihgjenimaaChain
namespace Go.Proofs.Ythnagihgjenimaa
open Go.RowKit

/-- The lists' arrays tell the lists ls: list i is ls i, the newest number first. -/
structure Rep (L : LL) (ls : Nat → List Nat) : Prop where
  lnx : L.nx.length = L.N + L.n
  lah : L.ah.length = L.N + L.n
  lwh : L.wh.length = L.N
  lln : L.ln.length = L.n
  lt : ∀ i x, i < L.n → x ∈ ls i → x < L.N
  nodup : ∀ i, i < L.n → (ls i).Nodup
  apart : ∀ i j x, i < L.n → j < L.n → x ∈ ls i → x ∈ ls j → i = j
  fwd : ∀ i, i < L.n → Chain L.nx (L.N + i) (ls i) (L.N + i)
  bwd : ∀ i, i < L.n → Chain L.ah (L.N + i) (ls i).reverse (L.N + i)
  inn : ∀ i x, i < L.n → x ∈ ls i → L.wh.getD x 0 = (i : Int)
  out : ∀ x, x < L.N → (∀ i, i < L.n → x ∉ ls i) → L.wh.getD x 0 = -1
  ln : ∀ i, i < L.n → L.ln.getD i 0 = (ls i).length

/-- Lists with list i turned. -/
def upd (ls : Nat → List Nat) (i : Nat) (l : List Nat) : Nat → List Nat := fun j => if j = i then l else ls j
theorem upd_same (ls : Nat → List Nat) (i : Nat) (l : List Nat) : upd ls i l i = l := by simp [upd]
theorem upd_ne (ls : Nat → List Nat) {i j : Nat} (l : List Nat) (h : j ≠ i) : upd ls i l j = ls j := by simp [upd, h]

/-- Unlike numbers below N are at most N. -/
theorem pigeon : ∀ (N : Nat) (l : List Nat), l.Nodup → (∀ x ∈ l, x < N) → l.length ≤ N
  | 0, l, _, h => by
    cases l with
    | nil => exact Nat.le_refl _
    | cons x r => exact absurd (h x (List.mem_cons_self ..)) (by omega)
  | N + 1, l, hn, h => by
    have h1 := pigeon N (l.erase N) (hn.erase N) (fun x hx => by
      have h2 := h x (List.mem_of_mem_erase hx)
      have h3 : x ≠ N := ((List.Nodup.mem_erase_iff hn).1 hx).1
      omega)
    have h2 := List.length_erase (a := N) (l := l)
    split at h2 <;> omega

theorem Rep.len_le {L : LL} {ls : Nat → List Nat} (h : Rep L ls) {i : Nat} (hi : i < L.n) : (ls i).length ≤ L.N := by
  exact pigeon L.N (ls i) (h.nodup i hi) (fun x hx => h.lt i x hi hx)

theorem Rep.head_first {L : LL} {ls : Nat → List Nat} (h : Rep L ls) {i : Nat} (hi : i < L.n) : L.nx.getD (L.N + i) 0 = (ls i).head?.getD (L.N + i) := chain_first _ _ _ _ (h.fwd i hi)
theorem Rep.head_last {L : LL} {ls : Nat → List Nat} (h : Rep L ls) {i : Nat} (hi : i < L.n) : L.ah.getD (L.N + i) 0 = (ls i).getLast?.getD (L.N + i) := by
  rw [chain_first _ _ _ _ (h.bwd i hi), List.head?_reverse]

theorem headD_lt {L : LL} {ls : Nat → List Nat} (h : Rep L ls) {i : Nat} (hi : i < L.n) : (ls i).head?.getD (L.N + i) < L.N + L.n := by
  cases hl : ls i with
  | nil => simp; omega
  | cons y r =>
    have := h.lt i y hi (by rw [hl]; exact List.mem_cons_self ..)
    simp; omega

theorem gsetI_ne (l : List Int) {i j : Nat} (v : Int) (h : i ≠ j) : (l.set i v).getD j 0 = l.getD j 0 := by
  simp [List.getD_eq_getElem?_getD, List.getElem?_set_ne h]
theorem gsetI_eq (l : List Int) {i : Nat} (v : Int) (h : i < l.length) : (l.set i v).getD i 0 = v := by
  simp [List.getD_eq_getElem?_getD, h]

/-- put makes x the newest of list i. -/
theorem rep_put {L : LL} {ls : Nat → List Nat} (h : Rep L ls) {i x : Nat} (hi : i < L.n) (hx : x < L.N) (hf : ∀ j, j < L.n → x ∉ ls j) : Rep (L.put i x) (upd ls i (x :: ls i)) := by
  have hs := headD_lt h hi
  have hs0 := h.head_first hi
  have hlen := h.lnx
  have hlah := h.lah
  have hne : ∀ j z, j < L.n → z ∈ ls j → z ≠ x := fun j z hj hz e => hf j hj (e ▸ hz)
  have hnh : ∀ j k z, j < L.n → z ∈ ls j → z ≠ L.N + k := fun j k z hj hz e => by have := h.lt j z hj hz; omega
  have hsx : ∀ j, j < L.n → j ≠ i → ∀ z ∈ ls j, z ≠ (ls i).head?.getD (L.N + i) := by
    intro j hj hji z hz e
    cases hl : ls i with
    | nil => rw [hl] at e; exact hnh j i z hj hz e
    | cons y r =>
      rw [hl] at e
      exact hji (h.apart j i z hj hi hz (by rw [hl, show z = y from e]; exact List.mem_cons_self ..))
  refine ⟨?_, ?_, ?_, ?_, ?_, ?_, ?_, ?_, ?_, ?_, ?_, ?_⟩
  · simpa [LL.put] using h.lnx
  · simpa [LL.put] using h.lah
  · simpa [LL.put] using h.lwh
  · simpa [LL.put] using h.lln
  · intro j z hj hz
    by_cases e : j = i
    · subst e
      rw [upd_same] at hz
      rcases List.mem_cons.1 hz with e' | hz
      · rw [e']; exact hx
      · exact h.lt j z hj hz
    · rw [upd_ne _ _ e] at hz; exact h.lt j z hj hz
  · intro j hj
    by_cases e : j = i
    · subst e; rw [upd_same]; exact List.nodup_cons.2 ⟨hf j hj, h.nodup j hj⟩
    · rw [upd_ne _ _ e]; exact h.nodup j hj
  · intro j k z hj hk hzj hzk
    by_cases ej : j = i <;> by_cases ek : k = i
    · rw [ej, ek]
    · subst ej
      rw [upd_same] at hzj
      rw [upd_ne _ _ ek] at hzk
      rcases List.mem_cons.1 hzj with e | hz
      · exact absurd hzk (e ▸ hf k hk)
      · exact h.apart j k z hj hk hz hzk
    · subst ek
      rw [upd_same] at hzk
      rw [upd_ne _ _ ej] at hzj
      rcases List.mem_cons.1 hzk with e | hz
      · exact absurd hzj (e ▸ hf j hj)
      · exact h.apart j k z hj hk hzj hz
    · rw [upd_ne _ _ ej] at hzj
      rw [upd_ne _ _ ek] at hzk
      exact h.apart j k z hj hk hzj hzk
  · intro j hj
    show Chain ((L.nx.set x (L.nx.getD (L.N + i) 0)).set (L.N + i) x) (L.N + j) _ (L.N + j)
    by_cases e : j = i
    · subst e
      rw [upd_same]
      exact chain_ahead L.nx (L.N + j) x (ls j) (by omega) (fun z hz => ⟨hne j z hj hz, hnh j j z hj hz⟩) (by omega) (by omega) (h.fwd j hj)
    · rw [upd_ne _ _ e]
      exact chain_set _ _ _ _ _ _ (by omega) (fun z hz => hnh j i z hj hz) (chain_set _ _ _ _ _ _ (by omega) (fun z hz => hne j z hj hz) (h.fwd j hj))
  · intro j hj
    show Chain ((L.ah.set x (L.N + i)).set (L.nx.getD (L.N + i) 0) x) (L.N + j) _ (L.N + j)
    rw [hs0]
    by_cases e : j = i
    · subst e
      rw [upd_same, List.reverse_cons]
      exact chain_behind L.ah (L.N + j) x (ls j) (by omega) (fun z hz => ⟨hne j z hj hz, hnh j j z hj hz⟩) (h.nodup j hj) (by omega) (by omega) (h.bwd j hj)
    · rw [upd_ne _ _ e]
      refine chain_set _ _ _ _ _ _ (fun e' => ?_) (fun z hz => hsx j hj e z (List.mem_reverse.1 hz)) (chain_set _ _ _ _ _ _ (by omega) (fun z hz => hne j z hj (List.mem_reverse.1 hz)) (h.bwd j hj))
      cases hl : ls i with
      | nil => rw [hl] at e'; simp at e'; omega
      | cons y r => rw [hl] at e'; exact hnh i j y hi (by rw [hl]; exact List.mem_cons_self ..) e'.symm
  · intro j z hj hz
    show (L.wh.set x (i : Int)).getD z 0 = (j : Int)
    by_cases e : j = i
    · subst e
      rw [upd_same] at hz
      rcases List.mem_cons.1 hz with e' | hz
      · rw [e']; exact gsetI_eq _ _ (by rw [h.lwh]; exact hx)
      · rw [gsetI_ne _ _ (fun e' => hne j z hj hz e'.symm)]; exact h.inn j z hj hz
    · rw [upd_ne _ _ e] at hz
      rw [gsetI_ne _ _ (fun e' => hne j z hj hz e'.symm)]; exact h.inn j z hj hz
  · intro z hz hno
    show (L.wh.set x (i : Int)).getD z 0 = -1
    have hzx : x ≠ z := by
      intro e
      have := hno i hi
      rw [upd_same, e] at this
      exact this (List.mem_cons_self ..)
    rw [gsetI_ne _ _ hzx]
    refine h.out z hz fun j hj hm => hno j hj ?_
    by_cases e : j = i
    · subst e; rw [upd_same]; exact List.mem_cons_of_mem _ hm
    · rw [upd_ne _ _ e]; exact hm
  · intro j hj
    show (L.ln.set i (L.ln.getD i 0 + 1)).getD j 0 = _
    by_cases e : j = i
    · subst e; rw [upd_same, gset_eq _ _ (by rw [h.lln]; exact hj), h.ln j hj]; rfl
    · rw [upd_ne _ _ e, gset_ne _ _ (fun e' => e e'.symm)]; exact h.ln j hj

theorem getLastD_lastOf (a : Nat) (xs : List Nat) : xs.getLast?.getD a = lastOf a xs := by
  rw [← List.head?_reverse]; exact lastOf_reverse a xs

/-- Where x stands: the links round it. -/
theorem Rep.links {L : LL} {ls : Nat → List Nat} (h : Rep L ls) {i x : Nat} {xs ys : List Nat} (hi : i < L.n) (hl : ls i = xs ++ x :: ys) :
    L.nx.getD x 0 = ys.head?.getD (L.N + i) ∧ L.ah.getD x 0 = lastOf (L.N + i) xs := by
  have h1 := h.fwd i hi
  have h2 := h.bwd i hi
  rw [hl] at h1 h2
  rw [List.reverse_append, List.reverse_cons, List.append_assoc, List.singleton_append] at h2
  refine ⟨chain_first _ _ _ _ ((chain_app _ _ _ _ _ _).1 h1).2, ?_⟩
  rw [chain_first _ _ _ _ ((chain_app _ _ _ _ _ _).1 h2).2, lastOf_reverse]

theorem Rep.links_lt {L : LL} {ls : Nat → List Nat} (h : Rep L ls) {i x : Nat} {xs ys : List Nat} (hi : i < L.n) (hl : ls i = xs ++ x :: ys) :
    ys.head?.getD (L.N + i) < L.N + L.n ∧ lastOf (L.N + i) xs < L.N + L.n := by
  constructor
  · cases ys with
    | nil => simp; omega
    | cons y r => have := h.lt i y hi (by rw [hl]; simp); simp; omega
  · rcases lastOf_mem (L.N + i) xs with e | hm
    · rw [e]; omega
    · have := h.lt i _ hi (by rw [hl]; exact List.mem_append_left _ hm)
      omega

/-- out takes x from list i. -/
theorem rep_out {L : LL} {ls : Nat → List Nat} (h : Rep L ls) {i x : Nat} {xs ys : List Nat} (hi : i < L.n) (hl : ls i = xs ++ x :: ys) : Rep (L.out i x) (upd ls i (xs ++ ys)) := by
  obtain ⟨l1, l2⟩ := h.links hi hl
  obtain ⟨b1, b2⟩ := h.links_lt hi hl
  have hlen := h.lnx
  have hlah := h.lah
  have hxi : x ∈ ls i := by rw [hl]; simp
  have hx := h.lt i x hi hxi
  have hnd := h.nodup i hi
  rw [hl] at hnd
  have hsub : ∀ z, z ∈ xs ++ ys → z ∈ ls i := fun z hz => by
    rw [hl]
    rcases List.mem_append.1 hz with h' | h'
    · exact List.mem_append_left _ h'
    · exact List.mem_append_right _ (List.mem_cons_of_mem _ h')
  have hxno : x ∉ xs ++ ys := by
    intro hm
    rw [List.nodup_append] at hnd
    rcases List.mem_append.1 hm with h' | h'
    · exact hnd.2.2 x h' x (List.mem_cons_self ..) rfl
    · exact (List.nodup_cons.1 hnd.2.1).1 h'
  have hnh : ∀ j k z, j < L.n → z ∈ ls j → z ≠ L.N + k := fun j k z hj hz e => by have := h.lt j z hj hz; omega
  have hfull : ((L.N + i) :: (xs ++ x :: ys)).Nodup := List.nodup_cons.2 ⟨fun hm => hnh i i _ hi (hl ▸ hm) rfl, hnd⟩
  have hother : ∀ j, j < L.n → j ≠ i → ∀ z, z ∈ (L.N + j) :: ls j → z ≠ ys.head?.getD (L.N + i) ∧ z ≠ lastOf (L.N + i) xs := by
    intro j hj hji z hz
    have key : ∀ u, u = L.N + i ∨ u ∈ ls i → z ≠ u := by
      intro u hu e
      subst e
      rcases List.mem_cons.1 hz with e | hz
      · rcases hu with e' | hu
        · omega
        · exact hnh i j z hi hu e
      · rcases hu with e' | hu
        · exact hnh j i z hj hz e'
        · exact hji (h.apart j i z hj hi hz hu)
    refine ⟨key _ ?_, key _ ?_⟩
    · cases ys with
      | nil => exact .inl rfl
      | cons y r => exact .inr (by rw [hl]; simp)
    · rcases lastOf_mem (L.N + i) xs with e | hm
      · exact .inl e
      · exact .inr (by rw [hl]; exact List.mem_append_left _ hm)
  refine ⟨?_, ?_, ?_, ?_, ?_, ?_, ?_, ?_, ?_, ?_, ?_, ?_⟩
  · simpa [LL.out] using h.lnx
  · simpa [LL.out] using h.lah
  · simpa [LL.out] using h.lwh
  · simpa [LL.out] using h.lln
  · intro j z hj hz
    by_cases e : j = i
    · subst e; rw [upd_same] at hz; exact h.lt j z hj (hsub z hz)
    · rw [upd_ne _ _ e] at hz; exact h.lt j z hj hz
  · intro j hj
    by_cases e : j = i
    · subst e
      rw [upd_same]
      exact hnd.sublist (List.Sublist.append (List.Sublist.refl xs) (List.sublist_cons_self x ys))
    · rw [upd_ne _ _ e]; exact h.nodup j hj
  · intro j k z hj hk hzj hzk
    refine h.apart j k z hj hk ?_ ?_
    · by_cases e : j = i
      · subst e; rw [upd_same] at hzj; exact hsub z hzj
      · rw [upd_ne _ _ e] at hzj; exact hzj
    · by_cases e : k = i
      · subst e; rw [upd_same] at hzk; exact hsub z hzk
      · rw [upd_ne _ _ e] at hzk; exact hzk
  · intro j hj
    show Chain (L.nx.set (L.ah.getD x 0) (L.nx.getD x 0)) (L.N + j) _ (L.N + j)
    rw [l2]
    by_cases e : j = i
    · subst e
      rw [upd_same]
      exact chain_remove L.nx (L.N + j) x xs ys hfull (by omega) (hl ▸ h.fwd j hj)
    · rw [upd_ne _ _ e]
      have ho := hother j hj e
      exact chain_set _ _ _ _ _ _ (ho _ (List.mem_cons_self ..)).2 (fun z hz => (ho z (List.mem_cons_of_mem _ hz)).2) (h.fwd j hj)
  · intro j hj
    show Chain (L.ah.set (L.nx.getD x 0) (L.ah.getD x 0)) (L.N + j) _ (L.N + j)
    rw [l1]
    by_cases e : j = i
    · subst e
      rw [upd_same, List.reverse_append]
      have hb := h.bwd j hj
      rw [hl, List.reverse_append, List.reverse_cons, List.append_assoc, List.singleton_append] at hb
      have hlast : lastOf (L.N + j) ys.reverse = ys.head?.getD (L.N + j) := by rw [← lastOf_reverse, List.reverse_reverse]
      have hfr : ((L.N + j) :: (ys.reverse ++ x :: xs.reverse)).Nodup := by
        have : (ys.reverse ++ x :: xs.reverse) = (xs ++ x :: ys).reverse := by simp
        rw [this]
        have h2 := List.nodup_cons.1 hfull
        exact List.nodup_cons.2 ⟨fun hm => h2.1 (List.mem_reverse.1 hm), List.pairwise_reverse.2 (h2.2.imp fun hab => hab.symm)⟩
      have := chain_remove L.ah (L.N + j) x ys.reverse xs.reverse hfr (by rw [hlast]; omega) hb
      rw [hlast] at this
      exact this
    · rw [upd_ne _ _ e]
      have ho := hother j hj e
      exact chain_set _ _ _ _ _ _ (ho _ (List.mem_cons_self ..)).1 (fun z hz => (ho z (List.mem_cons_of_mem _ (List.mem_reverse.1 hz))).1) (h.bwd j hj)
  · intro j z hj hz
    show (L.wh.set x (-1)).getD z 0 = (j : Int)
    have hzx : x ≠ z := by
      intro e'
      by_cases e : j = i
      · subst e; rw [upd_same, ← e'] at hz; exact hxno hz
      · rw [upd_ne _ _ e, ← e'] at hz; exact e (h.apart j i x hj hi hz hxi)
    rw [gsetI_ne _ _ hzx]
    by_cases e : j = i
    · subst e; rw [upd_same] at hz; exact h.inn j z hj (hsub z hz)
    · rw [upd_ne _ _ e] at hz; exact h.inn j z hj hz
  · intro z hz hno
    show (L.wh.set x (-1)).getD z 0 = -1
    by_cases hzx : x = z
    · subst hzx; exact gsetI_eq _ _ (by rw [h.lwh]; exact hz)
    · rw [gsetI_ne _ _ hzx]
      refine h.out z hz fun j hj hm => hno j hj ?_
      by_cases e : j = i
      · subst e
        rw [upd_same]
        rw [hl] at hm
        rcases List.mem_append.1 hm with h' | h'
        · exact List.mem_append_left _ h'
        · rcases List.mem_cons.1 h' with e' | h'
          · exact absurd e'.symm hzx
          · exact List.mem_append_right _ h'
      · rw [upd_ne _ _ e]; exact hm
  · intro j hj
    show (L.ln.set i (L.ln.getD i 0 - 1)).getD j 0 = _
    by_cases e : j = i
    · subst e; rw [upd_same, gset_eq _ _ (by rw [h.lln]; exact hj), h.ln j hj, hl]; simp
    · rw [upd_ne _ _ e, gset_ne _ _ (fun e' => e e'.symm)]; exact h.ln j hj

end Go.Proofs.Ythnagihgjenimaa
