/- Rings of numbers told by arrays: what a store makes of a chain. Plain lists, no program. -/
namespace Go.Proofs.Ythnagihgjenimaa

/-- From a on, f leads through the numbers of the list to b. -/
def Chain (f : List Nat) : Nat → List Nat → Nat → Prop
  | a, [], b => f.getD a 0 = b
  | a, x :: r, b => f.getD a 0 = x ∧ Chain f x r b

theorem gset_ne (l : List Nat) {i j : Nat} (v : Nat) (h : i ≠ j) : (l.set i v).getD j 0 = l.getD j 0 := by
  simp [List.getD_eq_getElem?_getD, List.getElem?_set_ne h]
theorem gset_eq (l : List Nat) {i : Nat} (v : Nat) (h : i < l.length) : (l.set i v).getD i 0 = v := by
  simp [List.getD_eq_getElem?_getD, h]

theorem chain_app (f : List Nat) : ∀ (xs : List Nat) (a y : Nat) (ys : List Nat) (b : Nat), Chain f a (xs ++ y :: ys) b ↔ Chain f a xs y ∧ Chain f y ys b
  | [], a, y, ys, b => by simp [Chain]
  | x :: r, a, y, ys, b => by simp [Chain, chain_app f r x y ys b, and_assoc]

theorem chain_first (f : List Nat) (a : Nat) (xs : List Nat) (b : Nat) (h : Chain f a xs b) : f.getD a 0 = xs.head?.getD b := by
  cases xs with
  | nil => exact h
  | cons x r => exact h.1

theorem chain_set (f : List Nat) (k v : Nat) : ∀ (xs : List Nat) (a b : Nat), a ≠ k → (∀ z ∈ xs, z ≠ k) → Chain f a xs b → Chain (f.set k v) a xs b
  | [], a, b, ha, _, h => by
    show (f.set k v).getD a 0 = b
    rw [gset_ne f v (fun e => ha e.symm)]; exact h
  | x :: r, a, b, ha, hx, h => by
    refine ⟨?_, chain_set f k v r x b (hx x (List.mem_cons_self ..)) (fun z hz => hx z (List.mem_cons_of_mem _ hz)) h.2⟩
    rw [gset_ne f v (fun e => ha e.symm)]; exact h.1

/-- A chain whose first number leads elsewhere is a chain from there: where it began has been put ahead. -/
theorem chain_from (f : List Nat) {a c : Nat} (xs : List Nat) (b : Nat) (h : Chain f a xs b) (hc : f.getD c 0 = f.getD a 0) : Chain f c xs b := by
  cases xs with
  | nil => exact hc.trans h
  | cons x r => exact ⟨hc.trans h.1, h.2⟩

/-- The last one of a and xs. -/
def lastOf (a : Nat) : List Nat → Nat
  | [] => a
  | x :: r => lastOf x r

theorem lastOf_mem (a : Nat) : ∀ xs, lastOf a xs = a ∨ lastOf a xs ∈ xs
  | [] => .inl rfl
  | x :: r => by
    right
    rcases lastOf_mem x r with h | h
    · rw [lastOf, h]; exact List.mem_cons_self ..
    · exact List.mem_cons_of_mem _ h

theorem lastOf_snoc (a x : Nat) : ∀ xs, lastOf a (xs ++ [x]) = x := by
  intro xs
  induction xs generalizing a with
  | nil => rfl
  | cons y r ih => exact ih y

theorem lastOf_reverse (a : Nat) (xs : List Nat) : xs.reverse.head?.getD a = lastOf a xs := by
  induction xs generalizing a with
  | nil => rfl
  | cons x r ih =>
    rw [List.reverse_cons, lastOf, ← ih x]
    cases h : r.reverse with
    | nil => rfl
    | cons y s => rfl

/-- The last link of a chain turned. -/
theorem chain_relink (f : List Nat) (s : Nat) : ∀ (xs : List Nat) (a b : Nat), (a :: xs).Nodup → lastOf a xs < f.length → Chain f a xs b → Chain (f.set (lastOf a xs) s) a xs s
  | [], a, b, _, hl, _ => gset_eq f s hl
  | x :: r, a, b, hn, hl, h => by
    have hn' := List.nodup_cons.1 hn
    refine ⟨?_, chain_relink f s r x b hn'.2 hl h.2⟩
    rw [gset_ne f s (fun e => ?_)]
    · exact h.1
    · have : lastOf a (x :: r) ∈ x :: r := by
        rcases lastOf_mem x r with h' | h'
        · rw [lastOf, h']; exact List.mem_cons_self ..
        · exact List.mem_cons_of_mem _ h'
      rw [e] at this
      exact hn'.1 this

/-- x is taken out of a ring. -/
theorem chain_remove (f : List Nat) (h x : Nat) (xs ys : List Nat) (hn : (h :: (xs ++ x :: ys)).Nodup) (hl : lastOf h xs < f.length) (hc : Chain f h (xs ++ x :: ys) h) :
    Chain (f.set (lastOf h xs) (f.getD x 0)) h (xs ++ ys) h := by
  obtain ⟨h1, h2⟩ := (chain_app f xs h x ys h).1 hc
  have hn1 : (h :: xs).Nodup := hn.sublist (List.Sublist.cons_cons h (List.sublist_append_left xs _))
  have hr := chain_relink f (f.getD x 0) xs h x hn1 hl h1
  cases ys with
  | nil =>
    rw [List.append_nil]
    have : f.getD x 0 = h := h2
    rw [this] at hr ⊢
    exact hr
  | cons y r =>
    obtain ⟨e, h3⟩ := h2
    rw [e] at hr ⊢
    refine (chain_app _ xs h y r h).2 ⟨hr, ?_⟩
    have hd : ∀ z ∈ h :: xs, ∀ u ∈ y :: r, z ≠ u := by
      intro z hz u hu e'
      subst e'
      rw [← List.cons_append, List.nodup_append] at hn
      exact hn.2.2 z hz z (List.mem_cons_of_mem _ hu) rfl
    have hm : lastOf h xs ∈ h :: xs := by
      rcases lastOf_mem h xs with h' | h'
      · rw [h']; exact List.mem_cons_self ..
      · exact List.mem_cons_of_mem _ h'
    exact chain_set f _ _ r y h (fun e' => hd _ hm y (List.mem_cons_self ..) e'.symm) (fun z hz e' => hd _ hm z (List.mem_cons_of_mem _ hz) e'.symm) h3

/-- x is put ahead of all in a ring: the links forward. -/
theorem chain_ahead (f : List Nat) (h x : Nat) (xs : List Nat) (hx : x ≠ h) (hxs : ∀ z ∈ xs, z ≠ x ∧ z ≠ h) (hlx : x < f.length) (hlh : h < f.length) (hc : Chain f h xs h) :
    Chain ((f.set x (f.getD h 0)).set h x) h (x :: xs) h := by
  refine ⟨gset_eq _ _ (by simpa using hlh), ?_⟩
  have h0 : ((f.set x (f.getD h 0)).set h x).getD x 0 = f.getD h 0 := by rw [gset_ne _ _ (fun e => hx e.symm), gset_eq _ _ hlx]
  cases xs with
  | nil => exact h0.trans hc
  | cons y r =>
    refine ⟨h0.trans hc.1, ?_⟩
    have hy := hxs y (List.mem_cons_self ..)
    exact chain_set _ _ _ r y h hy.2 (fun z hz => (hxs z (List.mem_cons_of_mem _ hz)).2) (chain_set _ _ _ r y h hy.1 (fun z hz => (hxs z (List.mem_cons_of_mem _ hz)).1) hc.2)

/-- x is put ahead of all in a ring: the links backward. -/
theorem chain_behind (f : List Nat) (h x : Nat) (xs : List Nat) (hx : x ≠ h) (hxs : ∀ z ∈ xs, z ≠ x ∧ z ≠ h) (hn : xs.Nodup) (hlx : x < f.length) (hs : xs.head?.getD h < f.length) (hc : Chain f h xs.reverse h) :
    Chain ((f.set x h).set (xs.head?.getD h) x) h (xs.reverse ++ [x]) h := by
  refine (chain_app _ xs.reverse h x [] h).2 ⟨?_, ?_⟩
  · cases xs with
    | nil => exact gset_eq _ _ (by simpa using hs)
    | cons y r =>
      have hy := hxs y (List.mem_cons_self ..)
      rw [List.reverse_cons] at hc ⊢
      obtain ⟨h1, _⟩ := (chain_app f r.reverse h y [] h).1 hc
      refine (chain_app _ r.reverse h y [] x).2 ⟨?_, gset_eq _ _ (by simpa using hs)⟩
      have hny := (List.nodup_cons.1 hn).1
      refine chain_set _ _ _ _ _ _ (fun e => hy.2 e.symm) (fun z hz e => ?_) (chain_set _ _ _ _ _ _ (fun e => hx e.symm) (fun z hz e => ?_) h1)
      · exact hny (by have := List.mem_reverse.1 hz; rw [e] at this; exact this)
      · exact (hxs z (List.mem_cons_of_mem _ (List.mem_reverse.1 hz))).1 e
  · show ((f.set x h).set (xs.head?.getD h) x).getD x 0 = h
    rw [gset_ne, gset_eq _ _ hlx]
    intro e
    cases xs with
    | nil => exact hx e.symm
    | cons y r => exact (hxs y (List.mem_cons_self ..)).1 e

end Go.Proofs.Ythnagihgjenimaa
