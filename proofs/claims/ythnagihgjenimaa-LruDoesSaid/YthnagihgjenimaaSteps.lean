/- What is done to lists, whatever is asked: Push, Touch, Remove in one contract each. -/
import Derived.Test.YthnagihgjenimaaCalls2
namespace Go.Proofs.Ythnagihgjenimaa
open Go.RowKit
set_option linter.unusedVariables false

def PushS (k : LK) (ls : Nat → List Nat) (i x c : Int) (ls' : Nat → List Nat) : Prop :=
  (¬ okLN k i x ∧ c = 2 ∧ ls' = ls) ∨
  (∃ i' x' j : Nat, i = i' ∧ x = x' ∧ i' < k.n ∧ j < k.n ∧ x' ∈ ls j ∧ c = 5 ∧ ls' = ls) ∨
  (∃ i' x' : Nat, i = i' ∧ x = x' ∧ i' < k.n ∧ x' < k.N ∧ (∀ j, j < k.n → x' ∉ ls j) ∧ c = 0 ∧ ls' = upd ls i' (x' :: ls i'))
def TouchS (k : LK) (ls : Nat → List Nat) (x c : Int) (ls' : Nat → List Nat) : Prop :=
  (¬ okLN k 0 x ∧ c = 2 ∧ ls' = ls) ∨
  (∃ x' : Nat, x = x' ∧ x' < k.N ∧ (∀ j, j < k.n → x' ∉ ls j) ∧ c = 4 ∧ ls' = ls) ∨
  (∃ (x' j : Nat) (xs ys : List Nat), x = x' ∧ j < k.n ∧ ls j = xs ++ x' :: ys ∧ c = 0 ∧ ls' = upd ls j (x' :: (xs ++ ys)))
def RemoveS (k : LK) (ls : Nat → List Nat) (x c : Int) (ls' : Nat → List Nat) : Prop :=
  (¬ okLN k 0 x ∧ c = 2 ∧ ls' = ls) ∨
  (∃ x' : Nat, x = x' ∧ x' < k.N ∧ (∀ j, j < k.n → x' ∉ ls j) ∧ c = 4 ∧ ls' = ls) ∨
  (∃ (x' j : Nat) (xs ys : List Nat), x = x' ∧ j < k.n ∧ ls j = xs ++ x' :: ys ∧ c = 0 ∧ ls' = upd ls j (xs ++ ys))

/-- A call on lists that answers an Errno. -/
def LK.Step (k : LK) (S : Int → (Nat → List Nat) → Prop) (w : World) (e : Ending) (w' : World) : Prop :=
  ∃ (c : Int) (ls' : Nat → List Nat), S c ls' ∧ e = .returned (.int .i64 c) ∧ k.Has w' ls' ∧ Keeps k.own w w'

theorem split_mem {x : Nat} {l : List Nat} (h : x ∈ l) : ∃ xs ys, l = xs ++ x :: ys := List.append_of_mem h

theorem push_step (k : LK) (w : World) (ls : Nat → List Nat) (h : k.Has w ls) (i x : Int) :
    Calls Try.prog 11 #[k.ptr, .int .i64 i, .int .i64 x] w (k.Step (PushS k ls i x) w) := by
  by_cases ho : okLN k i x
  · obtain ⟨a1, a2, a3, a4⟩ := ho
    obtain ⟨i, rfl⟩ := Int.eq_ofNat_of_zero_le a1
    obtain ⟨x, rfl⟩ := Int.eq_ofNat_of_zero_le a3
    by_cases hm : ∃ j, j < k.n ∧ x ∈ ls j
    · obtain ⟨j, hj, hx⟩ := hm
      refine (push_there k w ls h i x j (by omega) hj hx).mono ?_
      rintro e w' ⟨rfl, rfl⟩
      exact ⟨5, ls, .inr (.inl ⟨i, x, j, rfl, rfl, by omega, hj, hx, rfl, rfl⟩), rfl, h, Keeps.refl _ _⟩
    · have hf : ∀ j, j < k.n → x ∉ ls j := fun j hj hx => hm ⟨j, hj, hx⟩
      refine (push_ok k w ls h i x (by omega) (by omega) hf).mono ?_
      rintro e w' ⟨rfl, hh, hk⟩
      exact ⟨0, _, .inr (.inr ⟨i, x, rfl, rfl, by omega, by omega, hf, rfl, rfl⟩), rfl, hh, hk⟩
  · refine (push_bad k w ls h i x ho).mono ?_
    rintro e w' ⟨rfl, rfl⟩
    exact ⟨2, ls, .inl ⟨ho, rfl, rfl⟩, rfl, h, Keeps.refl _ _⟩

theorem touch_step (k : LK) (w : World) (ls : Nat → List Nat) (h : k.Has w ls) (x : Int) :
    Calls Try.prog 13 #[k.ptr, .int .i64 x] w (k.Step (TouchS k ls x) w) := by
  by_cases ho : okLN k 0 x
  · obtain ⟨a1, a2, a3, a4⟩ := ho
    obtain ⟨x, rfl⟩ := Int.eq_ofNat_of_zero_le a3
    by_cases hm : ∃ j, j < k.n ∧ x ∈ ls j
    · obtain ⟨j, hj, hx⟩ := hm
      obtain ⟨xs, ys, hl⟩ := split_mem hx
      refine (touch_ok k w ls h x j xs ys hj hl).mono ?_
      rintro e w' ⟨rfl, hh, hk⟩
      exact ⟨0, _, .inr (.inr ⟨x, j, xs, ys, rfl, hj, hl, rfl, rfl⟩), rfl, hh, hk⟩
    · have hf : ∀ j, j < k.n → x ∉ ls j := fun j hj hx => hm ⟨j, hj, hx⟩
      refine (touch_none k w ls h x (by omega) hf).mono ?_
      rintro e w' ⟨rfl, rfl⟩
      exact ⟨4, ls, .inr (.inl ⟨x, rfl, by omega, hf, rfl, rfl⟩), rfl, h, Keeps.refl _ _⟩
  · refine (touch_bad k w ls h x ho).mono ?_
    rintro e w' ⟨rfl, rfl⟩
    exact ⟨2, ls, .inl ⟨ho, rfl, rfl⟩, rfl, h, Keeps.refl _ _⟩

theorem remove_step (k : LK) (w : World) (ls : Nat → List Nat) (h : k.Has w ls) (x : Int) :
    Calls Try.prog 14 #[k.ptr, .int .i64 x] w (k.Step (RemoveS k ls x) w) := by
  by_cases ho : okLN k 0 x
  · obtain ⟨a1, a2, a3, a4⟩ := ho
    obtain ⟨x, rfl⟩ := Int.eq_ofNat_of_zero_le a3
    by_cases hm : ∃ j, j < k.n ∧ x ∈ ls j
    · obtain ⟨j, hj, hx⟩ := hm
      obtain ⟨xs, ys, hl⟩ := split_mem hx
      refine (remove_ok k w ls h x j xs ys hj hl).mono ?_
      rintro e w' ⟨rfl, hh, hk⟩
      exact ⟨0, _, .inr (.inr ⟨x, j, xs, ys, rfl, hj, hl, rfl, rfl⟩), rfl, hh, hk⟩
    · have hf : ∀ j, j < k.n → x ∉ ls j := fun j hj hx => hm ⟨j, hj, hx⟩
      refine (remove_none k w ls h x (by omega) hf).mono ?_
      rintro e w' ⟨rfl, rfl⟩
      exact ⟨4, ls, .inr (.inl ⟨x, rfl, by omega, hf, rfl, rfl⟩), rfl, h, Keeps.refl _ _⟩
  · refine (remove_bad k w ls h x ho).mono ?_
    rintro e w' ⟨rfl, rfl⟩
    exact ⟨2, ls, .inl ⟨ho, rfl, rfl⟩, rfl, h, Keeps.refl _ _⟩

/-! ### When a number was used last -/
/-- In every list the newer one was used later, and all were used by time t. -/
def Used (k : LK) (ls : Nat → List Nat) (u : Int → Int) (t : Int) : Prop :=
  ∀ i, i < k.n → (ls i).Pairwise (fun (x y : Nat) => u (y : Int) < u (x : Int)) ∧ ∀ x ∈ ls i, 1 ≤ u (x : Int) ∧ u (x : Int) ≤ t

theorem Used.later {k : LK} {ls : Nat → List Nat} {u : Int → Int} {t : Int} (h : Used k ls u t) : Used k ls u (t + 1) :=
  fun i hi => ⟨(h i hi).1, fun x hx => ⟨((h i hi).2 x hx).1, by have := ((h i hi).2 x hx).2; omega⟩⟩

theorem cast_mem {l : List Nat} {z x : Nat} (hz : z ∈ l) (e : (z : Int) = (x : Int)) : x ∈ l := by
  have : z = x := by omega
  exact this ▸ hz

theorem used_ahead {l : List Nat} {u : Int → Int} {t : Int} {x : Nat} (hp : l.Pairwise (fun (x y : Nat) => u (y : Int) < u (x : Int))) (hb : ∀ x ∈ l, 1 ≤ u (x : Int) ∧ u (x : Int) ≤ t) (ht : 0 ≤ t) (hf : x ∉ l) :
    (x :: l).Pairwise (fun (a b : Nat) => (if (b : Int) = (x : Int) then t + 1 else u (b : Int)) < (if (a : Int) = (x : Int) then t + 1 else u (a : Int))) ∧
      ∀ z ∈ x :: l, 1 ≤ (if (z : Int) = (x : Int) then t + 1 else u (z : Int)) ∧ (if (z : Int) = (x : Int) then t + 1 else u (z : Int)) ≤ t + 1 := by
  have hne : ∀ z ∈ l, ¬ ((z : Int) = (x : Int)) := fun z hz e => hf (cast_mem hz e)
  refine ⟨List.pairwise_cons.2 ⟨fun z hz => ?_, hp.imp_of_mem fun {a b} ha hb' hab => ?_⟩, fun z hz => ?_⟩
  · rw [if_neg (hne z hz), if_pos rfl]
    have := (hb z hz).2
    omega
  · rw [if_neg (hne a ha), if_neg (hne b hb')]
    exact hab
  · rcases List.mem_cons.1 hz with rfl | hz
    · rw [if_pos rfl]; omega
    · rw [if_neg (hne z hz)]
      have := hb z hz
      omega

theorem used_keep {l : List Nat} {u : Int → Int} {t : Int} {x : Nat} (hp : l.Pairwise (fun (x y : Nat) => u (y : Int) < u (x : Int))) (hb : ∀ x ∈ l, 1 ≤ u (x : Int) ∧ u (x : Int) ≤ t) (hf : x ∉ l) :
    l.Pairwise (fun (a b : Nat) => (if (b : Int) = (x : Int) then t + 1 else u (b : Int)) < (if (a : Int) = (x : Int) then t + 1 else u (a : Int))) ∧
      ∀ z ∈ l, 1 ≤ (if (z : Int) = (x : Int) then t + 1 else u (z : Int)) ∧ (if (z : Int) = (x : Int) then t + 1 else u (z : Int)) ≤ t + 1 := by
  have hne : ∀ z ∈ l, ¬ ((z : Int) = (x : Int)) := fun z hz e => hf (cast_mem hz e)
  refine ⟨hp.imp_of_mem fun {a b} ha hb' hab => ?_, fun z hz => ?_⟩
  · rw [if_neg (hne a ha), if_neg (hne b hb')]
    exact hab
  · rw [if_neg (hne z hz)]
    have := hb z hz
    omega

theorem used_push {k : LK} {ls : Nat → List Nat} {u : Int → Int} {t : Int} (h : Used k ls u t) (ht : 0 ≤ t) {i x : Nat} (hi : i < k.n) (hf : ∀ j, j < k.n → x ∉ ls j) :
    Used k (upd ls i (x :: ls i)) (fun z => if z = (x : Int) then t + 1 else u z) (t + 1) := by
  intro j hj
  by_cases e : j = i
  · subst e; rw [upd_same]; exact used_ahead (h j hj).1 (h j hj).2 ht (hf j hj)
  · rw [upd_ne _ _ e]; exact used_keep (h j hj).1 (h j hj).2 (hf j hj)

theorem used_remove {k : LK} {ls : Nat → List Nat} {u : Int → Int} {t : Int} (h : Used k ls u t) {i x : Nat} {xs ys : List Nat} (hi : i < k.n) (hl : ls i = xs ++ x :: ys) : Used k (upd ls i (xs ++ ys)) u t := by
  intro j hj
  by_cases e : j = i
  · subst e
    rw [upd_same]
    obtain ⟨h1, h2⟩ := h j hj
    rw [hl] at h1 h2
    refine ⟨h1.sublist (List.Sublist.append (List.Sublist.refl xs) (List.sublist_cons_self x ys)), fun z hz => h2 z ?_⟩
    rcases List.mem_append.1 hz with h' | h'
    · exact List.mem_append_left _ h'
    · exact List.mem_append_right _ (List.mem_cons_of_mem _ h')
  · rw [upd_ne _ _ e]; exact h j hj
end Go.Proofs.Ythnagihgjenimaa
