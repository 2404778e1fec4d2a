/- ram: plain laws of what is put out: there is room where a chunk of the class was freed; what is charged fits the pages; items of one class. -/
import Derived.Test.YthnagihgjenimaaDoorRamX
namespace Go.Proofs.YthnagihgjenimaaDoor
open Go.RowKit
set_option linter.unusedVariables false
set_option linter.unusedSimpArgs false
theorem less_room {D : AD} (h : D.Ok) {m k : Nat} (hm : D.Has m k) : ¬ FullA (D.less m) k := by
  rintro ⟨f1, f2⟩
  obtain ⟨hj, hb, hc⟩ := hm
  have hn : (D.less m).n = D.n := rfl
  have hg : (D.less m).g (m / 32) = D.g (m / 32) - 2 ^ (m % 32) := by
    show updN D.g (m / 32) _ (m / 32) = _
    rw [updN_same]
  have h0 := f2 (m / 32) hj
  refine f1 (m / 32) hj ⟨h0, hc, ?_⟩
  have g32 := h.g32 hj
  have hoff := bitN_off hb (m % 32)
  rw [if_pos rfl] at hoff
  have hl := low_le (g := D.g (m / 32) - 2 ^ (m % 32)) (Nat.lt_of_le_of_lt (Nat.sub_le _ _) g32) hoff (by omega)
  have hk := bit_lt (h.2 (m / 32) hj) hb
  rw [hg, ← hc]
  omega
theorem chg_fits {z : Int} (h0 : 0 ≤ z) (h1 : z ≤ 1024) : z ≤ (szOf (cls z) : Nat) := by
  unfold cls
  split <;> (try (simp [szOf]; omega))
  split <;> (try (simp [szOf]; omega))
  split <;> (try (simp [szOf]; omega))
  split <;> (try (simp [szOf]; omega))
  split <;> (try (simp [szOf]; omega))
  split <;> (try (simp [szOf]; omega))
  split <;> (simp [szOf]; omega)
theorem less_sum {D : AD} (h : D.Ok) {m k : Nat} (hm : D.Has m k) : (D.less m).sum + szOf k = D.sum := by
  obtain ⟨hj, hb, hc⟩ := hm
  have h1 := sumN_one (f := fun i => pc (D.g i) * szOf (D.c i)) (f' := fun i => pc ((D.less m).g i) * szOf ((D.less m).c i)) (j := m / 32) (fun i hi => by
    show pc (updN D.g (m / 32) _ i) * szOf (D.c i) = _
    rw [updN_ne _ _ _ hi]) D.n hj
  have hg : (D.less m).g (m / 32) = D.g (m / 32) - 2 ^ (m % 32) := by
    show updN D.g (m / 32) _ (m / 32) = _
    rw [updN_same]
  have hc' : (D.less m).c (m / 32) = k := hc
  have hp := pc_off (h.g32 hj) (k := m % 32) (by omega) hb
  simp only [hg, hc', hc] at h1
  have e1 : (D.less m).sum = sumN (fun i => pc ((D.less m).g i) * szOf ((D.less m).c i)) D.n := rfl
  have e2 : D.sum = sumN (fun i => pc (D.g i) * szOf (D.c i)) D.n := rfl
  rw [e1, e2]
  have h2 : pc (D.g (m / 32)) * szOf k = pc (D.g (m / 32) - 2 ^ (m % 32)) * szOf k + szOf k := by
    rw [← hp, Nat.add_mul, Nat.one_mul]
  omega
theorem RInv.sum_le : ∀ {hs : List HM} {D : AD}, RInv D hs → sumC hs ≤ D.sum
  | [], D, h => by simp [sumC]
  | x :: hs, D, h => by
    have hx : RInv D ([] ++ x :: hs) := h
    have h1 := RInv.sum_le hx.out
    have h2 := less_sum h.ok hx.at_
    have h3 := h.good x (List.mem_cons_self ..)
    have h4 := h3.1.chg
    have h5 := chg_fits (z := (x.it.chg : Int)) (by omega) (by omega)
    rw [← h3.2] at h5
    rw [sumC_cons]
    simp only [List.nil_append] at h1
    omega
/-- All that is charged fits the pages. -/
theorem RInv.fits {hs : List HM} {D : AD} (h : RInv D hs) : sumC hs ≤ 1024 * D.n := Nat.le_trans h.sum_le (YthnagihgjenimaaDoor.sum_le h.ok)
/-- Where all are of one class, one at most is put out: the oldest. -/
theorem Reach.one {cl : Nat} {D0 D D3 : AD} {hs0 hs gone : List HM} {r : Int} (h : Reach cl D0 hs0 gone D hs) (hg : GiveS D cl r 0 D3) (hi : RInv D0 hs0) (hall : ∀ x ∈ hs0, x.cl = cl) :
    (gone = [] ∧ hs = hs0 ∧ D = D0) ∨ ∃ x, gone = [x] ∧ hs0 = hs ++ [x] := by
  have hcl : ∀ {l : List HM}, (∀ x ∈ l, x ∈ hs0) → l ≠ [] → lsOf l cl ≠ [] := fun {l} hl hne e => by
    cases l with
    | nil => exact hne rfl
    | cons a t =>
      have := hall a (hl a (List.mem_cons_self ..))
      rw [lsOf_cons, ← this, upd_same] at e
      cases e
  cases h with
  | start => exact .inl ⟨rfl, rfl, rfl⟩
  | next h1 hf hp ho =>
    rename_i gone1 D1 xs ys x
    have hxs := h1.sub.1
    have hxc : x.cl = cl := hall x (hxs x (by simp))
    have hys : ys = [] := by
      rcases ys with _ | ⟨a, t⟩
      · rfl
      · exact absurd (hxc ▸ ho) (hcl (fun q hq => hxs q (by simp; exact .inr (.inr (by simpa using hq)))) (by simp))
    subst hys
    obtain ⟨ls, hls⟩ : ∃ ls, ls = xs ++ [x] := ⟨_, rfl⟩
    rw [← hls] at h1
    cases h1 with
    | start =>
      right
      exact ⟨x, rfl, by rw [hls]; simp⟩
    | next h2 hf2 hp2 ho2 =>
      rename_i gone2 D2 xs2 ys2 x2
      have hi2 := h2.inv hi
      have hx2 : x2.cl = cl := hall x2 (h2.sub.1 x2 (by simp))
      exact absurd hf (less_room hi2.ok (hx2 ▸ hi2.at_))
end Go.Proofs.YthnagihgjenimaaDoor
