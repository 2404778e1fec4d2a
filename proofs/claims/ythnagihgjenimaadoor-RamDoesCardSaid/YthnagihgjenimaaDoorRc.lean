/- slab reference: Size, Class. -/
import Derived.Test.YthnagihgjenimaaDoorGive
namespace Go.Proofs.YthnagihgjenimaaDoor
open Go.RowKit
set_option linter.unusedVariables false
set_option linter.unusedSimpArgs false

theorem rsize_any (k : Int) (w : World) : Calls Tryd.prog 15 #[.int .i64 k] w (NatP (sizeI k) w) := by
  by_cases h : 0 ≤ k ∧ k < 8
  · obtain ⟨r, rfl⟩ := Int.eq_ofNat_of_zero_le h.1
    have hr : r < 8 := by omega
    have e : sizeI (r : Int) = szOf r := by unfold sizeI; rw [if_pos h]; simp
    rw [e]
    have a : r = 0 ∨ r = 1 ∨ r = 2 ∨ r = 3 ∨ r = 4 ∨ r = 5 ∨ r = 6 ∨ r = 7 := by omega
    clear h hr e
    rcases a with rfl | rfl | rfl | rfl | rfl | rfl | rfl | rfl <;>
    · go_enter Tryd.func15, Tryd.ntmps15
      go_wp2
      go_ret
      exact ⟨rfl, (Keeps.refl _ _).alloc _⟩
  · have e : sizeI k = 0 := by unfold sizeI; rw [if_neg h]
    rw [e]
    by_cases h1 : k < 0
    · clear h e
      go_enter Tryd.func15, Tryd.ntmps15
      go_wp2
      go_ret
      exact ⟨rfl, Keeps.refl _ _⟩
    · have h2 : decide (k < 0) = false := by simpa using h1
      have h3 : decide (7 < k) = true := by simp; omega
      clear h e h1
      go_enter Tryd.func15, Tryd.ntmps15
      go_wp2
      go_ret
      exact ⟨rfl, Keeps.refl _ _⟩

set_option maxHeartbeats 1000000 in
theorem rclass_any (n : Int) (w : World) : Calls Tryd.prog 14 #[.int .i64 n] w (ClassP n w) := by
  by_cases h0 : n < 0
  · go_enter Tryd.func14, Tryd.ntmps14
    go_wp2_with fail
    go_ret2
    exact ⟨0, 2, rfl, .inl ⟨h0, rfl, rfl⟩, Keeps.refl _ _⟩
  · have h0' : decide (n < 0) = false := by simpa using h0
    go_enter Tryd.func14, Tryd.ntmps14
    go_wp2_with fail
    go_loopw [4] (fun i wr => ∃ t : Nat, t ≤ 8 ∧ i = .int .i64 t ∧ (∀ j, j < t → (szOf j : Int) < n) ∧ Keeps (fun _ => False) w wr) (fun i _ => 8 - (intOf i).toNat)
    case atStart => exact ⟨0, by omega, rfl, fun j hj => absurd hj (by omega), Keeps.refl _ _⟩
    case round =>
      obtain ⟨t, ht, rfl, hb, hk⟩ := hrel
      have HB := Lib.hid hb
      have HK := Lib.hid hk
      clear hb hk
      by_cases hlt : t < 8
      · have HS := Lib.hid (rsize_any (t : Int) wr)
        have es : sizeI (t : Int) = szOf t := by unfold sizeI; rw [if_pos ⟨by omega, by omega⟩]; simp
        rw [es] at HS
        clear es
        go_wp2_with fail
        refine HS.out.mono ?_
        rintro e w2 ⟨rfl, hk2⟩
        have HK2 := Lib.hid (HK.out.trans hk2)
        clear hk2
        by_cases hle : n ≤ (szOf t : Nat)
        · have HC := Lib.hid (cls_step hlt HB.out hle)
          have hmx := sz_le t
          have hle' : decide (n ≤ ((szOf t : Nat) : Int)) = true := by simpa using hle
          go_wp2_with fail
          go_ret2
          exact ⟨_, 0, rfl, .inr (.inl ⟨by omega, by omega, by rw [HC.out], rfl⟩), HK2.out⟩
        · have hle' : decide (n ≤ ((szOf t : Nat) : Int)) = false := by simpa using hle
          have HN : Hid (∀ j, j < t + 1 → (szOf j : Int) < n) := Lib.hid (fun j hj => by
            by_cases e : j = t
            · subst e; omega
            · exact HB.out j (by omega))
          clear hle
          go_wp2_with fail
          go_roundw
          case rel => exact ⟨t + 1, by omega, by go_num, HN.out, HK2.out⟩
          case measure => simp [intOf]; omega
      · obtain rfl : t = 8 := by omega
        have h7 : 1024 < n := HB.out 7 (by omega)
        go_wp2_with fail
        go_ret2
        exact ⟨0, 3, rfl, .inr (.inr ⟨h7, rfl, rfl⟩), HK.out⟩
end Go.Proofs.YthnagihgjenimaaDoor
