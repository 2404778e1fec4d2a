/- HashWithin: probes are places, as many as are asked for, and fewer are the first of more. -/
import Derived.Test.YtpmeogbjigkalaaLaws
import Derived.RegionTactic
import Derived.ChangeAlike
import Derived.Deep.RegionWith
import Derived.Deep.RegionHeld3
namespace Go.Proofs.Ytpmeogbjigkalaa
open Go.RowKit
set_option linter.unusedVariables false

theorem probes_take (h m : Int) (n : Nat) : (probes h m (n + 1)).take n = probes h m n := by
  rw [probes_succ, List.take_left' (by simp [probes])]

theorem probes_get (h m : Int) (n i : Nat) (hi : i < n) : (probes h m n).getD i 0 = probe h m i := by
  unfold probes
  simp [hi]

theorem own_take {w : World} {base c n : Nat} {a : Option Addr} {xs : List Value} (h : w.ownsRow base 3 1 (.slice a n c) n xs) (k : Nat) (hk : k ≤ n) : w.ownsRow base 3 1 (.slice a k c) k (xs.take k) := by
  refine ⟨by have := h.1; simp; omega, ?_⟩
  rcases h.2 with ⟨hv, rfl⟩ | ⟨g, cap, cur, hv, h1, h2, h3, h4, h5, h6⟩
  · left
    injection hv with e1 e2 e3
    subst e1 e3
    have : k = 0 := by omega
    subst this
    exact ⟨rfl, rfl⟩
  · right
    injection hv with e1 e2 e3
    subst e1 e3
    refine ⟨g, c, cur, rfl, h1, h2, by omega, h4, h5, ?_⟩
    rw [← h6, List.take_take]
    congr 1
    omega

set_option maxHeartbeats 1000000 in
theorem within_some (h m : Int) (n : Nat) (w : World) (hh0 : 0 ≤ h) (hh1 : h ≤ 18446744073709551615) (h1 : 1 ≤ n) (h2 : n ≤ 16) (h3 : 1 ≤ m) (h4 : m ≤ 16777216) :
    Calls Try.prog 5 #[.int .u64 h, .int .i64 m, .int .i64 n] w fun e w' => e = .returned (.bool true) ∧ Below w.heap.size w w' := by
  go_enter Try.func5, Try.ntmps5
  go_wp2_with (go_at_call 8; refine (wakes_yes _).mono ?_; rintro e w1 ⟨rfl, hb1⟩)
  refine (probes_any h m n w1 hh0 hh1 (by omega) (by omega) h3 h4).mono ?_
  rintro e w2 ⟨v, rfl, hown, hb2⟩
  obtain ⟨a, c, rfl, hc, hR⟩ := own_form hown
  have HR := Lib.hid hR
  clear hR
  have HO := Lib.hid hown
  clear hown
  go_wp2_with fail
  go_loop [9, 35] (fun _ i => ∃ k : Nat, k ≤ n ∧ i = .int .i64 k) (fun _ i => n - (intOf i).toNat)
  case atStart => exact ⟨0, Nat.zero_le _, rfl⟩
  case round =>
    obtain ⟨k, hk, rfl⟩ := hrel
    by_cases hlt : k < n
    · obtain ⟨ad, rfl, hcell⟩ := HR.out.at_ hlt
      have hg := probes_get h m n k hlt
      rw [hg] at hcell
      have hpr := probe_range h m k h3
      clear hg
      generalize probe h m k = x at hcell hpr
      obtain ⟨hx0, hx1⟩ := hpr
      go_wp2_with fail
      go_round
      case rel => exact ⟨k + 1, by omega, by go_num⟩
      case measure => simp [intOf]; omega
    · obtain rfl : k = n := by omega
      by_cases hone : k = 1
      · have ht : ((k : Int) == 1) = true := by simp; omega
        have hH := Lib.hid hone
        clear hone
        go_wp2_with fail
        go_quiet (fail)
        go_wp2
        go_ret
        exact ⟨rfl, (hb1.trans (hb2.mono hb1.size)).trans ⟨rfl, rfl, rfl, Nat.le_refl _, fun _ _ => rfl⟩⟩
      have ht : ((k : Int) == 1) = false := by simp; omega
      have hk2 : 2 ≤ k := by omega
      clear hone
      go_wp2_with fail
      have hbb := hb1.trans (hb2.mono hb1.size)
      clear hb1 hb2
      obtain ⟨j, hj⟩ : ∃ j, k = j + 1 := ⟨k - 1, by omega⟩
      have hj1 : IntKind.i64.wrap ((k : Int) - 1) = (j : Int) := by rw [IntKind.wrap_i64]; omega
      have hj2 : ((k : Int) - 1) = (j : Int) := by omega
      have HJ := Lib.hid hj
      have HO2 := Lib.hid (own_take HO.out j (by omega))
      rw [hj, probes_succ, List.map_append, List.take_left' (by simp [probes])] at HO2
      clear hj
      have hO3 := HO2.out
      have hj3 : IntKind.i64.wrap (j : Int) = (j : Int) := by rw [IntKind.wrap_i64]; have := HJ.out; omega
      have hjc : (j : Int) ≤ (c : Int) := by have := HJ.out; omega
      have hj0 : (0 : Int) ≤ (j : Int) := by omega
      have hjc' : j ≤ c := by omega
      obtain ⟨ad, ha, _⟩ := HR.out.at_ (show 0 < k by omega)
      subst ha
      go_region_held3 (fun w' => w'.ownsRow w1.heap.size 3 1 (.slice (some ad) j c) j ((probes h m j).map (Value.int .i64)) ∧ Below w.heap.size w w') (first | exact ⟨hO3, hbb.drew⟩ | exact ⟨own_below (w := w2.drew) hO3 hb3, hbb.drew.trans (hb3.mono hbb.size)⟩ | exact ⟨own_below (own_below (w := w2.drew) hO3 hb3) hb4, (hbb.drew.trans (hb3.mono hbb.size)).trans (hb4.mono (Nat.le_trans hbb.size hb3.size))⟩) (first
        | (go_at_call 10; refine (probes_any h m j _ hh0 hh1 (by have := HJ.out; omega) (by have := HJ.out; omega) h3 h4).mono ?_; rintro e w3 ⟨u, rfl, hown3, hb3⟩)
        | (go_at_call 9; refine (same_own hown3 (own_below (w := w2.drew) HO2.out hb3) (by have := HJ.out; omega)).mono ?_; rintro e w4 ⟨rfl, hb4⟩))
      all_goals (go_wp2; go_ret)
      rename_i hH
      exact ⟨rfl, hH.2⟩

theorem within_law (h m n : Int) (w : World) (wh : (Lit.int .u64 h).wf = true) (wm : (Lit.int .i64 m).wf = true) (wn : (Lit.int .i64 n).wf = true) :
    Calls Try.prog 5 #[.int .u64 h, .int .i64 m, .int .i64 n] w fun e w' => e = .returned (.bool true) ∧ Below w.heap.size w w' := by
  obtain ⟨hh0, hh1⟩ := wf_u64 wh
  clear wh wm wn
  by_cases hm : mayN m n
  · obtain ⟨h1, h2, h3, h4⟩ := hm
    obtain ⟨n, rfl⟩ := Int.eq_ofNat_of_zero_le (show 0 ≤ n by omega)
    exact within_some h m n w hh0 hh1 (by omega) (by omega) h3 h4
  · have hc : n < 1 ∨ (1 ≤ n ∧ 16 < n) ∨ (1 ≤ n ∧ n ≤ 16 ∧ m < 1) ∨ (1 ≤ n ∧ n ≤ 16 ∧ 1 ≤ m ∧ 16777216 < m) := by unfold mayN at hm; omega
    have HM := Lib.hid hm
    clear hm
    rcases hc with h1 | ⟨h1, h2⟩ | ⟨h1, h2, h3⟩ | ⟨h1, h2, h3, h4⟩ <;>
    · go_enter Try.func5, Try.ntmps5
      go_wp2_with (go_at_call 8; refine (wakes_yes _).mono ?_; rintro e w1 ⟨rfl, hb1⟩)
      refine (probes_no h m n _ HM.out).mono ?_
      rintro e w2 ⟨rfl, rfl⟩
      go_wp2_with fail
      go_ret
      exact ⟨rfl, hb1⟩
end Go.Proofs.Ytpmeogbjigkalaa
