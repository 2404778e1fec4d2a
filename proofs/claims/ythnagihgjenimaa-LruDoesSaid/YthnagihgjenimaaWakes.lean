/- wakes is true; LruSizes: how many lists and numbers there can be. -/
import Derived.Test.YthnagihgjenimaaNew
import Derived.Test.YthnagihgjenimaaEnds
namespace Go.Proofs.Ythnagihgjenimaa
open Go.RowKit
set_option linter.unusedVariables false

theorem Keeps.thenB {S : Nat → Prop} {w w1 w2 : World} {B : Nat} (hb : Below B w w1) (hk : Keeps S w1 w2) (hS : ∀ b, S b → B ≤ b) (hB : B ≤ w1.heap.size) : Below B w w2 := hb.trans (hk.below hS hB)
theorem Keeps.thenQ {w w1 w2 : World} {B : Nat} (hb : Below B w w1) (hk : Keeps (fun _ => False) w1 w2) (hB : B ≤ w1.heap.size) : Below B w w2 := hb.trans (hk.below (fun _ h => h.elim) hB)

theorem wakes_yes (w : World) : Calls Try.prog 8 #[] w fun e w' => e = .returned (.bool true) ∧ Below w.heap.size w w' := by
  go_enter Try.func8, Try.ntmps8
  go_wp2_with fail
  refine (new_ok 3 2 w (by omega) (by omega) (by omega) (by omega)).mono ?_
  rintro e w1 ⟨k, rfl, hN, hn, hHas, hkB, hown, hb1⟩
  have hpush := push_ok k w1 _ hHas 1 2 (by omega) (by omega) (fun j _ h => by cases h)
  have HP := Lib.hid hpush
  have HN := Lib.hid hN
  have HM := Lib.hid hn
  have HO := Lib.hid hown
  clear hpush hN hn hown hHas
  unfold LK.ptr at *
  go_wp2_with fail
  refine HP.out.mono ?_
  rintro e w2 ⟨rfl, hHas2, hk2⟩
  have hb2 := Keeps.thenB hb1 hk2 HO.out hb1.size
  have HH2 := Lib.hid hHas2
  clear hb1 hk2 hHas2
  go_wp2_with fail
  refine (oldest_ok k w2 _ HH2.out 1 2 (by rw [HM.out]; omega) (by simp [upd])).mono ?_
  unfold two
  rintro e w3 ⟨rfl, hk3⟩
  have hb3 := Keeps.thenQ hb2 hk3 hb2.size
  have HH3 := Lib.hid (HH2.out.quiet hk3)
  clear hb2 hk3
  go_wp2_with fail
  refine (len_ok k w3 _ HH3.out 1 (by rw [HM.out]; omega)).mono ?_
  rintro e w4 ⟨rfl, rfl⟩
  go_wp2_with fail
  refine (push_there k w3 _ HH3.out 0 2 1 (by rw [HM.out]; omega) (by rw [HM.out]; omega) (by simp [upd])).mono ?_
  rintro e w4 ⟨rfl, rfl⟩
  go_wp2_with fail
  go_ret
  exact ⟨by simp, hb3⟩

theorem right_yes (a b : Int) (w : World) (h1 : 1 ≤ a) (h2 : a ≤ 65536) (h3 : 1 ≤ b) (h4 : b ≤ 64) :
    Calls Try.prog 10 #[.int .i64 a, .int .i64 b] w fun e w' => e = .returned (.bool true) ∧ w = w' := by
  go_enter Try.func10, Try.ntmps10
  go_wp2
  go_ret
  exact ⟨by simp, rfl⟩
theorem right_no (a b : Int) (w : World) (h : ¬ (1 ≤ a ∧ a ≤ 65536 ∧ 1 ≤ b ∧ b ≤ 64)) :
    Calls Try.prog 10 #[.int .i64 a, .int .i64 b] w fun e w' => e = .returned (.bool false) ∧ w = w' := by
  have hc : a < 1 ∨ (1 ≤ a ∧ 65536 < a) ∨ (1 ≤ a ∧ a ≤ 65536 ∧ b < 1) ∨ (1 ≤ a ∧ a ≤ 65536 ∧ 1 ≤ b ∧ 64 < b) := by omega
  clear h
  rcases hc with a1 | ⟨a1, a2⟩ | ⟨a1, a2, a3⟩ | ⟨a1, a2, a3, a4⟩ <;>
  · go_enter Try.func10, Try.ntmps10
    go_wp2
    go_ret
    refine ⟨?_, rfl⟩
    first | rfl | (simp; omega)

set_option maxHeartbeats 1000000 in
theorem sizes_law (a b : Int) (w : World) :
    Calls Try.prog 3 #[.int .i64 a, .int .i64 b] w fun e w' => e = .returned (.bool true) ∧ Below w.heap.size w w' := by
  by_cases hr : 1 ≤ a ∧ a ≤ 65536 ∧ 1 ≤ b ∧ b ≤ 64
  · obtain ⟨h1, h2, h3, h4⟩ := hr
    obtain ⟨N, rfl⟩ := Int.eq_ofNat_of_zero_le (show 0 ≤ a by omega)
    obtain ⟨n, rfl⟩ := Int.eq_ofNat_of_zero_le (show 0 ≤ b by omega)
    have q1 : IntKind.i64.wrap ((n : Int) - 1) = ((n - 1 : Nat) : Int) := by rw [IntKind.wrap_i64]; omega
    have q2 : IntKind.i64.wrap ((N : Int) - 1) = ((N - 1 : Nat) : Int) := by rw [IntKind.wrap_i64]; omega
    go_enter Try.func3, Try.ntmps3
    go_wp2_with (go_at_call 8; refine (wakes_yes _).mono ?_; rintro e w0 ⟨rfl, hb0⟩)
    refine (new_ok N n w0 (by omega) (by omega) (by omega) (by omega)).mono ?_
    rintro e w1 ⟨k, rfl, hN, hn, hHas, hkB, hown, hb1⟩
    have hbw := hb0.trans (hb1.mono hb0.size)
    have HP := Lib.hid (push_ok k w1 _ hHas (n - 1) (N - 1) (by omega) (by omega) (fun j _ h => by cases h))
    have HN := Lib.hid hN
    have HM := Lib.hid hn
    have HO := Lib.hid (fun b hb => Nat.le_trans hb0.size (hown b hb))
    clear hN hn hown hHas hb0 hb1
    unfold LK.ptr at *
    go_wp2_with (go_at_call 10; refine (right_yes _ _ _ h1 h2 h3 h4).mono ?_; rintro e w' ⟨rfl, rfl⟩)
    refine HP.out.mono ?_
    rintro e w2 ⟨rfl, hHas2, hk2⟩
    have hb2 := Keeps.thenB hbw hk2 HO.out hbw.size
    have HH := Lib.hid hHas2
    have HB1 : Hid (¬ okLN k (n : Int) 0) := Lib.hid (by unfold okLN; rw [HM.out]; omega)
    have HB2 : Hid (¬ okLN k 0 (N : Int)) := Lib.hid (by unfold okLN; rw [HN.out]; omega)
    have HB3 : Hid (¬ okLN k 0 (-1)) := Lib.hid (by unfold okLN; omega)
    clear hbw hk2 hHas2
    go_wp2_with fail
    refine (push_bad k w2 _ HH.out n 0 HB1.out).mono ?_
    rintro e w3 ⟨rfl, rfl⟩
    go_wp2_with fail
    refine (push_bad k w2 _ HH.out 0 N HB2.out).mono ?_
    rintro e w3 ⟨rfl, rfl⟩
    go_wp2_with fail
    refine (len_ok k w2 _ HH.out (n - 1) (by rw [HM.out]; omega)).mono ?_
    rw [upd_same]
    rintro e w3 ⟨rfl, rfl⟩
    go_wp2_with fail
    refine (touch_bad k w2 _ HH.out N HB2.out).mono ?_
    rintro e w3 ⟨rfl, rfl⟩
    go_wp2_with fail
    refine (remove_bad k w2 _ HH.out (-1) HB3.out).mono ?_
    rintro e w3 ⟨rfl, rfl⟩
    go_wp2_with fail
    go_ret
    exact ⟨rfl, hb2⟩
  · go_enter Try.func3, Try.ntmps3
    go_wp2_with (go_at_call 8; refine (wakes_yes _).mono ?_; rintro e w0 ⟨rfl, hb0⟩)
    refine (new_bad a b w0 hr).mono ?_
    rintro e w1 ⟨rfl, rfl⟩
    have HR := Lib.hid hr
    clear hr
    go_wp2_with (go_at_call 10; refine (right_no _ _ _ HR.out).mono ?_; rintro e w' ⟨rfl, rfl⟩)
    go_ret
    exact ⟨rfl, hb0⟩
end Go.Proofs.Ythnagihgjenimaa
