/- The calls of nil lists. -/
import Derived.Test.YthnagihgjenimaaEnds
namespace Go.Proofs.Ythnagihgjenimaa
open Go.RowKit
set_option linter.unusedVariables false

theorem ready_nil (i x : Int) (w : World) : Calls Try.prog 27 #[.pointer none, .int .i64 i, .int .i64 x] w fun e w' => e = .returned (.int .i64 1) ∧ w = w' := by
  go_enter Try.func27, Try.ntmps27
  go_wp2
  go_ret
  exact ⟨rfl, rfl⟩

theorem where_nil (x : Int) (w : World) : Calls Try.prog 18 #[.pointer none, .int .i64 x] w fun e w' => e = .returned (two 0 1) ∧ w = w' := by
  go_enter Try.func18, Try.ntmps18
  go_wp2_with (go_at_call 27; refine (ready_nil 0 x _).mono ?_; rintro e w' ⟨rfl, rfl⟩)
  go_ret2
  exact ⟨rfl, rfl⟩

theorem touch_nil (x : Int) (w : World) : Calls Try.prog 13 #[.pointer none, .int .i64 x] w fun e w' => e = .returned (.int .i64 1) ∧ w = w' := by
  go_enter Try.func13, Try.ntmps13
  go_wp2_with (go_at_call 18; refine (where_nil x _).mono ?_; unfold two; rintro e w' ⟨rfl, rfl⟩)
  go_ret
  exact ⟨rfl, rfl⟩

theorem remove_nil (x : Int) (w : World) : Calls Try.prog 14 #[.pointer none, .int .i64 x] w fun e w' => e = .returned (.int .i64 1) ∧ w = w' := by
  go_enter Try.func14, Try.ntmps14
  go_wp2_with (go_at_call 18; refine (where_nil x _).mono ?_; unfold two; rintro e w' ⟨rfl, rfl⟩)
  go_ret
  exact ⟨rfl, rfl⟩

theorem push_nil (i x : Int) (w : World) : Calls Try.prog 11 #[.pointer none, .int .i64 i, .int .i64 x] w fun e w' => e = .returned (.int .i64 1) ∧ w = w' := by
  go_enter Try.func11, Try.ntmps11
  go_wp2_with (go_at_call 27; refine (ready_nil i x _).mono ?_; rintro e w' ⟨rfl, rfl⟩)
  go_ret
  exact ⟨rfl, rfl⟩

theorem len_nil (i : Int) (w : World) : Calls Try.prog 12 #[.pointer none, .int .i64 i] w fun e w' => e = .returned (.int .i64 0) ∧ w = w' := by
  go_enter Try.func12, Try.ntmps12
  go_wp2_with (go_at_call 27; refine (ready_nil i 0 _).mono ?_; rintro e w' ⟨rfl, rfl⟩)
  go_ret
  exact ⟨rfl, rfl⟩

theorem end_nil (i : Int) (f : Value) (w : World) : Calls Try.prog 30 #[.pointer none, .int .i64 i, f] w fun e w' => e = .returned (two 0 1) ∧ w = w' := by
  go_enter Try.func30, Try.ntmps30
  go_wp2_with (go_at_call 27; refine (ready_nil i 0 _).mono ?_; rintro e w' ⟨rfl, rfl⟩)
  go_ret2
  exact ⟨rfl, rfl⟩

theorem oldest_nil (i : Int) (w : World) : Calls Try.prog 17 #[.pointer none, .int .i64 i] w (Told (two 0 1) w) := by
  go_enter Try.func17, Try.ntmps17
  go_wp2_with (go_at_call 30; refine (end_nil i _ _).mono ?_; unfold two; rintro e w' ⟨rfl, rfl⟩)
  go_ret2
  exact ⟨rfl, (Keeps.refl _ _).alloc _⟩

theorem newest_nil (i : Int) (w : World) : Calls Try.prog 19 #[.pointer none, .int .i64 i] w (Told (two 0 1) w) := by
  go_enter Try.func19, Try.ntmps19
  go_wp2_with (go_at_call 30; refine (end_nil i _ _).mono ?_; unfold two; rintro e w' ⟨rfl, rfl⟩)
  go_ret2
  exact ⟨rfl, (Keeps.refl _ _).alloc _⟩
end Go.Proofs.Ythnagihgjenimaa
