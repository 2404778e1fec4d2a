/- slab: classes, their sizes, how many chunks a page has. -/
import Derived.Test.YthnagihgjenimaaDoorRows
import Derived.Test.YthnagihgjenimaaDoorBlk
import Derived.WalkLawsBesides
import Derived.WalkSpells
import Derived.Outline
import Derived.BigRegion
import Derived.BigQuiet
import Derived.Deep.QuietTactic
namespace Go.Proofs.YthnagihgjenimaaDoor
open Go.RowKit
set_option linter.unusedVariables false

/-- The eight sizes as a value. -/
def szv : Value := .agg #[.int .i64 32, .int .i64 64, .int .i64 96, .int .i64 144, .int .i64 216, .int .i64 324, .int .i64 486, .int .i64 1024]
def szo : Obj := .cells #[.int .i64 32, .int .i64 64, .int .i64 96, .int .i64 144, .int .i64 216, .int .i64 324, .int .i64 486, .int .i64 1024] 94
/-- A class's size. -/
def szOf (c : Nat) : Nat := [32, 64, 96, 144, 216, 324, 486, 1024].getD c 0
/-- How many chunks a page of a class has. -/
def chk (c : Nat) : Nat := [32, 16, 10, 7, 4, 3, 2, 1].getD c 0
/-- The class of so many bytes. -/
def cls (n : Int) : Nat := if n ≤ 32 then 0 else if n ≤ 64 then 1 else if n ≤ 96 then 2 else if n ≤ 144 then 3 else if n ≤ 216 then 4 else if n ≤ 324 then 5 else if n ≤ 486 then 6 else 7

theorem cls_lt (n : Int) : cls n < 8 := by unfold cls; split <;> (try omega); split <;> (try omega); split <;> (try omega); split <;> (try omega); split <;> (try omega); split <;> (try omega); split <;> omega

theorem sizes_any (w : World) : Calls Tryd.prog 54 #[] w fun e w' => e = .returned szv ∧ w' = w.alloc szo := by
  unfold szv szo
  go_enter Tryd.func54, Tryd.ntmps54
  go_wp2
  exact bodyPost_ret (v := .agg #[.int .i64 32, .int .i64 64, .int .i64 96, .int .i64 144, .int .i64 216, .int .i64 324, .int .i64 486, .int .i64 1024]) (by simp [results, Tryd.f54, go_sem]) rfl ⟨rfl, rfl⟩

theorem six0 (w : World) : (Instr.index 94 szv (.int .i64 0)).run Tryd.prog w = .ok (.int .i64 32) w := by kernel_rfl
theorem six1 (w : World) : (Instr.index 94 szv (.int .i64 1)).run Tryd.prog w = .ok (.int .i64 64) w := by kernel_rfl
theorem six2 (w : World) : (Instr.index 94 szv (.int .i64 2)).run Tryd.prog w = .ok (.int .i64 96) w := by kernel_rfl
theorem six3 (w : World) : (Instr.index 94 szv (.int .i64 3)).run Tryd.prog w = .ok (.int .i64 144) w := by kernel_rfl
theorem six4 (w : World) : (Instr.index 94 szv (.int .i64 4)).run Tryd.prog w = .ok (.int .i64 216) w := by kernel_rfl
theorem six5 (w : World) : (Instr.index 94 szv (.int .i64 5)).run Tryd.prog w = .ok (.int .i64 324) w := by kernel_rfl
theorem six6 (w : World) : (Instr.index 94 szv (.int .i64 6)).run Tryd.prog w = .ok (.int .i64 486) w := by kernel_rfl
theorem six7 (w : World) : (Instr.index 94 szv (.int .i64 7)).run Tryd.prog w = .ok (.int .i64 1024) w := by kernel_rfl
theorem six (r : Nat) (hr : r < 8) (w : World) : (Instr.index 94 szv (.int .i64 (r : Int))).run Tryd.prog w = .ok (.int .i64 (szOf r : Nat)) w := by
  have h : r = 0 ∨ r = 1 ∨ r = 2 ∨ r = 3 ∨ r = 4 ∨ r = 5 ∨ r = 6 ∨ r = 7 := by omega
  rcases h with rfl | rfl | rfl | rfl | rfl | rfl | rfl | rfl
  · exact six0 w
  · exact six1 w
  · exact six2 w
  · exact six3 w
  · exact six4 w
  · exact six5 w
  · exact six6 w
  · exact six7 w

theorem cls_step {n : Int} {t : Nat} (ht : t < 8) (h : ∀ j, j < t → (szOf j : Int) < n) (hn : n ≤ (szOf t : Nat)) : cls n = t := by
  have a : t = 0 ∨ t = 1 ∨ t = 2 ∨ t = 3 ∨ t = 4 ∨ t = 5 ∨ t = 6 ∨ t = 7 := by omega
  rcases a with rfl | rfl | rfl | rfl | rfl | rfl | rfl | rfl <;>
  · have h0 := h 0
    have h1 := h 1
    have h2 := h 2
    have h3 := h 3
    have h4 := h 4
    have h5 := h 5
    have h6 := h 6
    simp [szOf] at *
    unfold cls
    repeat (first | rw [if_pos (by omega)] | rw [if_neg (by omega)])

/-- What Class answers. -/
def ClassS (n : Int) (c e : Int) : Prop := (n < 0 ∧ c = 0 ∧ e = 2) ∨ (0 ≤ n ∧ n ≤ 1024 ∧ c = (cls n : Nat) ∧ e = 0) ∨ (1024 < n ∧ c = 0 ∧ e = 3)
def ClassP (n : Int) (w : World) (e : Ending) (w' : World) : Prop := ∃ c q, e = .returned (.tuple #[.int .i64 c, .int .i64 q]) ∧ ClassS n c q ∧ Keeps (fun _ => False) w w'

set_option maxHeartbeats 1000000 in
theorem class_any (n : Int) (w : World) : Calls Tryd.prog 13 #[.int .i64 n] w (ClassP n w) := by
  by_cases h0 : n < 0
  · go_enter Tryd.func13, Tryd.ntmps13
    go_wp2
    go_ret2
    exact ⟨0, 2, rfl, .inl ⟨h0, rfl, rfl⟩, Keeps.refl _ _⟩
  · have h0' : decide (n < 0) = false := by simpa using h0
    have hsix := Lib.hid six
    go_enter Tryd.func13, Tryd.ntmps13
    go_wp2_with (go_at_call 54; refine (sizes_any _).mono ?_; rintro e w' ⟨rfl, rfl⟩)
    go_loop [9] (fun i => ∃ t : Nat, t ≤ 8 ∧ i = .int .i64 t ∧ ∀ j, j < t → (szOf j : Int) < n) (fun i => 8 - (intOf i).toNat)
    case atStart => exact ⟨0, by omega, rfl, fun j hj => absurd hj (by omega)⟩
    case round =>
      obtain ⟨t, ht, rfl, hb⟩ := hrel
      have HB := Lib.hid hb
      clear hb
      by_cases hlt : t < 8
      · have hi := fun W => hsix.out t hlt W
        by_cases hle : n ≤ (szOf t : Nat)
        · have HC := Lib.hid (cls_step hlt HB.out hle)
          have hmx : szOf t ≤ 1024 := by
            have a : t = 0 ∨ t = 1 ∨ t = 2 ∨ t = 3 ∨ t = 4 ∨ t = 5 ∨ t = 6 ∨ t = 7 := by omega
            rcases a with rfl | rfl | rfl | rfl | rfl | rfl | rfl | rfl <;> decide
          go_wp2
          go_ret2
          exact ⟨_, 0, rfl, .inr (.inl ⟨by omega, by omega, by rw [HC.out], rfl⟩), (Keeps.refl _ _).alloc _⟩
        · have hle' : decide (n ≤ ((szOf t : Nat) : Int)) = false := by simpa using hle
          have HN : Hid (∀ j, j < t + 1 → (szOf j : Int) < n) := Lib.hid (fun j hj => by
            by_cases e : j = t
            · subst e; omega
            · exact HB.out j (by omega))
          clear hle
          go_wp2
          go_round
          case rel => exact ⟨t + 1, by omega, by go_num, HN.out⟩
          case measure => simp [intOf]; omega
      · obtain rfl : t = 8 := by omega
        have h7 : 1024 < n := HB.out 7 (by omega)
        go_wp2
        go_ret2
        exact ⟨0, 3, rfl, .inr (.inr ⟨h7, rfl, rfl⟩), (Keeps.refl _ _).alloc _⟩
end Go.Proofs.YthnagihgjenimaaDoor
