/- SlabNone, SlabClasses: the walks. -/
import Derived.Test.YthnagihgjenimaaDoorWakes
import Derived.Test.YthnagihgjenimaaDoorRc
namespace Go.Proofs.YthnagihgjenimaaDoor
open Go.RowKit
set_option linter.unusedVariables false
set_option linter.unusedSimpArgs false

set_option maxHeartbeats 1000000 in
theorem none_law (n : Int) (w : World) (hT : Tab w) : Calls Tryd.prog 7 #[.int .i64 n] w (TrueP w) := by
  have HW := Lib.hid (wakes_any w hT)
  clear hT
  go_enter Tryd.func7, Tryd.ntmps7
  go_wp2_with fail
  refine HW.out.mono ?_
  rintro e w1 ⟨rfl, hk⟩
  have HK := Lib.hid hk
  clear hk
  go_wp2_with (first
    | (go_at_call 19; refine (give_nil _ _).mono ?_; rintro e w' ⟨rfl, rfl⟩)
    | (go_at_call 24; refine (where_nil _ _).mono ?_; rintro e w' ⟨rfl, rfl⟩)
    | (go_at_call 23; refine (take_nil _ _).mono ?_; rintro e w' ⟨rfl, rfl⟩)
    | (go_at_call 21; refine (used_nil _ _).mono ?_; rintro e w' ⟨rfl, rfl⟩)
    | (go_at_call 22; refine (pages_nil _ _).mono ?_; rintro e w' ⟨rfl, rfl⟩)
    | (go_at_call 20; refine (free_nil _).mono ?_; rintro e w' ⟨rfl, rfl⟩)
    | (go_at_call 26; refine (copy_nil _).mono ?_; rintro e w' ⟨rfl, rfl⟩))
  go_ret
  exact ⟨rfl, HK.out⟩

theorem classS_one {n c q c' q' : Int} (h : ClassS n c q) (h' : ClassS n c' q') : c = c' ∧ q = q' := by
  unfold ClassS at h h'
  rcases h with ⟨a, rfl, rfl⟩ | ⟨a, b, rfl, rfl⟩ | ⟨a, rfl, rfl⟩ <;> rcases h' with ⟨a', rfl, rfl⟩ | ⟨a', b', rfl, rfl⟩ | ⟨a', rfl, rfl⟩ <;> first | exact ⟨rfl, rfl⟩ | omega
theorem chunk_quo (k : Int) : ((sizeI k : Nat) : Int) > 0 → (1024 : Int) / (sizeI k : Nat) = (chunkI k : Nat) := by
  unfold sizeI chunkI
  by_cases h : 0 ≤ k ∧ k < 8
  · rw [if_pos h, if_pos h]
    have a : k.toNat = 0 ∨ k.toNat = 1 ∨ k.toNat = 2 ∨ k.toNat = 3 ∨ k.toNat = 4 ∨ k.toNat = 5 ∨ k.toNat = 6 ∨ k.toNat = 7 := by omega
    rcases a with e | e | e | e | e | e | e | e <;> rw [e] <;> decide
  · rw [if_neg h]
    intro h
    simp at h
theorem chunk_zero (k : Int) : sizeI k = 0 → chunkI k = 0 := by
  unfold sizeI chunkI
  by_cases h : 0 ≤ k ∧ k < 8
  · rw [if_pos h, if_pos h]
    have a : k.toNat = 0 ∨ k.toNat = 1 ∨ k.toNat = 2 ∨ k.toNat = 3 ∨ k.toNat = 4 ∨ k.toNat = 5 ∨ k.toNat = 6 ∨ k.toNat = 7 := by omega
    rcases a with e | e | e | e | e | e | e | e <;> rw [e] <;> decide
  · rw [if_neg h, if_neg h]
    intro; rfl
theorem sizeI_le (k : Int) : sizeI k ≤ 1024 := by
  unfold sizeI
  by_cases h : 0 ≤ k ∧ k < 8
  · rw [if_pos h]; exact sz_le _
  · rw [if_neg h]; omega
end Go.Proofs.YthnagihgjenimaaDoor
