/- slab: find, Take, Where. -/
import Derived.Test.YthnagihgjenimaaDoorTell
namespace Go.Proofs.YthnagihgjenimaaDoor
open Go.RowKit
set_option linter.unusedVariables false
set_option linter.unusedSimpArgs false

/-- Is the chunk given? -/
def bitN (g k : Nat) : Nat := g / 2 ^ k % 2
/-- What find answers. -/
def AD.find (D : AD) (x : Int) : Int := if x < 0 ∨ (D.n : Int) ≤ x / 32 then 2 else if bitN (D.g (x.toNat / 32)) (x.toNat % 32) = 0 then 4 else 0
def FindP (L : AL) (D : AD) (x : Int) (w : World) (e : Ending) (w' : World) : Prop :=
  e = .returned (.tuple #[if D.find x = 0 then .pointer (some ⟨L.G, x.toNat / 32 * 2, none⟩) else .pointer none, .int .i64 (D.find x)]) ∧ w = w'
theorem bit_and (g k : Nat) (hg : g < 4294967296) : bits .and .u32 ((g : Int) / 2 ^ k) 1 = ((bitN g k : Nat) : Int) := by
  have e : (g : Int) / 2 ^ k = ((g / 2 ^ k : Nat) : Int) := by simp
  have hl : g / 2 ^ k < 4294967296 := Nat.lt_of_le_of_lt (Nat.div_le_self _ _) hg
  rw [e]
  have := and_u32 (g / 2 ^ k) 1 hl (by omega)
  rw [Nat.and_one_is_mod] at this
  exact this
theorem g32_two (c : Nat) : 2 ^ chk c ≤ 4294967296 := by
  have : chk c ≤ 32 := chk_le c
  calc 2 ^ chk c ≤ 2 ^ 32 := Nat.pow_le_pow_right (by omega) this
    _ = 4294967296 := by decide

set_option maxHeartbeats 1000000 in
theorem find_any (L : AL) (D : AD) (w : World) (h : ArAt w L D) (x : Int) (hx : x < 9223372036854775808) : Calls Tryd.prog 57 #[L.ptr, .int .i64 x] w (FindP L D x w) := by
  obtain ⟨c0, hc⟩ := h.cells
  obtain ⟨hn1, hn2⟩ := own_cap h.row
  unfold maxLen at hn2
  have n2 := h.n2
  have hgl := h.gl
  unfold AL.ptr
  by_cases h1 : x < 0
  · have hf : D.find x = 2 := by unfold AD.find; rw [if_pos (Or.inl h1)]
    unfold FindP
    rw [hf]
    have h3 : decide (x < 0) = true := by simpa using h1
    go_enter Tryd.func57, Tryd.ntmps57
    go_wp2
    go_ret2
    exact ⟨rfl, rfl⟩
  · obtain ⟨m, rfl⟩ := Int.eq_ofNat_of_zero_le (show 0 ≤ x by omega)
    by_cases h2 : (D.n : Int) ≤ (m : Int) / 32
    · have hf : D.find m = 2 := by unfold AD.find; rw [if_pos (Or.inr h2)]
      unfold FindP
      rw [hf]
      have h3 : decide ((m : Int) < 0) = false := by simp
      have h4 : decide ((D.n : Int) ≤ (m : Int) / 32) = true := by simpa using h2
      go_enter Tryd.func57, Tryd.ntmps57
      go_wp2
      go_ret2
      exact ⟨rfl, rfl⟩
    · have hi : m / 32 < D.n := by omega
      obtain ⟨y0, y1⟩ := hc _ hi
      have h3 : decide ((m : Int) < 0) = false := by simp
      have h4 : decide ((D.n : Int) ≤ (m : Int) / 32) = false := by simpa using h2
      have h5 : (m : Int) / 32 < (D.n : Int) := by omega
      have h6 : (0 : Int) ≤ (m : Int) % 32 := by omega
      have h7 : (m : Int) % 32 < 32 := by omega
      have hg := h.g32 hi
      have hf : D.find m = if bitN (D.g (m / 32)) (m % 32) = 0 then 4 else 0 := by
        unfold AD.find
        rw [if_neg (by omega)]
        rfl
      generalize D.g (m / 32) = g at *
      have HA := bit_and g (m % 32) hg
      clear hc h h1 h2
      by_cases hb : bitN g (m % 32) = 0
      · rw [if_pos hb] at hf
        unfold FindP
        rw [hf]
        rw [hb] at HA
        have hA : (bits .and .u32 ((g : Int) / 2 ^ (m % 32)) 1 == 0) = true := by rw [HA]; rfl
        clear HA hg hb hf hgl hx
        have hA := Lib.hid hA
        go_enter Tryd.func57, Tryd.ntmps57
        go_wp2_with (simp only [hA.out])
        go_ret2
        exact ⟨rfl, rfl⟩
      · rw [if_neg hb] at hf
        unfold FindP
        rw [hf]
        have hA : (bits .and .u32 ((g : Int) / 2 ^ (m % 32)) 1 == 0) = false := by rw [HA]; simp; omega
        clear HA hg hb hf hgl hx
        have hA := Lib.hid hA
        go_enter Tryd.func57, Tryd.ntmps57
        go_wp2_with (simp only [hA.out])
        go_ret2
        exact ⟨rfl, rfl⟩
end Go.Proofs.YthnagihgjenimaaDoor
