/- One bit of a page: taken off, put on. -/
import Derived.Test.YthnagihgjenimaaDoorFind
namespace Go.Proofs.YthnagihgjenimaaDoor
open Go.RowKit
set_option linter.unusedVariables false
set_option linter.unusedSimpArgs false

theorem bitN_le (g k : Nat) : bitN g k < 2 := Nat.mod_lt _ (by decide)
theorem bitN_split (g k : Nat) : g = 2 ^ k * (2 * (g / 2 ^ k / 2) + bitN g k) + g % 2 ^ k := by
  have h1 := Nat.div_add_mod g (2 ^ k)
  have h2 := Nat.div_add_mod (g / 2 ^ k) 2
  unfold bitN
  rw [h2]
  exact h1.symm
theorem bit_of (g k : Nat) : g.testBit k = decide (bitN g k = 1) := by
  unfold bitN
  rw [Nat.testBit_eq_decide_div_mod_eq]
theorem bit_ge {g k : Nat} (h : bitN g k = 1) : 2 ^ k ≤ g := by
  have := bitN_split g k
  rw [h, Nat.mul_add, Nat.mul_one] at this
  omega
theorem bits_off (g k : Nat) (h : bitN g k = 1) (j : Nat) : (g - 2 ^ k).testBit j = (g.testBit j && !decide (k = j)) := by
  have hs := bitN_split g k
  rw [h] at hs
  have hb : g % 2 ^ k < 2 ^ k := Nat.mod_lt _ (Nat.two_pow_pos k)
  generalize g / 2 ^ k / 2 = a at hs
  generalize g % 2 ^ k = b at hs hb
  have h2 : g - 2 ^ k = 2 ^ k * (2 * a) + b := by rw [hs, Nat.mul_add]; omega
  rw [h2, hs, Nat.testBit_two_pow_mul_add _ hb, Nat.testBit_two_pow_mul_add _ hb]
  by_cases h3 : j < k
  · rw [if_pos h3, if_pos h3, decide_eq_false (by omega)]; simp
  · rw [if_neg h3, if_neg h3]
    by_cases h4 : k = j
    · subst h4
      simp
    · rw [decide_eq_false h4, show j - k = (j - k - 1) + 1 by omega, Nat.testBit_succ, Nat.testBit_succ, show (2 * a + 1) / 2 = a by omega, show 2 * a / 2 = a by omega]
      simp
theorem bits_on (g k : Nat) (h : bitN g k = 0) (j : Nat) : (g + 2 ^ k).testBit j = (g.testBit j || decide (k = j)) := by
  have hs := bitN_split g k
  rw [h] at hs
  have hb : g % 2 ^ k < 2 ^ k := Nat.mod_lt _ (Nat.two_pow_pos k)
  generalize g / 2 ^ k / 2 = a at hs
  generalize g % 2 ^ k = b at hs hb
  have h2 : g + 2 ^ k = 2 ^ k * (2 * a + 1) + b := by rw [hs, Nat.mul_add, Nat.mul_add]; omega
  rw [h2, hs, Nat.add_zero, Nat.testBit_two_pow_mul_add _ hb, Nat.testBit_two_pow_mul_add _ hb]
  by_cases h3 : j < k
  · rw [if_pos h3, if_pos h3, decide_eq_false (by omega)]; simp
  · rw [if_neg h3, if_neg h3]
    by_cases h4 : k = j
    · subst h4
      simp
    · rw [decide_eq_false h4, show j - k = (j - k - 1) + 1 by omega, Nat.testBit_succ, Nat.testBit_succ, show (2 * a + 1) / 2 = a by omega, show (2 * a + 0) / 2 = a by omega]
      simp
theorem pow32 {k : Nat} (hk : k < 32) : 2 ^ k < 4294967296 := Nat.pow_lt_pow_right (n := 32) (by decide) hk
theorem pow_cast {k : Nat} (hk : k < 32) : ((2 : Int) ^ k) % 4294967296 = ((2 ^ k : Nat) : Int) := by
  have h := pow32 hk
  have e : (2 : Int) ^ k = ((2 ^ k : Nat) : Int) := by simp
  rw [e]
  generalize 2 ^ k = q at *
  omega
theorem or_on (g k : Nat) (h : bitN g k = 0) : g ||| 2 ^ k = g + 2 ^ k := by
  apply Nat.eq_of_testBit_eq
  intro j
  rw [bits_on g k h, Nat.testBit_or, Nat.testBit_two_pow]
theorem not_u32 (g k : Nat) (hg : g < 4294967296) (hk : k < 32) (hb : bitN g k = 1) : bits .andNot .u32 (g : Int) (2 ^ k % 4294967296) = ((g - 2 ^ k : Nat) : Int) := by
  have hp := pow32 hk
  rw [pow_cast hk]
  show IntKind.u32.wrap ((BitVec.ofInt 32 (g : Int) &&& ~~~ BitVec.ofInt 32 ((2 ^ k : Nat) : Int)).toNat : Int) = _
  rw [BitVec.toNat_and, BitVec.toNat_not, ofInt_u32 hg, ofInt_u32 hp, wrap_u32]
  have e : g &&& (2 ^ 32 - 1 - 2 ^ k) = g - 2 ^ k := by
    apply Nat.eq_of_testBit_eq
    intro j
    rw [bits_off g k hb, Nat.testBit_and, show 2 ^ 32 - 1 - 2 ^ k = 2 ^ 32 - (2 ^ k + 1) by omega, Nat.testBit_two_pow_sub_succ (by omega), Nat.testBit_two_pow]
    by_cases hj : j < 32
    · simp [hj]
    · rw [Nat.testBit_lt_two_pow (Nat.lt_of_lt_of_le hg (Nat.pow_le_pow_right (n := 2) (i := 32) (by omega) (by omega)))]
      simp
  rw [e]
  have hle := bit_ge hb
  generalize 2 ^ k = q at *
  omega
theorem on_u32 (g k : Nat) (hg : g < 4294967296) (hk : k < 32) (hb : bitN g k = 0) : bits .or .u32 (g : Int) (2 ^ k % 4294967296) = ((g + 2 ^ k : Nat) : Int) := by
  have hp := pow32 hk
  rw [pow_cast hk, or_u32 g _ hg hp, or_on g k hb]
end Go.Proofs.YthnagihgjenimaaDoor
