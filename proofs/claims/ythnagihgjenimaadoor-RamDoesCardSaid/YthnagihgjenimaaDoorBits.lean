/- math/bits: TrailingZeros32, OnesCount32. -/
import Derived.Test.YthnagihgjenimaaDoorSizes
import Derived.Lib.TrailingZeros
import Derived.Laws.Bits64b
import Derived.Lib.Tables
import Derived.Lib.BitFns
namespace Go.Proofs.YthnagihgjenimaaDoor
open Go.RowKit
set_option linter.unusedVariables false
set_option linter.unusedSimpArgs false

/-- The de Bruijn table stands in its variable. -/
def Tab (w : World) : Prop := ∀ j, j < 32 → w.cell? ⟨0, j, none⟩ = some (.int .u8 ((Lib.deBruijn32tab.getD j 0 : Nat) : Int))
theorem wrap_u32 (n : Int) : IntKind.u32.wrap n = n % 4294967296 := by simp [IntKind.wrap, IntKind.signed, IntKind.bits]
theorem ofInt_u32 {a : Nat} (ha : a < 4294967296) : (BitVec.ofInt 32 (a : Int)).toNat = a := by
  rw [BitVec.ofInt_natCast, BitVec.toNat_ofNat]
  exact Nat.mod_eq_of_lt (by omega)
theorem and_u32 (a b : Nat) (ha : a < 4294967296) (hb : b < 4294967296) : bits .and .u32 (a : Int) (b : Int) = ((a &&& b : Nat) : Int) := by
  have hx : a &&& b < 2 ^ 32 := Nat.and_lt_two_pow _ (by omega)
  show IntKind.u32.wrap ((BitVec.ofInt 32 (a : Int) &&& BitVec.ofInt 32 (b : Int)).toNat : Int) = _
  rw [BitVec.toNat_and, ofInt_u32 ha, ofInt_u32 hb, wrap_u32]
  omega
theorem or_u32 (a b : Nat) (ha : a < 4294967296) (hb : b < 4294967296) : bits .or .u32 (a : Int) (b : Int) = ((a ||| b : Nat) : Int) := by
  have hx : a ||| b < 2 ^ 32 := Nat.or_lt_two_pow (by omega) (by omega)
  show IntKind.u32.wrap ((BitVec.ofInt 32 (a : Int) ||| BitVec.ofInt 32 (b : Int)).toNat : Int) = _
  rw [BitVec.toNat_or, ofInt_u32 ha, ofInt_u32 hb, wrap_u32]
  omega
theorem tz_key (x a : Nat) (hx : x < 4294967296) (hx0 : x ≠ 0) (hlow : x &&& (4294967296 - x) = a) :
    bits BinOp.and IntKind.u32 (x : Int) (-(x : Int) % 4294967296) * 125613361 % 4294967296 / 134217728 = ((a * 125613361 % 4294967296 / 134217728 : Nat) : Int) := by
  have e1 : -(x : Int) % 4294967296 = ((4294967296 - x : Nat) : Int) := by omega
  rw [e1, and_u32 x _ hx (by omega), hlow]
  omega

theorem tz_core (x k idx : Nat) (w : World) (hx0 : ((x : Int) == 0) = false)
    (key : bits BinOp.and IntKind.u32 (x : Int) (-(x : Int) % 4294967296) * 125613361 % 4294967296 / 134217728 = (idx : Int))
    (hi : idx < 32) (hk : k < 32) (hcell : w.cell? ⟨0, idx, none⟩ = some (.int .u8 k)) :
    Calls Tryd.prog 55 #[.int .u32 x] w fun e w' => e = .returned (.int .i64 k) ∧ w = w' := by
  go_enter Tryd.func55, Tryd.ntmps55
  go_wp2_with (simp only [key])
  go_ret
  exact ⟨rfl, rfl⟩
/-- TrailingZeros32, of every number. -/
theorem tz_any (x : Nat) (hx : x < 4294967296) (w : World) (hT : Tab w) : Calls Tryd.prog 55 #[.int .u32 x] w fun e w' => e = .returned (.int .i64 (Lib.ctz 32 x : Nat)) ∧ w = w' := by
  by_cases hx0 : x = 0
  · subst hx0
    go_enter Tryd.func55, Tryd.ntmps55
    go_wp2
    go_ret
    exact ⟨rfl, rfl⟩
  · obtain ⟨hlow, hk⟩ := Lib.lowest_bit 32 x hx0 hx
    obtain ⟨hi, htab⟩ := Lib.deBruijn32_at _ hk
    have hcell := hT _ hi
    rw [htab] at hcell
    exact tz_core x _ _ w (by simp; omega) (tz_key x _ hx hx0 hlow) hi hk hcell

/-- How many bits are set. -/
def pc (x : Nat) : Nat := Lib.onesCount x
theorem pop_zero : ∀ f, Lib.popAux f 0 = 0
  | 0 => rfl
  | f + 1 => by simp [Lib.popAux, pop_zero f]
theorem pop_more : ∀ (f x : Nat), x < 2 ^ f → ∀ g, Lib.popAux (f + g) x = Lib.popAux f x
  | 0, x, h, g => by
    have : x = 0 := by simpa using h
    subst this
    rw [pop_zero]
    rfl
  | f + 1, x, h, g => by
    rw [Nat.add_right_comm, Lib.popAux, Lib.popAux, pop_more f (x / 2) (by rw [Nat.pow_succ] at h; omega) g]
theorem pop_cat : ∀ (f a b g : Nat), a < 2 ^ f → Lib.popAux (f + g) (a + 2 ^ f * b) = Lib.popAux f a + Lib.popAux g b
  | 0, a, b, g, h => by
    have : a = 0 := by simpa using h
    subst this
    simp [Lib.popAux]
  | f + 1, a, b, g, h => by
    have e3 : 2 ^ (f + 1) * b = 2 * (2 ^ f * b) := by rw [Nat.pow_succ, Nat.mul_comm (2 ^ f) 2, Nat.mul_assoc]
    have e1 : (a + 2 ^ (f + 1) * b) % 2 = a % 2 := by omega
    have e2 : (a + 2 ^ (f + 1) * b) / 2 = a / 2 + 2 ^ f * b := by omega
    rw [Nat.add_right_comm, Lib.popAux, Lib.popAux, e1, e2, pop_cat f (a / 2) b g (by rw [Nat.pow_succ] at h; omega)]
    omega
theorem pc_of (f x : Nat) (hf : f ≤ 64) (h : x < 2 ^ f) : pc x = Lib.popAux f x := by
  have := pop_more f x h (64 - f)
  rw [show f + (64 - f) = 64 from by omega] at this
  exact this
theorem pc_bytes (x : Nat) (h : x < 4294967296) : pc x = pc (x % 256) + pc (x / 256 % 256) + pc (x / 65536 % 256) + pc (x / 16777216) := by
  have h1 := pop_cat 8 (x % 256) (x / 256) 24 (by omega)
  have h2 := pop_cat 8 (x / 256 % 256) (x / 65536) 16 (by omega)
  have h3 := pop_cat 8 (x / 65536 % 256) (x / 16777216) 8 (by omega)
  rw [show x % 256 + 2 ^ 8 * (x / 256) = x from by omega] at h1
  rw [show x / 256 % 256 + 2 ^ 8 * (x / 65536) = x / 256 from by omega] at h2
  rw [show x / 65536 % 256 + 2 ^ 8 * (x / 16777216) = x / 65536 from by omega] at h3
  simp only [Nat.reduceAdd] at h1 h2 h3
  rw [pc_of 32 x (by omega) (by omega), pc_of 8 (x % 256) (by omega) (by omega), pc_of 8 (x / 256 % 256) (by omega) (by omega), pc_of 8 (x / 65536 % 256) (by omega) (by omega), pc_of 8 (x / 16777216) (by omega) (by omega)]
  omega
theorem pc_byte (b : Nat) (h : b < 256) : Lib.pop8 (b : Int) = (pc b : Nat) := Lib.pop8_eq ⟨b, h⟩
theorem pc_byte_le (b : Nat) (h : b < 256) : pc b ≤ 8 := by
  have := pc_of 8 b (by omega) (by omega)
  rw [this]
  have : ∀ n : Fin 256, Lib.popAux 8 n.val ≤ 8 := by decide +kernel
  exact this ⟨b, h⟩
theorem low8 (x : Nat) (hx : x < 4294967296) : bits .and .u32 (x : Int) 255 = ((x % 256 : Nat) : Int) := by
  have h : x &&& 255 = x % 2 ^ 8 := by rw [show 255 = 2 ^ 8 - 1 from rfl, Nat.and_two_pow_sub_one_eq_mod]
  have := and_u32 x 255 hx (by omega)
  rw [h] at this
  exact this

theorem ret_int {k : IntKind} {a b : Int} (h : a = b) : Ending.returned (.int k a) = .returned (.int k b) := by rw [h]
/-- The table, as the text has it. -/
theorem fold_pop : (⟨((([0, 1, 1, 2, 1, 2, 2, 3, 1, 2, 2, 3, 2, 3, 3, 4, 1, 2, 2, 3, 2, 3, 3, 4, 2, 3, 3, 4, 3, 4, 4, 5, 1, 2, 2, 3, 2, 3, 3, 4, 2, 3, 3, 4, 3, 4, 4, 5, 2, 3, 3, 4, 3, 4, 4, 5, 3, 4, 4, 5, 4, 5, 5, 6].append [1, 2, 2, 3, 2, 3, 3, 4, 2, 3, 3, 4, 3, 4, 4, 5, 2, 3, 3, 4, 3, 4, 4, 5, 3, 4, 4, 5, 4, 5, 5, 6, 2, 3, 3, 4, 3, 4, 4, 5, 3, 4, 4, 5, 4, 5, 5, 6, 3, 4, 4, 5, 4, 5, 5, 6, 4, 5, 5, 6, 5, 6, 6, 7]).append ([1, 2, 2, 3, 2, 3, 3, 4, 2, 3, 3, 4, 3, 4, 4, 5, 2, 3, 3, 4, 3, 4, 4, 5, 3, 4, 4, 5, 4, 5, 5, 6, 2, 3, 3, 4, 3, 4, 4, 5, 3, 4, 4, 5, 4, 5, 5, 6, 3, 4, 4, 5, 4, 5, 5, 6, 4, 5, 5, 6, 5, 6, 6, 7].append [2, 3, 3, 4, 3, 4, 4, 5, 3, 4, 4, 5, 4, 5, 5, 6, 3, 4, 4, 5, 4, 5, 5, 6, 4, 5, 5, 6, 5, 6, 6, 7, 3, 4, 4, 5, 4, 5, 5, 6, 4, 5, 5, 6, 5, 6, 6, 7, 4, 5, 5, 6, 5, 6, 6, 7, 5, 6, 6, 7, 6, 7, 7, 8]))).toArray⟩ : ByteArray) = Lib.pop8tab := by decide +kernel
attribute [local go_sem high] fold_pop
attribute [local go_sem ↓] fold_pop

set_option maxRecDepth 100000 in
set_option maxHeartbeats 2000000 in
theorem ones_any (x : Nat) (hx : x < 4294967296) (w : World) : Calls Tryd.prog 76 #[.int .u32 x] w fun e w' => e = .returned (.int .i64 (pc x : Nat)) ∧ Keeps (fun _ => False) w w' := by
  have k1 : bits .and .u32 (x : Int) 255 = (x : Int) % 256 := by rw [low8 x hx]; omega
  have k2 : bits .and .u32 ((x : Int) / 256) 255 = (x : Int) / 256 % 256 := by
    have := low8 (x / 256) (by omega)
    rw [show ((x / 256 : Nat) : Int) = (x : Int) / 256 by omega] at this
    rw [this]
    omega
  have k3 : bits .and .u32 ((x : Int) / 65536) 255 = (x : Int) / 65536 % 256 := by
    have := low8 (x / 65536) (by omega)
    rw [show ((x / 65536 : Nat) : Int) = (x : Int) / 65536 by omega] at this
    rw [this]
    omega
  have b1 : Lib.pop8 ((x : Int) % 256) = ((pc (x % 256) : Nat) : Int) := by rw [← pc_byte (x % 256) (by omega)]; congr 1
  have b2 : Lib.pop8 ((x : Int) / 256 % 256) = ((pc (x / 256 % 256) : Nat) : Int) := by rw [← pc_byte (x / 256 % 256) (by omega)]; congr 1
  have b3 : Lib.pop8 ((x : Int) / 65536 % 256) = ((pc (x / 65536 % 256) : Nat) : Int) := by rw [← pc_byte (x / 65536 % 256) (by omega)]; congr 1
  have b4 : Lib.pop8 ((x : Int) / 16777216) = ((pc (x / 16777216) : Nat) : Int) := by rw [← pc_byte (x / 16777216) (by omega)]; congr 1
  have m1 : (0 : Int) ≤ (x : Int) % 256 := by omega
  have m2 : (0 : Int) ≤ (x : Int) / 256 % 256 := by omega
  have m3 : (0 : Int) ≤ (x : Int) / 65536 % 256 := by omega
  have m4 : (0 : Int) ≤ (x : Int) / 16777216 := by omega
  have n1 : (x : Int) % 256 ≤ 255 := by omega
  have n2 : (x : Int) / 256 % 256 ≤ 255 := by omega
  have n3 : (x : Int) / 65536 % 256 ≤ 255 := by omega
  have n4 : (x : Int) / 16777216 ≤ 255 := by omega
  have l1 := pc_byte_le (x % 256) (by omega)
  have l2 := pc_byte_le (x / 256 % 256) (by omega)
  have l3 := pc_byte_le (x / 65536 % 256) (by omega)
  have l4 := pc_byte_le (x / 16777216) (by omega)
  have HP := Lib.hid (pc_bytes x hx)
  go_enter Tryd.func76, Tryd.ntmps76
  go_wp2
  go_quiet (fail)
  go_wp2
  go_ret
  have e : ((pc (x / 16777216) : Nat) : Int) + (pc (x / 65536 % 256) : Nat) + (pc (x / 256 % 256) : Nat) + (pc (x % 256) : Nat) = (pc x : Nat) := by
    rw [HP.out]
    omega
  exact ⟨ret_int e, (Keeps.refl _ _).drewN _⟩
end Go.Proofs.YthnagihgjenimaaDoor
