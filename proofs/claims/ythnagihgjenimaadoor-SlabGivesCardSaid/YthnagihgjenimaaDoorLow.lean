/- The lowest chunk of a page that is not given. -/
import Derived.Test.YthnagihgjenimaaDoorTake
namespace Go.Proofs.YthnagihgjenimaaDoor
open Go.RowKit
set_option linter.unusedVariables false
set_option linter.unusedSimpArgs false

def low (g : Nat) : Nat := Lib.ctz 32 (4294967295 - g)
theorem low_spec (g : Nat) (hg : g < 4294967296) : low g ≤ 32 ∧ (low g < 32 → bitN g (low g) = 0) ∧ ∀ i, i < low g → bitN g i = 1 := by
  have hc : ∀ i, i < 32 → g.testBit i = !(4294967295 - g).testBit i := fun i hi => by
    have := Nat.testBit_two_pow_sub_succ (n := 32) (x := 4294967295 - g) (by omega) i
    rw [show 2 ^ 32 - (4294967295 - g + 1) = g by omega] at this
    rw [this]
    simp [hi]
  unfold low
  by_cases h0 : 4294967295 - g = 0
  · rw [h0]
    have e : Lib.ctz 32 0 = 32 := rfl
    rw [e]
    refine ⟨Nat.le_refl _, fun h => absurd h (by omega), fun i hi => ?_⟩
    have := hc i hi
    rw [h0, Nat.zero_testBit, bit_of] at this
    simpa using this
  · have hx : 4294967295 - g < 2 ^ 32 := by omega
    obtain ⟨m, hm, hk⟩ := Lib.ctzFrom_spec 32 (4294967295 - g) (by omega) hx
    have e : Lib.ctz 32 (4294967295 - g) = Lib.ctzFrom 32 (4294967295 - g) := by simp [Lib.ctz, h0]
    rw [e]
    generalize Lib.ctzFrom 32 (4294967295 - g) = k at *
    refine ⟨by omega, fun _ => ?_, fun i hi => ?_⟩
    · have := hc k hk
      rw [hm, bit_of] at this
      simp [Nat.testBit_two_pow_mul] at this
      have := bitN_le g k
      omega
    · have := hc i (by omega)
      rw [hm, bit_of, Nat.testBit_two_pow_mul, decide_eq_false (show ¬ i ≥ k by omega)] at this
      simpa using this
theorem on_lt {g k c : Nat} (hg : g < 2 ^ c) (hk : k < c) (hb : bitN g k = 0) : g + 2 ^ k < 2 ^ c := by
  rw [← or_on g k hb]
  exact Nat.or_lt_two_pow hg (Nat.pow_lt_pow_right (by omega) hk)

/-- The page's lowest free chunk is a chunk of its class. -/
def AD.hit (D : AD) (k j : Nat) : Prop := D.g j ≠ 0 ∧ D.c j = k ∧ low (D.g j) < chk k
/-- What Give answers to a class. -/
inductive GiveS (D : AD) (k : Nat) : Int → Int → AD → Prop
  | hit (j : Nat) (hj : j < D.n) (h : D.hit k j) (hb : ∀ i, i < j → ¬ D.hit k i) : GiveS D k ((j * 32 + low (D.g j) : Nat) : Int) 0 { D with g := updN D.g j (D.g j + 2 ^ low (D.g j)) }
  | page (hn : ∀ i, i < D.n → ¬ D.hit k i) (j : Nat) (hj : j < D.n) (h : D.g j = 0) (hb : ∀ i, i < j → D.g i ≠ 0) : GiveS D k ((j * 32 : Nat) : Int) 0 { D with c := updN D.c j k, g := updN D.g j 1 }
  | full (hn : ∀ i, i < D.n → ¬ D.hit k i) (h : ∀ i, i < D.n → D.g i ≠ 0) : GiveS D k 0 6 D
/-- The first empty page of the first t. -/
def FirstE (D : AD) (t : Nat) (f : Int) : Prop := (f = -1 ∧ ∀ i, i < t → D.g i ≠ 0) ∨ ∃ j, j < t ∧ f = (j : Nat) ∧ D.g j = 0 ∧ ∀ i, i < j → D.g i ≠ 0
def GiveP (L : AL) (D : AD) (n : Int) (w : World) (e : Ending) (w' : World) : Prop :=
  ∃ r q D', e = .returned (.tuple #[.int .i64 r, .int .i64 q]) ∧ Keeps (fun k => k = L.G) w w' ∧ ArAt w' L D' ∧
    ((n < 0 ∧ r = 0 ∧ q = 2 ∧ D' = D) ∨ (0 ≤ n ∧ n ≤ 1024 ∧ GiveS D (cls n) r q D') ∨ (1024 < n ∧ r = 0 ∧ q = 3 ∧ D' = D))
end Go.Proofs.YthnagihgjenimaaDoor
