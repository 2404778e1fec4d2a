/- Superblocks as bytes: what is told there and back. -/
import Derived.Test.YtjiammhmeliogaaFnv
namespace Go.Proofs.Ytjiammhmeliogaa
open Go.RowKit
set_option linter.unusedVariables false
set_option linter.unusedSimpArgs false

/-- A number's n bytes, the highest first; the number of bytes. -/
def hi : Int → Nat → List Int
  | _, 0 => []
  | x, n + 1 => hi (x / 256) n ++ [x % 256]
def num (l : List Int) : Int := l.foldl (fun a b => a * 256 + b) 0
theorem hi_len : ∀ (n : Nat) (x : Int), (hi x n).length = n
  | 0, _ => rfl
  | n + 1, x => by simp [hi, hi_len n]
theorem num_snoc (l : List Int) (b : Int) : num (l ++ [b]) = num l * 256 + b := by simp [num]
theorem num_hi : ∀ (n : Nat) (x : Int), num (hi x n) = x % 256 ^ n
  | 0, x => by simp [hi, num]
  | n + 1, x => by
    rw [hi, num_snoc, num_hi n]
    have hp : (0 : Int) < 256 ^ n := Int.pow_pos (by omega)
    rw [Int.pow_succ, Int.mul_comm (256 ^ n) 256]
    have h1 := Int.emod_add_mul_ediv x 256
    have h2 := Int.emod_add_mul_ediv (x / 256) (256 ^ n)
    have h3 := Int.emod_nonneg x (show (256 : Int) ≠ 0 by omega)
    have h4 := Int.emod_lt_of_pos x (show (0 : Int) < 256 by omega)
    have h5 := Int.emod_nonneg (x / 256) (show (256 ^ n : Int) ≠ 0 by omega)
    have h6 := Int.emod_lt_of_pos (x / 256) hp
    have hm : (256 * 256 ^ n : Int) = 256 ^ n * 256 := Int.mul_comm _ _
    have e : x = (x / 256 % 256 ^ n * 256 + x % 256) + 256 * 256 ^ n * (x / 256 / 256 ^ n) := by
      have : x / 256 * 256 = (x / 256 % 256 ^ n + 256 ^ n * (x / 256 / 256 ^ n)) * 256 := by rw [h2]
      rw [Int.add_mul] at this
      have e2 : 256 ^ n * (x / 256 / 256 ^ n) * 256 = 256 * 256 ^ n * (x / 256 / 256 ^ n) := by
        rw [Int.mul_comm _ 256, ← Int.mul_assoc]
      omega
    conv => rhs; rw [e]
    rw [Int.add_mul_emod_self_left]
    refine (Int.emod_eq_of_lt (by omega) ?_).symm
    have : x / 256 % 256 ^ n ≤ 256 ^ n - 1 := by omega
    have : x / 256 % 256 ^ n * 256 ≤ (256 ^ n - 1) * 256 := Int.mul_le_mul_of_nonneg_right this (by omega)
    rw [Int.sub_mul] at this
    omega
theorem hi_get : ∀ (n : Nat) (x : Int) (j : Nat), j < n → (hi x n).getD j 0 = x / 256 ^ (n - 1 - j) % 256
  | 0, _, _, h => by omega
  | n + 1, x, j, h => by
    by_cases e : j = n
    · subst e
      simp only [hi]
      rw [List.getD_eq_getElem?_getD, List.getElem?_append_right (by rw [hi_len]; omega), hi_len]
      simp
    · have := hi_get n (x / 256) j (by omega)
      simp only [hi]
      rw [List.getD_eq_getElem?_getD, List.getElem?_append_left (by rw [hi_len]; omega), ← List.getD_eq_getElem?_getD, this]
      rw [show n + 1 - 1 - j = (n - 1 - j) + 1 by omega, Int.pow_succ, Int.mul_comm, Int.ediv_ediv_of_nonneg (by omega)]
theorem hi_range : ∀ (n : Nat) (x : Int), ∀ b ∈ hi x n, 0 ≤ b ∧ b ≤ 255
  | 0, _, b, h => by simp [hi] at h
  | n + 1, x, b, h => by
    simp only [hi, List.mem_append, List.mem_singleton] at h
    rcases h with h | rfl
    · exact hi_range n _ b h
    · exact ⟨Int.emod_nonneg _ (by omega), by have := Int.emod_lt_of_pos x (show (0 : Int) < 256 by omega); omega⟩

/-- What is known of a disk. -/
structure SX where
  sg : Int
  sc : Int
  ge : Int
  re : Int
  rs : Int
  fl : Int
def SX.zero : SX := ⟨0, 0, 0, 0, 0, 0⟩
def SX.may (x : SX) : Prop := 4 ≤ x.sg ∧ x.sg ≤ 16 ∧ 24 ≤ x.sc ∧ x.sc ≤ 64 ∧ x.re ≤ x.ge
def SX.mayB (x : SX) : Bool := decide (4 ≤ x.sg) && decide (x.sg ≤ 16) && decide (24 ≤ x.sc) && decide (x.sc ≤ 64) && decide (x.re ≤ x.ge)
theorem mayB_iff (x : SX) : x.mayB = true ↔ x.may := by
  unfold SX.mayB SX.may
  simp only [Bool.and_eq_true, decide_eq_true_eq]
  omega
theorem mayB_no (x : SX) : x.mayB = false ↔ ¬ x.may := by
  rw [← mayB_iff]
  simp
def u64 (x : Int) : Prop := 0 ≤ x ∧ x ≤ 18446744073709551615
/-- Its numbers are numbers of 64 bits. -/
structure SX.Wf (x : SX) : Prop where
  ge : u64 x.ge
  re : u64 x.re
  rs : u64 x.rs
  fl : u64 x.fl
def letters : List Int := [105, 99, 101, 104, 111, 117, 115, 101]
def shead (x : SX) (t : Int) : List Int := letters ++ (hi t 8 ++ (hi x.sg 2 ++ (hi x.sc 2 ++ (hi x.ge 8 ++ (hi x.re 8 ++ (hi x.rs 8 ++ (hi x.fl 8 ++ [0, 0, 0, 0])))))))
theorem shead_len (x : SX) (t : Int) : (shead x t).length = 56 := by simp [shead, hi_len, letters]
/-- A superblock. -/
def sup (x : SX) (t : Int) : List Int := shead x t ++ hi (fnv fnv0 (shead x t)) 8
theorem sup_len (x : SX) (t : Int) : (sup x t).length = 64 := by simp [sup, shead_len, hi_len]
def part (b : List Int) (i n : Nat) : Int := num ((b.drop i).take n)
def sparse (b : List Int) : SX := ⟨part b 16 2, part b 18 2, part b 20 8, part b 28 8, part b 36 8, part b 44 8⟩
def sturn (b : List Int) : Int := part b 8 8
theorem part_at {b : List Int} {i n : Nat} {pre m post : List Int} (h : b = pre ++ (m ++ post)) (h1 : pre.length = i) (h2 : m.length = n) : part b i n = num m := by
  subst h h1 h2
  unfold part
  rw [List.drop_left, List.take_left]
theorem num_hi_u64 {x : Int} (h : u64 x) : num (hi x 8) = x := by
  rw [num_hi, show (256 : Int) ^ 8 = 18446744073709551616 by decide]
  exact Int.emod_eq_of_lt h.1 (by have := h.2; omega)
theorem num_hi_u16 {x : Int} (h0 : 0 ≤ x) (h : x ≤ 65535) : num (hi x 2) = x := by
  rw [num_hi, show (256 : Int) ^ 2 = 65536 by decide]
  exact Int.emod_eq_of_lt h0 (by omega)
theorem sparse_sup {x : SX} {t : Int} (hm : x.may) (hx : x.Wf) : sparse (sup x t) = x := by
  obtain ⟨m1, m2, m3, m4, m5⟩ := hm
  have l2 := fun y => hi_len 2 y
  have l8 := fun y => hi_len 8 y
  have p1 : part (sup x t) 16 2 = x.sg := by
    rw [part_at (pre := letters ++ hi t 8) (m := hi x.sg 2) (post := (hi x.sc 2 ++ (hi x.ge 8 ++ (hi x.re 8 ++ (hi x.rs 8 ++ (hi x.fl 8 ++ [0, 0, 0, 0]))))) ++ hi (fnv fnv0 (shead x t)) 8) (by simp [sup, shead]) (by simp [l8, letters]) (l2 _)]
    exact num_hi_u16 (by omega) (by omega)
  have p2 : part (sup x t) 18 2 = x.sc := by
    rw [part_at (pre := letters ++ (hi t 8 ++ hi x.sg 2)) (m := hi x.sc 2) (post := (hi x.ge 8 ++ (hi x.re 8 ++ (hi x.rs 8 ++ (hi x.fl 8 ++ [0, 0, 0, 0])))) ++ hi (fnv fnv0 (shead x t)) 8) (by simp [sup, shead]) (by simp [l8, l2, letters]) (l2 _)]
    exact num_hi_u16 (by omega) (by omega)
  have p3 : part (sup x t) 20 8 = x.ge := by
    rw [part_at (pre := letters ++ (hi t 8 ++ (hi x.sg 2 ++ hi x.sc 2))) (m := hi x.ge 8) (post := (hi x.re 8 ++ (hi x.rs 8 ++ (hi x.fl 8 ++ [0, 0, 0, 0]))) ++ hi (fnv fnv0 (shead x t)) 8) (by simp [sup, shead]) (by simp [l8, l2, letters]) (l8 _)]
    exact num_hi_u64 hx.ge
  have p4 : part (sup x t) 28 8 = x.re := by
    rw [part_at (pre := letters ++ (hi t 8 ++ (hi x.sg 2 ++ (hi x.sc 2 ++ hi x.ge 8)))) (m := hi x.re 8) (post := (hi x.rs 8 ++ (hi x.fl 8 ++ [0, 0, 0, 0])) ++ hi (fnv fnv0 (shead x t)) 8) (by simp [sup, shead]) (by simp [l8, l2, letters]) (l8 _)]
    exact num_hi_u64 hx.re
  have p5 : part (sup x t) 36 8 = x.rs := by
    rw [part_at (pre := letters ++ (hi t 8 ++ (hi x.sg 2 ++ (hi x.sc 2 ++ (hi x.ge 8 ++ hi x.re 8))))) (m := hi x.rs 8) (post := (hi x.fl 8 ++ [0, 0, 0, 0]) ++ hi (fnv fnv0 (shead x t)) 8) (by simp [sup, shead]) (by simp [l8, l2, letters]) (l8 _)]
    exact num_hi_u64 hx.rs
  have p6 : part (sup x t) 44 8 = x.fl := by
    rw [part_at (pre := letters ++ (hi t 8 ++ (hi x.sg 2 ++ (hi x.sc 2 ++ (hi x.ge 8 ++ (hi x.re 8 ++ hi x.rs 8)))))) (m := hi x.fl 8) (post := [0, 0, 0, 0] ++ hi (fnv fnv0 (shead x t)) 8) (by simp [sup, shead]) (by simp [l8, l2, letters]) (l8 _)]
    exact num_hi_u64 hx.fl
  unfold sparse
  rw [p1, p2, p3, p4, p5, p6]
theorem sturn_sup {x : SX} {t : Int} (ht : u64 t) : sturn (sup x t) = t := by
  unfold sturn
  rw [part_at (pre := letters) (m := hi t 8) (post := (hi x.sg 2 ++ (hi x.sc 2 ++ (hi x.ge 8 ++ (hi x.re 8 ++ (hi x.rs 8 ++ (hi x.fl 8 ++ [0, 0, 0, 0])))))) ++ hi (fnv fnv0 (shead x t)) 8) (by simp [sup, shead]) (by simp [letters]) (hi_len 8 _)]
  exact num_hi_u64 ht
/-- Does a sector say something? -/
def sayB (b : List Int) : Bool := (sparse b).mayB && decide (sup (sparse b) (sturn b) = b)
theorem sayB_sup {x : SX} {t : Int} (hm : x.may) (hx : x.Wf) (ht : u64 t) : sayB (sup x t) = true := by
  unfold sayB
  rw [sparse_sup hm hx, sturn_sup ht, (mayB_iff x).2 hm]
  simp
/-- What Decode answers (ErrFormat: c). -/
def dec (b : List Int) : SX × Int × Bool := if sayB b then (sparse b, sturn b, true) else (SX.zero, 0, false)
theorem dec_sup {x : SX} {t : Int} (hm : x.may) (hx : x.Wf) (ht : u64 t) : dec (sup x t) = (x, t, true) := by
  unfold dec
  rw [if_pos (sayB_sup hm hx ht), sparse_sup hm hx, sturn_sup ht]
theorem say_sup {b : List Int} (h : sayB b = true) : sup (sparse b) (sturn b) = b ∧ (sparse b).may := by
  unfold sayB at h
  rw [Bool.and_eq_true, mayB_iff] at h
  exact ⟨by simpa using h.2, h.1⟩
end Go.Proofs.Ytjiammhmeliogaa
