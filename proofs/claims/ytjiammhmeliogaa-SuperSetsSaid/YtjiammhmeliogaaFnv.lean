/- The hash functions of the program and of the reference return one and the same plain function of their bytes. -/
import Derived.Test.YtjiammhmeliogaaSync
import Derived.IntWalk
namespace Go.Proofs.Ytjiammhmeliogaa
open Go.RowKit
set_option linter.unusedVariables false
set_option linter.unusedSimpArgs false

/-- One byte of the hash. -/
def fnvStep (h b : Int) : Int := IntKind.u64.wrap (bits .xor .u64 h (IntKind.u64.wrap b) * 1099511628211)
/-- The hash of bytes from h on. -/
def fnv (h : Int) (l : List Int) : Int := l.foldl fnvStep h
/-- The hash's first value, behind a name. -/
def fnv0 : Int := 14695981039346656037

theorem fnv_nil (h : Int) : fnv h [] = h := rfl
theorem fnv_snoc (h : Int) (l : List Int) (b : Int) : fnv h (l ++ [b]) = fnvStep (fnv h l) b := by simp [fnv]
theorem fnv_append (h : Int) (l m : List Int) : fnv h (l ++ m) = fnv (fnv h l) m := by simp [fnv]
theorem fnv_take (h : Int) (l : List Int) (k : Nat) (hk : k < l.length) : fnv h (l.take (k + 1)) = fnvStep (fnv h (l.take k)) (l.getD k 0) := by
  have e : l.getD k 0 = l[k] := by simp [hk]
  rw [List.take_succ_eq_append_getElem hk, fnv_snoc, e]

theorem ret_int {k : IntKind} {a b : Int} (h : a = b) : Ending.returned (.int k a) = .returned (.int k b) := by rw [h]
theorem val_int {k : IntKind} {a b : Int} (h : a = b) : Value.int k a = .int k b := by rw [h]

theorem wrap_u64_range (x : Int) : 0 ≤ IntKind.u64.wrap x ∧ IntKind.u64.wrap x ≤ 18446744073709551615 := by
  rw [IntKind.wrap_u64]; omega
theorem fnv_range (l : List Int) : 0 ≤ fnv fnv0 l ∧ fnv fnv0 l ≤ 18446744073709551615 := by
  rcases List.eq_nil_or_concat l with rfl | ⟨m, b, rfl⟩
  · unfold fnv fnv0; simp
  · rw [List.concat_eq_append, fnv_snoc]; exact wrap_u64_range _

/-- A slice that reads as integers of one kind. -/
def Row (k : IntKind) (w : World) (a : Option Addr) (n : Nat) (xs : List Int) : Prop :=
  xs.length = n ∧ ∀ i, i < n → ∃ ad, a = some ad ∧ w.cell? (ad.add i) = some (.int k (xs.getD i 0))

theorem Row.at_ {k : IntKind} {w : World} {a : Option Addr} {n : Nat} {xs : List Int} (h : Row k w a n xs) {i : Nat} (hi : i < n) :
    ∃ ad, a = some ad ∧ w.cell? (ad.add i) = some (.int k (xs.getD i 0)) := h.2 i hi

set_option maxHeartbeats 400000 in
theorem more_bytes (h : Int) (a : Option Addr) (len cap : Nat) (zs : List Int) (w : World) (hR : Row .u8 w a len zs) (hm : len ≤ 140737488355328) :
    Calls Try.prog 88 #[.int .u64 h, .slice a len cap] w fun e w' => e = .returned (.int .u64 (fnv h zs)) ∧ w = w' := by
  have HR := Lib.hid hR
  have hzl : zs.length = len := hR.1
  have HL := Lib.hid hzl
  clear hR hzl
  go_enter Try.func88, Try.ntmps88
  go_wp2
  go_loop [0, 8] (fun x i => ∃ k : Nat, k ≤ len ∧ i = .int .i64 k ∧ x = .int .u64 (fnv h (zs.take k))) (fun _ i => len - (intOf i).toNat)
  case atStart => exact ⟨0, Nat.zero_le _, rfl, rfl⟩
  case round =>
    obtain ⟨k, hk, rfl, rfl⟩ := hrel
    by_cases hlt : k < len
    · obtain ⟨ad, rfl, hcell⟩ := HR.out.at_ hlt
      have HS := Lib.hid (fnv_take h zs k (by rw [HL.out]; exact hlt))
      generalize hb : zs.getD k 0 = b at *
      clear hb
      go_wp2
      go_round
      case rel => exact ⟨k + 1, by omega, by go_num, val_int (by rw [HS.out]; rfl)⟩
      case measure => simp [intOf]; omega
    · go_wp2
      go_ret
      exact ⟨ret_int (by rw [List.take_of_length_le (by rw [HL.out]; omega)]), rfl⟩

set_option maxHeartbeats 400000 in
theorem ref_more (h : Int) (a : Option Addr) (len cap : Nat) (zs : List Int) (w : World) (hR : Row .u8 w a len zs) (hm : len ≤ 140737488355328) :
    Calls Try.prog 86 #[.int .u64 h, .slice a len cap] w fun e w' => e = .returned (.int .u64 (fnv h zs)) ∧ w = w' := by
  have HR := Lib.hid hR
  have hzl : zs.length = len := hR.1
  have HL := Lib.hid hzl
  clear hR hzl
  go_enter Try.func86, Try.ntmps86
  go_wp2
  go_loop [0, 5] (fun x i => ∃ k : Nat, k ≤ len ∧ i = .int .i64 k ∧ x = .int .u64 (fnv h (zs.take k))) (fun _ i => len - (intOf i).toNat)
  case atStart => exact ⟨0, Nat.zero_le _, rfl, rfl⟩
  case round =>
    obtain ⟨k, hk, rfl, rfl⟩ := hrel
    by_cases hlt : k < len
    · obtain ⟨ad, rfl, hcell⟩ := HR.out.at_ hlt
      have HS := Lib.hid (fnv_take h zs k (by rw [HL.out]; exact hlt))
      generalize hb : zs.getD k 0 = b at *
      clear hb
      go_wp2
      go_round
      case rel => exact ⟨k + 1, by omega, by go_num, val_int (by rw [HS.out]; rfl)⟩
      case measure => simp [intOf]; omega
    · go_wp2
      go_ret
      exact ⟨ret_int (by rw [List.take_of_length_le (by rw [HL.out]; omega)]), rfl⟩

/-- hash.Hash. -/
theorem hash_any (a : Option Addr) (len cap : Nat) (zs : List Int) (w : World) (hR : Row .u8 w a len zs) (hm : len ≤ 140737488355328) :
    Calls Try.prog 76 #[.slice a len cap] w fun e w' => e = .returned (.int .u64 (fnv fnv0 zs)) ∧ w = w' := by
  have HR := Lib.hid hR
  clear hR
  go_enter Try.func76, Try.ntmps76
  go_wp2_with (go_at_call 88; refine (more_bytes _ _ _ _ _ _ HR.out hm).mono ?_; rintro e w' ⟨rfl, rfl⟩)
  go_ret
  exact ⟨rfl, rfl⟩

/-- icehouseref03.Hash. -/
theorem ref_hash (a : Option Addr) (len cap : Nat) (zs : List Int) (w : World) (hR : Row .u8 w a len zs) (hm : len ≤ 140737488355328) :
    Calls Try.prog 72 #[.slice a len cap] w fun e w' => e = .returned (.int .u64 (fnv fnv0 zs)) ∧ w = w' := by
  have HR := Lib.hid hR
  clear hR
  go_enter Try.func72, Try.ntmps72
  go_wp2_with (go_at_call 86; refine (ref_more _ _ _ _ _ _ HR.out hm).mono ?_; rintro e w' ⟨rfl, rfl⟩)
  go_ret
  exact ⟨rfl, rfl⟩

end Go.Proofs.Ytjiammhmeliogaa
