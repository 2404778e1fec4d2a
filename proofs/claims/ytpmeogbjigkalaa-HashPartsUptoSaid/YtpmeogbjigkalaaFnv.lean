/- The hash functions of the program and of the reference return one and the same plain function of their bytes: for every slice of bytes that reads as numbers, for every string. -/
import Derived.Test.YtpmeogbjigkalaaRows
import Derived.WalkKit
import Derived.WalkLawsBesides
import Derived.WalkSpells
import Derived.Outline
import Derived.IntWalk
import Derived.Lib.Hide
import Derived.Lib.ConvBytes
import Derived.Lib.SlBytesConst
namespace Go.Proofs.Ytpmeogbjigkalaa
open Go.RowKit

/-- One byte of the hash. -/
def fnvStep (h b : Int) : Int := IntKind.u64.wrap (bits .xor .u64 h (IntKind.u64.wrap b) * 1099511628211)
/-- The hash of bytes from h on. -/
def fnv (h : Int) (l : List Int) : Int := l.foldl fnvStep h
/-- The hash's first value, behind a name. -/
def fnv0 : Int := 14695981039346656037

theorem fnv_nil (h : Int) : fnv h [] = h := rfl
theorem fnv_snoc (h : Int) (l : List Int) (b : Int) : fnv h (l ++ [b]) = fnvStep (fnv h l) b := by simp [fnv]
theorem fnv_append (h : Int) (l m : List Int) : fnv h (l ++ m) = fnv (fnv h l) m := by simp [fnv]
theorem fnv_take (h : Int) (l : List Int) (k : Nat) (hk : k < l.length) : fnv h (l.take (k + 1)) = fnvStep (fnv h (l.take k)) (l.getD k 0) := by
  have e : l.getD k 0 = l[k] := by simp [hk]
  rw [List.take_succ_eq_append_getElem hk, fnv_snoc, e]

theorem ret_int {k : IntKind} {a b : Int} (h : a = b) : Ending.returned (.int k a) = .returned (.int k b) := by rw [h]
theorem val_int {k : IntKind} {a b : Int} (h : a = b) : Value.int k a = .int k b := by rw [h]

theorem wrap_u64_range (x : Int) : 0 ≤ IntKind.u64.wrap x ∧ IntKind.u64.wrap x ≤ 18446744073709551615 := by
  rw [IntKind.wrap_u64]; omega
theorem fnv_range (l : List Int) : 0 ≤ fnv fnv0 l ∧ fnv fnv0 l ≤ 18446744073709551615 := by
  rcases List.eq_nil_or_concat l with rfl | ⟨m, b, rfl⟩
  · unfold fnv fnv0; simp
  · rw [List.concat_eq_append, fnv_snoc]; exact wrap_u64_range _

/-- A slice that reads as integers of one kind. -/
def Row (k : IntKind) (w : World) (a : Option Addr) (n : Nat) (xs : List Int) : Prop :=
  xs.length = n ∧ ∀ i, i < n → ∃ ad, a = some ad ∧ w.cell? (ad.add i) = some (.int k (xs.getD i 0))

theorem Row.at_ {k : IntKind} {w : World} {a : Option Addr} {n : Nat} {xs : List Int} (h : Row k w a n xs) {i : Nat} (hi : i < n) :
    ∃ ad, a = some ad ∧ w.cell? (ad.add i) = some (.int k (xs.getD i 0)) := h.2 i hi

set_option maxHeartbeats 400000 in
theorem more_bytes (h : Int) (a : Option Addr) (len cap : Nat) (zs : List Int) (w : World) (hR : Row .u8 w a len zs) (hm : len ≤ 140737488355328) :
    Calls Try.prog 19 #[.int .u64 h, .slice a len cap] w fun e w' => e = .returned (.int .u64 (fnv h zs)) ∧ w = w' := by
  have HR := Lib.hid hR
  have hzl : zs.length = len := hR.1
  have HL := Lib.hid hzl
  clear hR hzl
  go_enter Try.func19, Try.ntmps19
  go_wp2
  go_loop [0, 8] (fun x i => ∃ k : Nat, k ≤ len ∧ i = .int .i64 k ∧ x = .int .u64 (fnv h (zs.take k))) (fun _ i => len - (intOf i).toNat)
  case atStart => exact ⟨0, Nat.zero_le _, rfl, rfl⟩
  case round =>
    obtain ⟨k, hk, rfl, rfl⟩ := hrel
    by_cases hlt : k < len
    · obtain ⟨ad, rfl, hcell⟩ := HR.out.at_ hlt
      have HS := Lib.hid (fnv_take h zs k (by rw [HL.out]; exact hlt))
      generalize hb : zs.getD k 0 = b at *
      clear hb
      go_wp2
      go_round
      case rel => exact ⟨k + 1, by omega, by go_num, val_int (by rw [HS.out]; rfl)⟩
      case measure => simp [intOf]; omega
    · go_wp2
      go_ret
      exact ⟨ret_int (by rw [List.take_of_length_le (by rw [HL.out]; omega)]), rfl⟩

theorem strOf_take (s : ByteArray) (k : Nat) (hk : k < s.size) : (s.data.toList.map fun b => (b.toNat : Int)).getD k 0 = ((s[k]'hk).toNat : Int) := by
  have hk' : k < s.data.size := hk
  have e : s.data.toList[k]? = some s.data[k] := by simp
  rw [List.getD_eq_getElem?_getD, List.getElem?_map, e]
  rfl

set_option maxHeartbeats 400000 in
theorem more_string (h : Int) (s : ByteArray) (w : World) (hs : s.size ≤ maxLen) :
    Calls Try.prog 20 #[.int .u64 h, .string s] w fun e w' => e = .returned (.int .u64 (fnv h (s.data.toList.map fun b => (b.toNat : Int)))) ∧ w = w' := by
  unfold maxLen at hs
  obtain ⟨zs, hzs⟩ : ∃ zs, zs = s.data.toList.map fun b => (b.toNat : Int) := ⟨_, rfl⟩
  have HL : Hid (zs.length = s.size) := Lib.hid (by rw [hzs]; simp)
  have HZ := Lib.hid hzs
  rw [← hzs]
  clear hzs
  go_enter Try.func20, Try.ntmps20
  go_wp2
  go_loop [0, 8] (fun x i => ∃ k : Nat, k ≤ s.size ∧ i = .int .i64 k ∧ x = .int .u64 (fnv h (zs.take k))) (fun _ i => s.size - (intOf i).toNat)
  case atStart => exact ⟨0, Nat.zero_le _, rfl, rfl⟩
  case round =>
    obtain ⟨k, hk, rfl, rfl⟩ := hrel
    by_cases hlt : k < s.size
    · have HS := Lib.hid (fnv_take h zs k (by rw [HL.out]; exact hlt))
      have hg : zs.getD k 0 = ((s[k]'hlt).toNat : Int) := by rw [HZ.out]; exact strOf_take s k hlt
      have HG := Lib.hid hg
      clear hg
      go_wp2
      go_round
      case rel =>
        refine ⟨k + 1, by omega, by go_num, val_int ?_⟩
        rw [HS.out, HG.out]
        unfold fnvStep
        try rfl
        try (congr 3; simp [IntKind.wrap_u64]; omega)
      case measure => simp [intOf]; omega
    · go_wp2
      go_ret
      exact ⟨ret_int (by rw [List.take_of_length_le (by rw [HL.out]; omega)]), rfl⟩

set_option maxHeartbeats 400000 in
theorem ref_more (h : Int) (a : Option Addr) (len cap : Nat) (zs : List Int) (w : World) (hR : Row .u8 w a len zs) (hm : len ≤ 140737488355328) :
    Calls Try.prog 15 #[.int .u64 h, .slice a len cap] w fun e w' => e = .returned (.int .u64 (fnv h zs)) ∧ w = w' := by
  have HR := Lib.hid hR
  have hzl : zs.length = len := hR.1
  have HL := Lib.hid hzl
  clear hR hzl
  go_enter Try.func15, Try.ntmps15
  go_wp2
  go_loop [0, 5] (fun x i => ∃ k : Nat, k ≤ len ∧ i = .int .i64 k ∧ x = .int .u64 (fnv h (zs.take k))) (fun _ i => len - (intOf i).toNat)
  case atStart => exact ⟨0, Nat.zero_le _, rfl, rfl⟩
  case round =>
    obtain ⟨k, hk, rfl, rfl⟩ := hrel
    by_cases hlt : k < len
    · obtain ⟨ad, rfl, hcell⟩ := HR.out.at_ hlt
      have HS := Lib.hid (fnv_take h zs k (by rw [HL.out]; exact hlt))
      generalize hb : zs.getD k 0 = b at *
      clear hb
      go_wp2
      go_round
      case rel => exact ⟨k + 1, by omega, by go_num, val_int (by rw [HS.out]; rfl)⟩
      case measure => simp [intOf]; omega
    · go_wp2
      go_ret
      exact ⟨ret_int (by rw [List.take_of_length_le (by rw [HL.out]; omega)]), rfl⟩

/-- hash.Hash. -/
theorem hash_any (a : Option Addr) (len cap : Nat) (zs : List Int) (w : World) (hR : Row .u8 w a len zs) (hm : len ≤ 140737488355328) :
    Calls Try.prog 12 #[.slice a len cap] w fun e w' => e = .returned (.int .u64 (fnv fnv0 zs)) ∧ w = w' := by
  have HR := Lib.hid hR
  clear hR
  go_enter Try.func12, Try.ntmps12
  go_wp2_with (go_at_call 19; refine (more_bytes _ _ _ _ _ _ HR.out hm).mono ?_; rintro e w' ⟨rfl, rfl⟩)
  go_ret
  exact ⟨rfl, rfl⟩

/-- icehouseref03.Hash. -/
theorem ref_hash (a : Option Addr) (len cap : Nat) (zs : List Int) (w : World) (hR : Row .u8 w a len zs) (hm : len ≤ 140737488355328) :
    Calls Try.prog 13 #[.slice a len cap] w fun e w' => e = .returned (.int .u64 (fnv fnv0 zs)) ∧ w = w' := by
  have HR := Lib.hid hR
  clear hR
  go_enter Try.func13, Try.ntmps13
  go_wp2_with (go_at_call 15; refine (ref_more _ _ _ _ _ _ HR.out hm).mono ?_; rintro e w' ⟨rfl, rfl⟩)
  go_ret
  exact ⟨rfl, rfl⟩

/-- hash.More. -/
theorem hash_more (h : Int) (a : Option Addr) (len cap : Nat) (zs : List Int) (w : World) (hR : Row .u8 w a len zs) (hm : len ≤ 140737488355328) :
    Calls Try.prog 14 #[.int .u64 h, .slice a len cap] w fun e w' => e = .returned (.int .u64 (fnv h zs)) ∧ w = w' := by
  have HR := Lib.hid hR
  clear hR
  go_enter Try.func14, Try.ntmps14
  go_wp2_with (go_at_call 19; refine (more_bytes _ _ _ _ _ _ HR.out hm).mono ?_; rintro e w' ⟨rfl, rfl⟩)
  go_ret
  exact ⟨rfl, rfl⟩

/-- The finger of a hash: its highest 32 bits. -/
def fingerOf (h : Int) : Int := h / 4294967296 % 4294967296

theorem finger_any (s : ByteArray) (w : World) (hs : s.size ≤ maxLen) :
    Calls Try.prog 16 #[.string s] w fun e w' => e = .returned (.int .u32 (fingerOf (fnv fnv0 (s.data.toList.map fun b => (b.toNat : Int))))) ∧ w = w' := by
  go_enter Try.func16, Try.ntmps16
  go_wp2_with (go_at_call 20; refine (more_string _ _ _ hs).mono ?_; rintro e w' ⟨rfl, rfl⟩)
  go_ret
  exact ⟨rfl, rfl⟩

theorem row_conv (w : World) (s : ByteArray) : Row .u8 (Lib.bytesWorld w 5 s) (some ⟨w.heap.size, 0, none⟩) s.size (s.data.toList.map fun b => (b.toNat : Int)) := by
  refine ⟨by simp, fun i hi => ⟨_, rfl, ?_⟩⟩
  have h := Lib.bytesWorld_cell w 5 s i hi
  have e : (s.data.toList.map fun b => (b.toNat : Int)).getD i 0 = ((s.data.toList.getD i 0).toNat : Int) := by
    have hi' : i < s.data.size := hi
    have e : s.data.toList[i]? = some s.data[i] := by simp
    rw [List.getD_eq_getElem?_getD, List.getD_eq_getElem?_getD, List.getElem?_map, e]
    rfl
  rw [e, ← h]
  unfold Addr.add
  split <;> simp_all

theorem below_conv (w : World) (s : ByteArray) : Below w.heap.size w (Lib.bytesWorld w 5 s) :=
  ⟨rfl, rfl, rfl, by rw [Lib.bytesWorld_size]; omega, fun k hk => Lib.bytesWorld_at_old w 5 s k hk⟩

theorem ref_finger (s : ByteArray) (w : World) (hs : s.size ≤ 140737488355328) :
    Calls Try.prog 17 #[.string s] w fun e w' => e = .returned (.int .u32 (fingerOf (fnv fnv0 (s.data.toList.map fun b => (b.toNat : Int))))) ∧ Below w.heap.size w w' := by
  have hr := fnv_range (s.data.toList.map fun b => (b.toNat : Int))
  obtain ⟨x, hx⟩ : ∃ x, x = fnv fnv0 (s.data.toList.map fun b => (b.toNat : Int)) := ⟨_, rfl⟩
  have HX := Lib.hid hx
  rw [← hx] at hr ⊢
  clear hx
  obtain ⟨hr0, hr1⟩ := hr
  have hconv := fun W => Lib.run_convert_string_bytes (P := Try.prog) W 9 28 5 s Try.underlying9 Try.underlying28 Try.underlying5
  go_enter Try.func17, Try.ntmps17
  go_wp2_with (go_at_call 13; refine (ref_hash _ _ _ (s.data.toList.map fun b => (b.toNat : Int)) _ (row_conv w s) (by omega)).mono ?_; rw [← HX.out]; rintro e w' ⟨rfl, rfl⟩)
  go_ret
  exact ⟨ret_int (by unfold fingerOf; omega), below_conv w s⟩
end Go.Proofs.Ytpmeogbjigkalaa
