/- The law's small functions: an op's kind, the first 120 ops, a block of a byte. -/
import Derived.Test.YtjiammhmeliogaaRead
namespace Go.Proofs.Ytjiammhmeliogaa
open Go.RowKit
set_option linter.unusedVariables false
set_option linter.unusedSimpArgs false

theorem exec_build27 (ρ : Operand → Value) (dst : Option Tmp) (ty : TypeId) (pos : String) (after : Array Edge) (guard : Option (Nat × Bool)) (w : World) :
    (execOp ρ ⟨dst, .build 27 #[], ty, pos, after, guard⟩).run Try.prog w = .ok (.value (.agg (bk zb).toArray)) w := by
  have hr := run_build (P := Try.prog) w 27 #[] (bk zb).toArray (by kernel_rfl)
  unfold execOp
  simp only [List.map_toArray, List.map_nil, Sem.run_bind, hr, Result.andThen_ok, Sem.run_pure]
theorem exec_alloc27 (ρ : Operand → Value) (dst : Option Tmp) (ty : TypeId) (pos : String) (after : Array Edge) (guard : Option (Nat × Bool)) (w : World) :
    (execOp ρ ⟨dst, .alloc 27, ty, pos, after, guard⟩).run Try.prog w = .ok (.value (.pointer (some ⟨w.heap.size, 0, none⟩))) (w.alloc (.cells (bk zb).toArray 27)) := by
  obtain ⟨it, z, h1, h2, h3, h4, h5⟩ := info27
  have hz : (zeroValue 27).run Try.prog w = .ok z w := by simp [zeroValue, typeInfo, h1, h2]
  unfold execOp
  simp [Instr.alloc, newVar, newRow, hz, h3]
attribute [local go_sem ↓] exec_load27 exec_store27 exec_build27 exec_alloc27
attribute [local go_sem] padr_some

/-- An op's kind. -/
def opk (k : Int) : Int := (k % 18446744073709551616) % 6
theorem opk_lo (k : Int) : 0 ≤ opk k := by unfold opk; omega
theorem opk_hi (k : Int) : opk k < 6 := by unfold opk; omega

theorem kind_any (k a f : Int) (v : Value) (w : World) : Calls Try.prog 18 #[.agg #[.int .i64 k, .int .i64 a, .int .u8 f, v]] w fun e w' => e = .returned (.int .i64 (opk k)) ∧ w' = w.alloc (.cells #[.int .i64 k, .int .i64 a, .int .u8 f, v] 32) := by
  have hk : wrap64 ((IntKind.u64.wrap k).tmod 6) = opk k := by
    have h1 : IntKind.u64.wrap k = k % 18446744073709551616 := rfl
    have h2 := opk_lo k
    have h3 := opk_hi k
    rw [h1, Int.tmod_eq_emod_of_nonneg (by omega)]
    unfold opk at *
    unfold wrap64
    omega
  go_enter Try.func18, Try.ntmps18
  go_wp2
  rw [hk]
  go_ret
  exact ⟨rfl, rfl⟩

theorem few_any (a : Option Addr) (n c : Nat) (w : World) (hn : n ≤ c) (hc : c ≤ maxLen) : Calls Try.prog 17 #[.slice a n c] w fun e w' => e = .returned (.slice a (min n 120) c) ∧ w' = w := by
  unfold maxLen at hc
  by_cases h : n ≤ 120
  · rw [Nat.min_eq_left h]
    have hi : (n : Int) ≤ 120 := by omega
    go_enter Try.func17, Try.ntmps17
    go_wp2
    go_ret
    exact ⟨rfl, rfl⟩
  · rw [Nat.min_eq_right (by omega)]
    have hi : ¬ ((n : Int) ≤ 120) := by omega
    have hc : 120 ≤ c := by omega
    have hc' : (120 : Int) ≤ (c : Int) := by omega
    go_enter Try.func17, Try.ntmps17
    go_wp2
    go_ret
    exact ⟨rfl, rfl⟩

/-- A block of a byte. -/
def blf (x : Int) (t : Nat) : Int := bits .xor .u8 x (t : Int)
def blk (x : Int) : List Int := (List.range 64).map (blf x)
def blp (x : Int) (t : Nat) : List Int := (List.range t).map (blf x) ++ List.replicate (64 - t) 0
theorem blk_len (x : Int) : (blk x).length = 64 := by simp [blk]
theorem blp_len {x : Int} {t : Nat} (h : t ≤ 64) : (blp x t).length = 64 := by simp [blp]; omega
theorem blp_zero (x : Int) : blp x 0 = zb := by simp [blp, zb]
theorem blp_full (x : Int) : blp x 64 = blk x := by simp [blp, blk]
theorem blp_next (x : Int) {t : Nat} (h : t < 64) : (bk (blp x t)).set t (.int .u8 (blf x t)) = bk (blp x (t + 1)) := by
  unfold bk
  rw [← List.map_set]
  congr 1
  unfold blp
  rw [List.set_append_right _ _ (by simp), List.length_map, List.length_range, Nat.sub_self, List.range_succ, List.map_append, List.append_assoc]
  congr 1
  rw [show 64 - t = (64 - (t + 1)) + 1 by omega, List.replicate_succ]
  simp
theorem blp_cell (x : Int) {t : Nat} (h : t < 64) : (bk (blp x t))[t]? = some (.int .u8 0) := by
  unfold bk blp
  rw [List.getElem?_map, List.getElem?_append_right (by simp), List.length_map, List.length_range, Nat.sub_self, List.getElem?_replicate_of_lt (by omega)]
  rfl

/-- The block that lies in a function's own result is read when it returns. -/
theorem result27 {f : Func} {tmps : Array Value} {w : World} {b : Nat} {cs : List Value} {s : Tmp} (hf : f.results = #[.cell s 27]) (hs : tmps.getD s undef = .pointer (some ⟨b, 0, none⟩)) (hc : cs.length = 64) (h : Blk w b 27 cs) :
    (results f tmps).run Try.prog w = .ok (.agg cs.toArray) w := by
  have hl := run_loadVar_mid (P := Try.prog) w b 0 27 cs _ (fun j u hu => by rw [Nat.zero_add]; exact h.cell hu) Try.underlying27 rfl (row27 cs hc)
  have hs' : tmps[s]?.getD undef = .pointer (some ⟨b, 0, none⟩) := by simpa using hs
  simp [results, hf, hs', asAddr, hl]

set_option maxHeartbeats 1000000 in
theorem block_any (x : Int) (w : World) : Calls Try.prog 19 #[.int .u8 x] w fun e w' => e = .returned (.agg (bk (blk x)).toArray) ∧ Keeps (fun _ => False) w w' := by
  go_enter Try.func19, Try.ntmps19
  go_wp2
  go_loopw [5] (fun i wr => ∃ t : Nat, t ≤ 64 ∧ i = .int .i64 t ∧ Blk wr (w.heap.size + 1) 27 (bk (blp x t)) ∧ Blk wr w.heap.size 27 (bk zb) ∧ Below w.heap.size w wr) (fun i _ => 64 - (intOf i).toNat)
  case atStart =>
    refine ⟨0, by omega, rfl, ?_, (Blk.new w 27 _).alloc _, ((Below.refl _ w).alloc (Nat.le_refl _) _).alloc (by simp) _⟩
    have := Blk.new (w.alloc (.cells (bk zb).toArray 27)) 27 (bk zb)
    rw [World.size_alloc] at this
    rwa [blp_zero]
  case round =>
    obtain ⟨t, ht, rfl, hb, hz, hB⟩ := hrel
    by_cases hlt : t < 64
    · have hcell : wr.cell? ⟨w.heap.size + 1, t, none⟩ = some (.int .u8 0) := hb.cell (blp_cell x hlt)
      have hfree := hb.free t
      have hlt' : (t : Int) < 64 := by omega
      have HB := Lib.hid hb
      have HZ := Lib.hid hz
      have HL := Lib.hid hB
      clear hb hz hB
      go_wp2
      go_roundw
      case rel =>
        refine ⟨t + 1, by omega, by go_num, ?_, HZ.out.other (by show w.heap.size ≠ w.heap.size + 1; omega) _, HL.out.setCell (p := ⟨w.heap.size + 1, t, none⟩) (by show _ ≤ w.heap.size + 1; omega) _⟩
        rw [← blp_next x hlt]
        exact HB.out.store t _
      case measure => simp [intOf]; omega
    · obtain rfl : t = 64 := by omega
      rw [blp_full] at hb
      have hl : (bk (blk x)).length = 64 := by rw [bk_len, blk_len]
      have hzl : (bk zb).length = 64 := by rw [bk_len, zb_len]
      have hrow : wr.rangeAt (w.heap.size + 1) 0 (bk (blk x)) := fun j v hv => by rw [Nat.zero_add]; exact hb.cell hv
      have hg1 := hasRow_of hrow hl
      have hg2 := rowAt_of hrow hl
      have hone : oneAll (bk (blk x)).toArray = true := all_oneCell_toArray bk_one
      have hmay : MayRow wr w.heap.size 0 64 := fun j hj => ⟨by rw [Nat.zero_add, hz.cell (List.getElem?_eq_getElem (by omega))]; rfl, by rw [Nat.zero_add]; exact hz.free j⟩
      have HZ := Lib.hid hz
      have HL := Lib.hid hB
      clear hb hz hB hrow
      go_wp2
      refine bodyPost_ret (v := .agg (bk (blk x)).toArray) ?_ rfl ?_
      · exact result27 rfl rfl hl (blk_over HZ.out (by omega))
      · exact ⟨rfl, (((Keeps.of_below HL.out).trans ((setCells_keeps w.heap.size (bk (blk x)) 0 wr).mono fun k _ e => Nat.le_of_eq (Eq.symm e))).mono fun k hk h' => absurd h' (Nat.not_le.2 hk))⟩
end Go.Proofs.Ytjiammhmeliogaa
