/- slices.Backward over writes: what its function value gives to a loop over it. -/
import Derived.Test.YtjiammhmeliogaaNew
import Derived.RangeFuncBox
import Derived.RangeFuncLeaves
import Derived.RangeFuncNested
import Derived.Shelf.Abstract
import Derived.WalkKit
import Derived.OwnWalkIn
import Derived.TacticsInMore
import Derived.LoopNIn
import Derived.LoopIn
namespace Go.Proofs.Ytjiammhmeliogaa
open Go.RowKit Go.Shelf
set_option linter.unusedVariables false

attribute [local go_sem] Oper.semAt_some

theorem sem_load106 (ro : Option Nat) (ρ : Operand → Value) (dst : Option Tmp) (ty : TypeId) (pos : String) (after : Array Edge) (guard : Option (Nat × Bool)) (x : Operand) (w : World) (h : ρ x = .pointer (some ⟨(padr (ρ x)).block, (padr (ρ x)).off, none⟩)) (hr : HasRow w (padr (ρ x)).block (padr (ρ x)).off 65) :
    (Oper.semAt ro ρ ⟨dst, .load 106 x, ty, pos, after, guard⟩).run Try.prog w = .ok (.value (.agg (rowAt w (padr (ρ x)).block (padr (ρ x)).off 65).toArray)) w := by
  rw [Oper.semAt_eq _ _ _ (fun c hc => by cases hc)]
  exact exec_load106 ρ dst ty pos after guard x w h hr
theorem sem_load27 (ro : Option Nat) (ρ : Operand → Value) (dst : Option Tmp) (ty : TypeId) (pos : String) (after : Array Edge) (guard : Option (Nat × Bool)) (x : Operand) (w : World) (h : ρ x = .pointer (some ⟨(padr (ρ x)).block, (padr (ρ x)).off, none⟩)) (hr : HasRow w (padr (ρ x)).block (padr (ρ x)).off 64) :
    (Oper.semAt ro ρ ⟨dst, .load 27 x, ty, pos, after, guard⟩).run Try.prog w = .ok (.value (.agg (rowAt w (padr (ρ x)).block (padr (ρ x)).off 64).toArray)) w := by
  rw [Oper.semAt_eq _ _ _ (fun c hc => by cases hc)]
  exact exec_load27 ρ dst ty pos after guard x w h hr
theorem sem_store27 (ro : Option Nat) (ρ : Operand → Value) (dst : Option Tmp) (ty : TypeId) (pos : String) (after : Array Edge) (guard : Option (Nat × Bool)) (x y : Operand) (w : World) (h : ρ x = .pointer (some ⟨(padr (ρ x)).block, (padr (ρ x)).off, none⟩)) (hy : ρ y = .agg (ρ y).cells) (ht : MayRow w (padr (ρ x)).block (padr (ρ x)).off 64) (hc : (ρ y).cells.size = 64) (h1 : oneAll (ρ y).cells = true) :
    (Oper.semAt ro ρ ⟨dst, .store 27 x y, ty, pos, after, guard⟩).run Try.prog w = .ok .skip (w.setCells (padr (ρ x)).block (padr (ρ x)).off (ρ y).cells.toList) := by
  rw [Oper.semAt_eq _ _ _ (fun c hc => by cases hc)]
  exact exec_store27 ρ dst ty pos after guard x y w h hy ht hc h1
theorem sem_new106 (ro : Option Nat) (ρ : Operand → Value) (dst : Option Tmp) (ty : TypeId) (pos : String) (after : Array Edge) (guard : Option (Nat × Bool)) (x y : Operand) (w : World) (c : Array Value) (h : ρ x = .pointer (some ⟨w.heap.size, 0, none⟩)) (hy : ρ y = .agg (ρ y).cells) (hc : (ρ y).cells.size = 65) (hz : c.size = 65) (h1 : oneAll (ρ y).cells = true) :
    (Oper.semAt ro ρ ⟨dst, .store 106 x y, ty, pos, after, guard⟩).run Try.prog (w.alloc (.cells c 106)) = .ok .skip (w.alloc (.cells (ρ y).cells 106)) := by
  rw [Oper.semAt_eq _ _ _ (fun c hc => by cases hc)]
  exact exec_new106 ρ dst ty pos after guard x y w c h hy hc hz h1
attribute [local go_sem ↓] sem_load106
attribute [local go_sem] padr_some rowAt_drew hasRow_drew

/-- The writes, the last first, each with its place. -/
def revp (p : List (Nat × List Int)) : List (Nat × (Nat × List Int)) := (List.range p.length).reverse.map fun i => (i, p.getD i (0, []))
theorem revp_len (p : List (Nat × List Int)) : (revp p).length = p.length := by simp [revp]
theorem revp_get (p : List (Nat × List Int)) (k : Nat) (hk : k < p.length) : (revp p)[k]? = some (p.length - 1 - k, p.getD (p.length - 1 - k) (0, [])) := by
  simp [revp, hk]
theorem revp_take (p : List (Nat × List Int)) (k : Nat) (hk : k < p.length) : (revp p).take k ++ [(p.length - 1 - k, p.getD (p.length - 1 - k) (0, []))] = (revp p).take (k + 1) := by
  have h := revp_get p k hk
  obtain ⟨hl, he⟩ := List.getElem?_eq_some_iff.1 h
  rw [List.take_succ_eq_append_getElem hl, he]

/-- A write, its block of the right length whatever. -/
def nbw (a : Nat × List Int) : Nat × List Int := if a.2.length = 64 then a else (a.1, zb)
theorem nbw_of {a : Nat × List Int} (h : a.2.length = 64) : nbw a = a := if_pos h
theorem nbw_fst (a : Nat × List Int) : (nbw a).1 = a.1 := by unfold nbw; split <;> rfl
theorem nbw_len (a : Nat × List Int) : (nbw a).2.length = 64 := by
  unfold nbw
  split
  · assumption
  · exact zb_len

/-- What the loop is handed. -/
def encW (x : Nat × (Nat × List Int)) : Array Value := #[.int .i64 (x.1 : Int), .agg (wrc (nbw x.2)).toArray]

set_option maxRecDepth 100000 in
set_option maxHeartbeats 2000000 in
theorem back_some (F : Fence) (n : Nat) (h7 : F.fn 85) (hro : F.round = none) (hn : 1 ≤ n) (l Bs n₀ b cap : Nat) (p : List (Nat × List Int)) (hreach : p.length ≤ 1000000) (hpl : ∀ a ∈ p, a.2.length = 64) (hb : b < n₀) (J Jx : List (Nat × (Nat × List Int)) → World → Prop)
    (hY : ∀ pre x W, J pre W → pre.length < p.length → YieldAt F (n - 1) Try.prog l (encW x) W fun e W' =>
      (e = .returned (.bool true) ∧ J (pre ++ [x]) W' ∧ Below n₀ W W') ∨ (e = .returned (.bool false) ∧ Jx (pre ++ [x]) W'))
    (W : World) (hBl : Bs < n₀) (hBs : W.cell? ⟨Bs, 0, none⟩ = some (.slice (some ⟨b, 0, none⟩) p.length cap)) (hc : ∀ j a, p[j]? = some a → W.rangeAt b (j * 65) (wrc a)) (h0 : J [] W) :
    CallsIn F n Try.prog 85 #[.func (.yield l) #[] #[], .pointer (some ⟨Bs, 0, none⟩)] W fun e W' => (∃ v, e = .returned v) ∧
      ((∃ ys, ys = revp p ∧ J ys W') ∨ (∃ pre, pre <+: revp p ∧ Jx pre W')) := by
  have HC := Lib.hid hc
  have HPL := Lib.hid hpl
  clear hc hpl
  refine callsIn_of_wp Try.func85 rfl h7 ?_ hro
  simp only [Try.ntmps85, List.size_toArray, List.length_cons, List.length_nil, Nat.reduceAdd, Nat.reduceSub, Array.replicate_succ, Array.replicate_zero, List.push_toArray, List.append_toArray, List.nil_append, List.cons_append]
  gi_wp2
  gi_loopw [3] (fun i wr => ∃ k : Nat, k ≤ p.length ∧ i = .int .i64 ((p.length : Int) - 1 - k) ∧ J ((revp p).take k) wr ∧ Below n₀ W wr)
    (fun i _ => (intOf i + 1).toNat)
  case atStart => exact ⟨0, Nat.zero_le _, by simp, h0, Below.refl _ _⟩
  case round =>
    obtain ⟨k, hk, rfl, hJs, hnx⟩ := hrel
    have hcB := (hnx.cell (p := ⟨Bs, 0, none⟩) hBl).trans hBs
    by_cases hlt : k < p.length
    · obtain ⟨i, hi⟩ : ∃ i, i = p.length - 1 - k := ⟨_, rfl⟩
      have hik : ((p.length : Int) - 1 - k) = (i : Int) := by omega
      have hil : i < p.length := by omega
      have htk := revp_take p k hlt
      rw [← hi] at htk
      obtain ⟨a, ha⟩ : ∃ a, a = p.getD i (0, []) := ⟨_, rfl⟩
      rw [← ha] at htk
      have hpi : p[i]? = some a := by rw [ha, List.getD_eq_getElem?_getD, List.getElem?_eq_getElem hil]; rfl
      have hal := HPL.out a (List.mem_of_getElem? hpi)
      have hrng : wr.rangeAt b (i * 65) (wrc a) := fun j v hv => (hnx.cell (p := ⟨b, i * 65 + j, none⟩) hb).trans (HC.out i a hpi j v hv)
      have hr1 := hasRow_of hrng (n := 65) (wrc_len hal)
      have hr2 := rowAt_of hrng (n := 65) (wrc_len hal)
      rw [hik]
      have HT := Lib.hid htk
      have HI := Lib.hid hi
      have HIK := Lib.hid hik
      have hpos : (0 : Int) ≤ (i : Int) := by omega
      clear htk hi hik ha hpi hrng
      obtain ⟨fn, tmps, assign, body, hy, hR⟩ := hY _ (i, a) wr hJs (by rw [List.length_take, revp_len]; omega)
      unfold encW at hy
      dsimp only at hy
      rw [nbw_of hal] at hy
      clear hal
      gi_wp2
      refine hR.mono ?_
      rintro e W3 (⟨rfl, hJ3, hk3⟩ | ⟨rfl, hJx3⟩)
      · gi_wp2
        go_roundw
        case rel => exact ⟨k + 1, by omega, by have := HI.out; congr 1 <;> omega, by rw [← HT.out]; exact hJ3, hnx.trans hk3⟩
        case measure => simp [intOf]
      · gi_wp2
        refine bodyPost_ret (results_none rfl _ _ _) rfl ?_
        exact ⟨⟨_, rfl⟩, .inr ⟨_, by rw [HT.out]; exact List.take_prefix _ _, hJx3⟩⟩
    · obtain rfl : k = p.length := by omega
      have hneg : ((p.length : Int) - 1 - (p.length : Int)) = -1 := by omega
      rw [hneg]
      gi_wp2
      go_end0
      exact ⟨⟨_, rfl⟩, .inl ⟨_, rfl, by rw [List.take_of_length_le (by rw [revp_len]; exact Nat.le_refl _)] at hJs; exact hJs⟩⟩

set_option maxRecDepth 100000 in
set_option maxHeartbeats 1000000 in
theorem back_none (F : Fence) (n : Nat) (h7 : F.fn 85) (hro : F.round = none) (l Bs : Nat) (J : List (Nat × (Nat × List Int)) → World → Prop) (W : World) (hBs : W.cell? ⟨Bs, 0, none⟩ = some (.slice none 0 0)) (h0 : J [] W) :
    CallsIn F n Try.prog 85 #[.func (.yield l) #[] #[], .pointer (some ⟨Bs, 0, none⟩)] W fun e W' => (∃ v, e = .returned v) ∧ J [] W' := by
  refine callsIn_of_wp Try.func85 rfl h7 ?_ hro
  simp only [Try.ntmps85, List.size_toArray, List.length_cons, List.length_nil, Nat.reduceAdd, Nat.reduceSub, Array.replicate_succ, Array.replicate_zero, List.push_toArray, List.append_toArray, List.nil_append, List.cons_append]
  gi_wp2
  gi_loopw [3] (fun i wr => i = .int .i64 (-1) ∧ J [] wr) (fun _ _ => 0)
  case atStart => exact ⟨rfl, h0⟩
  case round =>
    obtain ⟨rfl, hJs⟩ := hrel
    gi_wp2
    go_end0
    exact ⟨⟨_, rfl⟩, hJs⟩

/-- The value of Backward, over a box that lies below n₀ with its row. -/
theorem back_stops (F : Fence) (n : Nat) (h7 : F.fn 85) (hro : F.round = none) (hn : 1 ≤ n) (Bs : Nat) (p : List (Nat × List Int)) (pv : Value) (hreach : p.length ≤ 1000000) (hpl : ∀ a ∈ p, a.2.length = 64) (w0 w : World) (hb : Blk w0 Bs 93 [pv]) (hr : w0.ownsRow 0 106 65 pv p.length (pflat p)) (hB : Below w0.heap.size w0 w) :
    SeqStopsK F n Try.prog 85 #[.pointer (some ⟨Bs, 0, none⟩)] encW (Below w0.heap.size) (fun ys => ys = revp p) (fun pre => pre <+: revp p) p.length w := fun l J Jx W hW _ _ hY h0 => by
  have hsz := hB.size
  have hB2 : Below w0.heap.size w0 W := hB.trans (hW.mono hsz)
  have hc := (hB2.cell (p := ⟨Bs, 0, none⟩) hb.lt).trans (hb.cell (i := 0) rfl)
  by_cases hp : p = []
  · subst hp
    obtain ⟨a, cap, rfl, _⟩ := own_slice hr
    rcases hr.2 with ⟨h1, _⟩ | ⟨g, cap', cur, h1, _⟩
    · rw [h1] at hc
      exact (back_none F n h7 hro l Bs J W hc h0).mono fun e W' ⟨he, hj⟩ => ⟨he, .inl ⟨_, rfl, hj⟩⟩
    · rw [h1] at hc
      have hlt : g < w0.heap.size := (own_heap hr (by rw [h1]; rfl)).2.1
      exact back_some F n h7 hro hn l Bs w0.heap.size g cap' [] hreach hpl hlt J Jx hY W hb.lt hc (fun j a h => by cases h) h0
  · have hpos : 0 < p.length := List.length_pos_iff.2 hp
    obtain ⟨g, cap, rfl, _, _, hg⟩ := own_some hr hpos
    refine back_some F n h7 hro hn l Bs w0.heap.size g cap p hreach hpl hg J Jx hY W hb.lt hc (fun j a h => ?_) h0
    have h1 := hr
    rw [pflat_split h] at h1
    have h2 := own_range h1
    rw [pflat_len (fun b hb => hpl b (List.mem_of_mem_take hb)), List.length_take, Nat.min_eq_left (Nat.le_of_lt (List.getElem?_eq_some_iff.1 h).1)] at h2
    exact fun q v hv => (hB2.cell (p := ⟨g, j * 65 + q, none⟩) hg).trans (h2 q v hv)

/-- slices.Backward. -/
theorem backward_any (pv : Value) (w : World) (hpv : ∃ a n c, pv = .slice a n c) : Calls Try.prog 58 #[pv] w fun e w' => e = .returned (.func (.func 85) #[] #[.pointer (some ⟨w.heap.size, 0, none⟩)]) ∧ w' = w.alloc (.cells #[pv] 93) := by
  obtain ⟨a, n, c, rfl⟩ := hpv
  go_enter Try.func58, Try.ntmps58
  go_wp2
  go_ret
  exact ⟨rfl, rfl⟩
end Go.Proofs.Ytjiammhmeliogaa
