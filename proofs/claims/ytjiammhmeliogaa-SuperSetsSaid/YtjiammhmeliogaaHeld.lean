/- held: what all sectors hold; same: whether two rows of blocks are the same. -/
import Derived.Test.YtjiammhmeliogaaWorn
namespace Go.Proofs.Ytjiammhmeliogaa
open Go.RowKit
set_option linter.unusedVariables false
set_option linter.unusedSimpArgs false

theorem exec_new27 (ρ : Operand → Value) (dst : Option Tmp) (ty : TypeId) (pos : String) (after : Array Edge) (guard : Option (Nat × Bool)) (x y : Operand) (w : World) (c : Array Value) (h : ρ x = .pointer (some ⟨w.heap.size, 0, none⟩)) (hy : ρ y = .agg (ρ y).cells) (hc : (ρ y).cells.size = 64) (hz : c.size = 64) (h1 : oneAll (ρ y).cells = true) :
    (execOp ρ ⟨dst, .store 27 x y, ty, pos, after, guard⟩).run Try.prog (w.alloc (.cells c 27)) = .ok .skip (w.alloc (.cells (ρ y).cells 27)) := by
  have hl := run_storeVar_new (P := Try.prog) w 27 c (ρ y).cells (by rw [hc]; kernel_rfl) (by rw [hz, hc]) h1
  unfold execOp
  simp only [h, Instr.storeAt, Instr.sureAddr, Sem.run_bind, Sem.run_pure, Result.andThen_ok]
  rw [← hy] at hl
  simp only [hl, Result.andThen_ok]
theorem row35 (cs : List Value) (hc : cs.length = 64) (w : World) : (Instr.buildSlice 35 1 #[(0, .agg cs.toArray)]).run Try.prog w = .ok (.slice (some ⟨w.heap.size, 0, none⟩) 1 1) (w.alloc (.cells cs.toArray 27)) := by
  obtain ⟨it, z, h1, h2, h3, h4, _⟩ := info27
  have hf : Instr.fill (fun i => some (i * 64, 64)) ((Array.range (1 * 64)).map (z.cells[· % z.cells.size]!)) [(0, .agg cs.toArray)] = some cs.toArray := by
    rw [fill_part (vs := cs) (off := 0) rfl (by simp [hc]) (by simp [hc])]
    simp [hc, Instr.fill]
  simp only [Nat.one_mul] at hf
  simp [Instr.buildSlice, run_underlying Try.underlying35, sizeOf, typeInfo, zeroValue, h1, h2, h4, newRow, hf]
theorem exec_row35 (ρ : Operand → Value) (dst : Option Tmp) (ty : TypeId) (pos : String) (after : Array Edge) (guard : Option (Nat × Bool)) (x : Operand) (w : World) (h : ρ x = .agg (ρ x).cells) (hc : (ρ x).cells.size = 64) :
    (execOp ρ ⟨dst, .buildSlice 35 1 #[(0, x)], ty, pos, after, guard⟩).run Try.prog w = .ok (.value (.slice (some ⟨w.heap.size, 0, none⟩) 1 1)) (w.alloc (.cells (ρ x).cells 27)) := by
  obtain ⟨cs, hcs⟩ : ∃ cs : List Value, (ρ x).cells = cs.toArray := ⟨(ρ x).cells.toList, by simp⟩
  rw [hcs] at h hc ⊢
  have hr := row35 cs (by simpa using hc) w
  unfold execOp
  simp only [List.map_toArray, List.map_cons, List.map_nil, h, Sem.run_bind, hr, Result.andThen_ok, Sem.run_pure]
attribute [local go_sem ↓] exec_load27 exec_new27 exec_row35 exec_alloc27 zeroValue27
attribute [local go_sem] padr_some rowAt_drew hasRow_drew mayRow_drew run_cells27

/-- The power is there, and no failure to come. -/
structure Live (D : DD) : Prop where
  dead : D.dead = false
  fails : D.fails = 0
theorem live_read {D : DD} (h : Live D) {i : Nat} (hi : i < D.n) : D.read (i : Int) = (D.holds i, 0, { D with ops := D.ops + 1 }) := by
  have hr : D.ready (i : Int) = (0, D) := by
    unfold DD.ready
    rw [h.dead, h.fails]
    have h1 : ¬ ((i : Int) < 0 ∨ (D.n : Int) ≤ (i : Int)) := by omega
    simp only [Bool.false_eq_true, if_false, if_neg h1]
    simp
  unfold DD.read
  rw [hr]
  simp only [Int.toNat_natCast]
  rw [if_neg (by simp)]
theorem holds_len {L : DL} {D : DD} {w : World} (h : DkAt w L D) {i : Nat} (hi : i < D.n) : (D.holds i).length = 64 := setl_len D.p 0 D.f D.n h.fl h.pl i hi

def HeldP (L : DL) (D : DD) (w : World) (e : Ending) (w' : World) : Prop := ∃ rv, e = .returned rv ∧ w'.ownsRow w.heap.size 27 64 rv D.n (flat D.holds D.n) ∧ DkAt w' L { D with ops := D.ops + D.n } ∧ Keeps (fun k => k = L.B) w w'

theorem held_new {W : World} {cs : List Value} (hl : cs.length = 64) : HasRow (W.alloc (.cells cs.toArray 27)) W.heap.size 0 64 ∧ rowAt (W.alloc (.cells cs.toArray 27)) W.heap.size 0 64 = cs := by
  have hr : (W.alloc (.cells cs.toArray 27)).rangeAt W.heap.size 0 cs := fun j v hv => by rw [Nat.zero_add]; exact (Blk.new W 27 cs).cell hv
  exact ⟨hasRow_of hr hl, rowAt_of hr hl⟩

set_option maxRecDepth 100000 in
set_option maxHeartbeats 2000000 in
theorem held_any (L : DL) (D : DD) (w : World) (h : DkAt w L D) (hl : Live D) (hop : D.ops < 900000000000) : Calls Try.prog 20 #[L.ptr] w (HeldP L D w) := by
  have HL := Lib.hid (len_any L D w h)
  have HLT := Lib.hid h.lt
  have HV := Lib.hid hl
  have n2 := h.n2
  have hlB := h.obj.lt
  have H0 : Hid (DkAt w L { D with ops := D.ops + (0 : Nat) }) := Lib.hid (by simpa using h)
  have HHL : Hid (∀ i, i < D.n → (D.holds i).length = 64) := Lib.hid fun i hi => holds_len h hi
  obtain ⟨i0, z0, hi1, hz0, hzc, hz1, hz2⟩ := info27
  have hzs : z0.cells.size = 64 := by rw [hzc]; simp [bk_len, zb_len]
  have HN : Hid (w.ownsRow w.heap.size 27 64 (.slice none 0 0) 0 (flat D.holds 0)) := Lib.hid (World.ownsRow_nil _ _ _ _)
  clear h hl hzc
  obtain ⟨pv, hpv⟩ : ∃ pv, pv = L.ptr := ⟨_, rfl⟩
  rw [← hpv] at HL ⊢
  have HP := Lib.hid hpv
  clear hpv
  go_enter Try.func20, Try.ntmps20
  go_wp2_with fail
  refine HL.out.mono ?_
  rintro e w' ⟨rfl, rfl⟩
  go_wp2_with fail
  go_loopw [3, 9] (fun v i wr => ∃ t : Nat, t ≤ D.n ∧ i = .int .i64 t ∧ wr.ownsRow w.heap.size 27 64 v t (flat D.holds t) ∧ DkAt wr L { D with ops := D.ops + t } ∧ Keeps (fun k => k = L.B) w wr) (fun _ i _ => D.n - (intOf i).toNat)
  case atStart => exact ⟨0, Nat.zero_le _, rfl, HN.out, H0.out, Keeps.refl _ _⟩
  case round =>
    obtain ⟨t, ht, rfl, hown, hd, hk⟩ := hrel
    have hwr := hk.size
    by_cases hlt : t < D.n
    · have hR := live_read (D := { D with ops := D.ops + (t : Int) }) ⟨HV.out.dead, HV.out.fails⟩ (i := t) hlt
      have HR := Lib.hid (read_any L _ wr hd (by show D.ops + (t : Int) < _; omega) (t : Int))
      rw [hR] at HR
      have hh : DD.holds { D with ops := D.ops + (t : Int) } t = D.holds t := rfl
      rw [hh] at HR
      have HOW := Lib.hid hown
      have HK := Lib.hid hk
      have hlt' : (t : Int) < (D.n : Int) := by omega
      rw [← HP.out] at HR
      obtain ⟨va, vc, rfl, _⟩ := own_slice hown
      clear hR hown hd hk hh
      go_wp2_with fail
      refine HR.out.mono ?_
      rintro e W ⟨rfl, hd2, hk2⟩
      obtain ⟨cs, hcs⟩ : ∃ cs, cs = bk (D.holds t) := ⟨_, rfl⟩
      rw [← hcs]
      have hcl : cs.length = 64 := by rw [hcs, bk_len]; exact HHL.out t hlt
      have hone : oneAll cs.toArray = true := by rw [hcs]; exact all_oneCell_toArray bk_one
      have hzl : (bk zb).length = 64 := by rw [bk_len, zb_len]
      obtain ⟨hg1, hg2⟩ := held_new (W := W) hcl
      have HCS := Lib.hid hcs
      have HD2 := Lib.hid hd2
      have HK2 := Lib.hid hk2
      have hW := hk2.size
      have hnew : ∀ j u, cs[j]? = some u → ((W.alloc (.cells cs.toArray 27)).alloc (.cells cs.toArray 27)).cell? ((⟨W.heap.size + 1, 0, none⟩ : Addr).add j) = some u := by
        intro j u hu
        have hb := Blk.new (W.alloc (.cells cs.toArray 27)) 27 cs
        rw [World.size_alloc] at hb
        rw [add0]
        exact hb.cell hu
      have HNW := Lib.hid hnew
      have hws : w.heap.size ≤ W.heap.size := by omega
      have hrow2 : ((W.alloc (.cells cs.toArray 27)).alloc (.cells cs.toArray 27)).ownsRow w.heap.size 27 64 (.slice va t vc) t (flat D.holds t) := by
        refine ((hk2.own HOW.out fun g hg e => ?_).alloc _).alloc _
        have := (own_heap HOW.out hg).1
        have e' : g = L.B := e
        omega
      have HRW := Lib.hid hrow2
      have h1' : ∀ u ∈ cs, u.oneCell' = true := by rw [hcs]; exact bk_one
      have HONE := Lib.hid h1'
      have HQ : Hid (Keeps (fun _ => False) W ((W.alloc (.cells cs.toArray 27)).alloc (.cells cs.toArray 27))) := Lib.hid (((Keeps.refl _ _).alloc _).alloc _)
      clear hd2 hk2 hcs hnew hrow2 h1'
      go_wp2_with (at_builtin; refine wpList_append_own _ rfl _ _ 35 rfl w.heap.size 27 i0 z0 64 64 Try.underlying35 hi1 hz0 hz1 hz2 hzs (by decide) _ _ _ rfl HRW.out ⟨W.heap.size + 1, 0, none⟩ 1 1 cs rfl (by omega) HNW.out HONE.out (by unfold maxLen; omega) (by omega) (by simp; omega) ?_)
      intro v' w3 hown' hgrow _
      have hk3 : Keeps (fun k => w.heap.size ≤ k) ((W.alloc (.cells cs.toArray 27)).alloc (.cells cs.toArray 27)) w3 := (Keeps.of_grown hgrow).mono fun k _ e => (own_heap HRW.out e).1
      have hd3 : DkAt w3 L { D with ops := D.ops + (t + 1 : Nat) } := by
        have h0 := (HD2.out.quiet HQ.out).keep (Keeps.of_grown hgrow) fun k hkk e => ?_
        · rw [show ((t + 1 : Nat) : Int) = (t : Int) + 1 by omega, ← Int.add_assoc]
          exact h0
        · have h1 := HLT.out k hkk
          have h2 := (own_heap HRW.out e).1
          omega
      have HO3 : Hid (w3.ownsRow w.heap.size 27 64 v' (t + 1) (flat D.holds (t + 1))) := Lib.hid (by
        show w3.ownsRow w.heap.size 27 64 v' (t + 1) (flat D.holds t ++ bk (D.holds t))
        rw [← HCS.out]
        exact hown')
      have HD3 := Lib.hid hd3
      have HK3 : Hid (Keeps (fun k => k = L.B) w w3) := Lib.hid (by
        refine ⟨by rw [hk3.os, HQ.out.os, HK2.out.os, HK.out.os], by rw [hk3.tape, HQ.out.tape, HK2.out.tape, HK.out.tape], by rw [hk3.output, HQ.out.output, HK2.out.output, HK.out.output], by have := hk3.size; have := HQ.out.size; omega, fun k hk hn => ?_⟩
        rw [hk3.block k (by have := HQ.out.size; omega) (by show ¬ (_ ≤ k); omega), HQ.out.block k (by omega) id, HK2.out.block k (by omega) hn, HK.out.block k hk hn])
      clear hown' hgrow hd3 hk3
      go_wp2_with fail
      go_roundw
      case rel => exact ⟨t + 1, by omega, by go_num, HO3.out, HD3.out, HK3.out⟩
      case measure => simp [intOf]; omega
    · obtain rfl : t = D.n := by omega
      have HOW := Lib.hid hown
      have HK := Lib.hid hk
      have HD := Lib.hid hd
      clear hown hd hk
      go_wp2_with fail
      go_ret
      exact ⟨_, rfl, HOW.out, HD.out, HK.out⟩
end Go.Proofs.Ytjiammhmeliogaa
