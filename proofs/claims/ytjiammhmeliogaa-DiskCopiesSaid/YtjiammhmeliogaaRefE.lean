/- The document's disk: Sync. -/
import Derived.Test.YtjiammhmeliogaaRefD
namespace Go.Proofs.Ytjiammhmeliogaa
open Go.RowKit
set_option linter.unusedVariables false
set_option linter.unusedSimpArgs false

/-- A step of the document's disk that answers an Errno. -/
def RStep (sv pv : Value) (R' : RD) (c : Int) (w : World) (e : Ending) (w' : World) : Prop := ∃ sv' pv', e = .returned (.tuple #[rv sv' pv' R', .int .i64 c]) ∧ RdAt w' sv' pv' R' ∧ Old w sv sv' ∧ Old w pv pv' ∧ Keeps (fun _ => False) w w'

theorem one_laid {w X : World} {B : Nat} {zs ys : List Value} (h1 : Blk X B 43 ys) (hz : zs.length = ys.length) (hk : Keeps (fun k => w.heap.size ≤ k) w X) (hB : w.heap.size ≤ B) : Blk (X.setCells B 0 zs) B 43 zs ∧ Keeps (fun _ => False) w (X.setCells B 0 zs) :=
  ⟨blk_overT h1 hz, Keeps.from (hk.trans ((setCells_keeps B zs 0 X).mono fun k _ e => by rw [show k = B from e]; exact hB))⟩
/-- A row below is kept. -/
theorem RdAt.low {w w' : World} {sv pv : Value} {R : RD} {n0 : Nat} (h : RdAt w sv pv R) {S : Nat → Prop} (hk : Keeps S w w') (hS : ∀ k, S k → n0 ≤ k) (h1 : ∀ g, sv.ownBlock = some g → g < n0) (h2 : ∀ g, pv.ownBlock = some g → g < n0) : RdAt w' sv pv R :=
  h.keep hk (fun g hg e => absurd (hS g e) (Nat.not_le.2 (h1 g hg))) (fun g hg e => absurd (hS g e) (Nat.not_le.2 (h2 g hg)))

attribute [local go_sem ↓] exec_new101 exec_load101 exec_load27 exec_store27 exec_new27 exec_alloc27 exec_build27 zeroValue27 exec_load43 exec_store43
attribute [local go_sem] mayRow_drew padr_some rowAt_drew hasRow_drew rowAt_alloc hasRow_alloc zc101_size run_cells27 one_obj

/-- Sync. -/
def RD.sync (R : RD) : Int × RD := if (R.asked 0).1 ≠ 0 then R.asked 0 else if (R.asked 0).2.done.1 = false then (7, (R.asked 0).2.done.2) else (0, (R.asked 0).2.done.2.live (fun _ => true))
theorem live_all (R : RD) : R.live (liveOf (List.replicate R.p.length true)) = R.live (fun _ => true) := by
  unfold RD.live
  rw [setl_live (l1 := liveOf (List.replicate R.p.length true)) (l2 := fun _ => true)]
  intro t _ h
  unfold liveOf
  rw [List.getD_eq_getElem?_getD, List.getElem?_replicate, if_pos (by omega)]
  rfl

set_option maxRecDepth 100000 in
set_option maxHeartbeats 4000000 in
theorem rsync_any (sv pv : Value) (R : RD) (w : World) (h : RdAt w sv pv R) (hop : R.ops < 1000000000000) : Calls Try.prog 53 #[rv sv pv R] w (RStep sv pv R.sync.2 R.sync.1 w) := by
  obtain ⟨sa, sc, rfl, _, hmx⟩ := own_slice h.safe
  obtain ⟨qa, qc, rfl, _, hqm⟩ := own_slice h.pend
  have HS := Lib.hid (asked_same R 0)
  obtain ⟨W0, hW0⟩ : ∃ W0, W0 = (w.alloc (.cells (([.slice sa R.n sc, .slice qa R.p.length qc, .bool R.dead, .int .i64 R.left, .int .i64 R.fails, .int .i64 R.ops] : List Value)).toArray 43)).alloc (.cells z43.toArray 43) := ⟨_, rfl⟩
  obtain ⟨bA, bZ, k0, s0⟩ := start43 w _ hW0
  have HAT := Lib.hid (asked_at h 0)
  have HLT : Hid ((∀ g, (Value.slice sa R.n sc).ownBlock = some g → g < w.heap.size) ∧ ∀ g, (Value.slice qa R.p.length qc).ownBlock = some g → g < w.heap.size) := Lib.hid ⟨fun g hg => (own_heap h.safe hg).2.1, fun g hg => (own_heap h.pend hg).2.1⟩
  have HASK := Lib.hid (asked_any _ _ R W0 (h.quiet k0) 0)
  obtain ⟨c, hc⟩ : ∃ c, c = (R.asked 0).1 := ⟨_, rfl⟩
  obtain ⟨R1, hR1⟩ : ∃ R1, R1 = (R.asked 0).2 := ⟨_, rfl⟩
  rw [← hc, ← hR1] at HASK
  rw [← hR1] at HS HAT
  have HE : Hid (R.sync = if c ≠ 0 then (c, R1) else if R1.done.1 = false then (7, R1.done.2) else (0, R1.done.2.live (fun _ => true))) := Lib.hid (by
    unfold RD.sync
    rw [hc, hR1])
  obtain ⟨ah, ar, am⟩ := blk_row bA (n := 6) rfl
  have HA := Lib.hid bA
  have HZ := Lib.hid bZ
  have HK0 := Lib.hid k0
  have hs1 : w.heap.size < W0.heap.size := by omega
  have hs0 : w.heap.size + 1 < W0.heap.size := by omega
  have HW0 : Hid (W0 = (w.alloc (.cells #[.slice sa R.n sc, .slice qa R.p.length qc, .bool R.dead, .int .i64 R.left, .int .i64 R.fails, .int .i64 R.ops] 43)).alloc (.cells #[.slice none 0 0, .slice none 0 0, .bool false, .int .i64 0, .int .i64 0, .int .i64 0] 43)) := Lib.hid hW0
  have HQ := Lib.hid (show (rv (.slice sa R.n sc) (.slice qa R.p.length qc) R1) = .agg #[.slice sa R.n sc, .slice qa R.p.length qc, .bool R1.dead, .int .i64 R1.left, .int .i64 R1.fails, .int .i64 R1.ops] from rfl)
  clear h bA bZ k0 s0 hW0 hc hR1
  unfold rv at HASK
  unfold rv
  go_enter Try.func53, Try.ntmps53
  go_upto_region 1 with (fail)
  rw [← HW0.out]
  go_wp2_with fail
  refine HASK.out.mono ?_
  rintro e w1 ⟨rfl, hk1⟩
  rw [HQ.out]
  have bA := hk1.blk HA.out id
  have bZ := hk1.blk HZ.out id
  clear ah ar am
  obtain ⟨ah, ar, am⟩ := blk_row bA (n := 6) rfl
  have HK1 := Lib.hid hk1
  have HZ1 := Lib.hid bZ
  have HA1 := Lib.hid bA
  clear hk1 bA bZ
  go_upto_region 2 with (fail)
  obtain ⟨W2, hW2⟩ : ∃ W2, W2 = w1.setCells w.heap.size 0 [.slice sa R.n sc, .slice qa R.p.length qc, .bool R1.dead, .int .i64 R1.left, .int .i64 R1.fails, .int .i64 R1.ops] := ⟨_, rfl⟩
  have hk2 : Keeps (fun k => k = w.heap.size) w1 W2 := by rw [hW2]; exact setCells_keeps _ _ _ _
  have bA : Blk W2 w.heap.size 43 [.slice sa R.n sc, .slice qa R.p.length qc, .bool R1.dead, .int .i64 R1.left, .int .i64 R1.fails, .int .i64 R1.ops] := by rw [hW2]; exact blk_overT HA1.out rfl
  have bZ := hk2.blk HZ1.out (by omega)
  rw [← hW2]
  clear hW2 ah ar am HA1 HZ1
  obtain ⟨ah, ar, am⟩ := blk_row bA (n := 6) rfl
  obtain ⟨zh, zr, zm⟩ := blk_row bZ (n := 6) rfl
  have HA2 := Lib.hid bA
  have HZ2 := Lib.hid bZ
  have HK2 : Hid (Keeps (fun k => w.heap.size ≤ k) w W2) := Lib.hid (((HK0.out.trans HK1.out).mono fun _ _ h => h.elim).trans (hk2.mono fun k _ e => by rw [show k = w.heap.size from e]; exact Nat.le_refl _))
  clear bA bZ hk2
  by_cases hc : c = 0
  · subst hc
    have hR1 := HAT.out.low HK2.out (fun _ h => h) HLT.out.1 HLT.out.2
    have hops' : R1.ops < 1000000000000 := by rw [HS.out.2.2.2.2.2]; exact hop
    have HDN := Lib.hid (rdone_any _ _ R1 W2 hR1 hops')
    have HDA := Lib.hid (done_at HAT.out hops')
    have HDS := Lib.hid (done_same R1)
    obtain ⟨d, hd⟩ : ∃ d, d = R1.done.1 := ⟨_, rfl⟩
    obtain ⟨R2, hR2⟩ : ∃ R2, R2 = R1.done.2 := ⟨_, rfl⟩
    rw [← hd, ← hR2] at HDN HE
    rw [← hR2] at HDA HDS
    have HQ2 := Lib.hid (show (rv (.slice sa R.n sc) (.slice qa R.p.length qc) R2) = .agg #[.slice sa R.n sc, .slice qa R.p.length qc, .bool R2.dead, .int .i64 R2.left, .int .i64 R2.fails, .int .i64 R2.ops] from rfl)
    have HN2 : Hid (R2.n = R.n ∧ R2.p.length = R.p.length) := Lib.hid ⟨by rw [HDS.out.1, HS.out.1], by rw [HDS.out.2.2, HS.out.2.2.1]⟩
    clear hR1 hd hR2
    unfold rv at HDN
    go_wp2_with fail
    refine HDN.out.mono ?_
    rintro e w3 ⟨rfl, hk3⟩
    rw [HQ2.out]
    have bA := hk3.blk HA2.out id
    have bZ := hk3.blk HZ2.out id
    have hs3 := hk3.size
    have hb2 := HA2.out.lt
    have hz2 := HZ2.out.lt
    have HK3 := Lib.hid hk3
    have HA1 := Lib.hid bA
    have HZ1 := Lib.hid bZ
    clear ah ar am zh zr zm
    obtain ⟨ah, ar, am⟩ := blk_row bA (n := 6) rfl
    clear hk3 bA bZ
    go_upto_region 5 with (fail)
    obtain ⟨W4, hW4⟩ : ∃ W4, W4 = w3.setCells w.heap.size 0 [.slice sa R.n sc, .slice qa R.p.length qc, .bool R2.dead, .int .i64 R2.left, .int .i64 R2.fails, .int .i64 R2.ops] := ⟨_, rfl⟩
    have hk2 : Keeps (fun k => k = w.heap.size) w3 W4 := by rw [hW4]; exact setCells_keeps _ _ _ _
    have bA : Blk W4 w.heap.size 43 [.slice sa R.n sc, .slice qa R.p.length qc, .bool R2.dead, .int .i64 R2.left, .int .i64 R2.fails, .int .i64 R2.ops] := by rw [hW4]; exact blk_overT HA1.out rfl
    have bZ := hk2.blk HZ1.out (by omega)
    rw [← hW4]
    clear hW4 ah ar am HA1 HZ1
    obtain ⟨ah, ar, am⟩ := blk_row bA (n := 6) rfl
    obtain ⟨zh, zr, zm⟩ := blk_row bZ (n := 6) rfl
    have HA4 := Lib.hid bA
    have HZ4 := Lib.hid bZ
    have hz4 := bZ.lt
    have hb4 := bA.lt
    have HK4 : Hid (Keeps (fun k => w.heap.size ≤ k) w W4) := Lib.hid ((HK2.out.trans (HK3.out.mono fun _ _ h => h.elim)).trans (hk2.mono fun k _ e => by rw [show k = w.heap.size from e]; exact Nat.le_refl _))
    clear bA bZ hk2
    have HR2 : Hid (∀ X, Keeps (fun _ => False) W4 X → RdAt X (.slice sa R.n sc) (.slice qa R.p.length qc) R2) := Lib.hid fun X hX => (HDA.out.low HK4.out (fun _ h => h) HLT.out.1 HLT.out.2).quiet hX
    cases d
    · go_wp2_with fail
      obtain ⟨b1, b3⟩ := one_laid (w := w) (X := W4) (zs := [.slice sa R.n sc, .slice qa R.p.length qc, .bool R2.dead, .int .i64 R2.left, .int .i64 R2.fails, .int .i64 R2.ops]) HZ4.out rfl HK4.out (by omega)
      refine bodyPost_ret (v := .tuple #[.agg #[.slice sa R.n sc, .slice qa R.p.length qc, .bool R2.dead, .int .i64 R2.left, .int .i64 R2.fails, .int .i64 R2.ops], .int .i64 7]) (result43_38 rfl rfl rfl rfl b1) rfl ?_
      rw [HE.out, if_neg (by simp), if_pos trivial]
      refine ⟨_, _, rfl, ?_, Old.refl _ _, Old.refl _ _, b3⟩
      exact HDA.out.low b3 (fun _ h => h.elim) HLT.out.1 HLT.out.2
    · have d5 := HA4.out.cell (i := 0) rfl
      have q0 := HA4.out.cell (i := 0) rfl
      have q1 := HA4.out.cell (i := 1) rfl
      have q2 := HA4.out.cell (i := 2) rfl
      have q3 := HA4.out.cell (i := 3) rfl
      have q4 := HA4.out.cell (i := 4) rfl
      have q5 := HA4.out.cell (i := 5) rfl
      clear d5
      go_wp2_with fail
      go_region_with (first
        | (go_at_call 84; refine (rall_any _ _ R2 _ (HR2.out _ (by first | exact Keeps.refl _ _ | exact (Keeps.refl _ _).drew))).mono ?_; rintro e w5 ⟨g5, rfl, hb5, hg5, hk5⟩; have hk6 : Keeps (fun _ => False) W4 w5 := (by first | exact hk5 | exact (Keeps.refl (fun _ => False) W4).drew.trans hk5); have HK6 := Lib.hid hk6; have bA := hk6.blk HA4.out id; have j0 := bA.cell (i := 0) rfl; have j1 := bA.cell (i := 1) rfl; have j2 := bA.cell (i := 2) rfl; have j3 := bA.cell (i := 3) rfl; have j4 := bA.cell (i := 4) rfl; have j5 := bA.cell (i := 5) rfl;  have HB5 := Lib.hid hb5; clear hb5 hg5 hk5 hk6 bA)
        | (go_at_call 83; refine ((rlive_any _ _ R2 _ (HR2.out _ (by first | exact HK6.out | exact HK6.out.drew)) (some ⟨g5, 0, none⟩) R2.p.length R2.p.length (List.replicate R2.p.length true) (by first | exact yes_row HB5.out | exact yes_row HB5.out.drew) (by have := (HR2.out _ (Keeps.refl _ _)).pn; omega)).mono fun _ _ => LiveP.form).mono ?_; rintro e w6 ⟨ta, tc, rfl, hR6, ho6, hk7⟩; have hk8 : Keeps (fun _ => False) W4 w6 := (by first | exact HK6.out.trans hk7 | exact HK6.out.drew.trans hk7); have HK8 := Lib.hid hk8; have HO6 : Hid (∀ g, (Value.slice ta (R2.live (liveOf (List.replicate R2.p.length true))).n tc).ownBlock = some g → w.heap.size ≤ g) := Lib.hid (fun g hg => by have h1 := ho6 g hg; have h2 := HK6.out.size; have h3 := HK4.out.size; first | omega | (simp at h1; omega)); have HR6 := Lib.hid hR6; have bZ := hk8.blk HZ4.out id; have y0 := bZ.cell (i := 0) rfl; have y1 := bZ.cell (i := 1) rfl; have y2 := bZ.cell (i := 2) rfl; have y3 := bZ.cell (i := 3) rfl; have y4 := bZ.cell (i := 4) rfl; have y5 := bZ.cell (i := 5) rfl; have f0 := bZ.free 0; have f1 := bZ.free 1; have f2 := bZ.free 2; have f3 := bZ.free 3; have f4 := bZ.free 4; have f5 := bZ.free 5;  have HZ8 := Lib.hid bZ; clear hR6 ho6 hk7 hk8 bZ))
      all_goals
        go_wp2_with fail
        have hbF := six43 HZ8.out rfl (.slice ta R2.n tc) (.slice none 0 0) (.bool R2.dead) (.int .i64 R2.left) (.int .i64 R2.fails) (.int .i64 R2.ops)
        have hkF := six_keeps w6 (w.heap.size + 1) (.slice ta R2.n tc) (.slice none 0 0) (.bool R2.dead) (.int .i64 R2.left) (.int .i64 R2.fails) (.int .i64 R2.ops)
        refine bodyPost_ret (v := .tuple #[.agg #[.slice ta R2.n tc, .slice none 0 0, .bool R2.dead, .int .i64 R2.left, .int .i64 R2.fails, .int .i64 R2.ops], .int .i64 0]) (result43_38 rfl rfl rfl rfl hbF) rfl ?_
        rw [HE.out, if_neg (by simp), if_neg (by simp), ← live_all R2]
        refine ⟨_, .slice none 0 0, rfl, ?_, fun g hg => .inr (HO6.out g hg), (fun g hg => by cases hg), Keeps.from ((HK4.out.trans (HK8.out.mono fun _ _ h => h.elim)).trans (hkF.mono fun k _ e => by rw [show k = w.heap.size + 1 from e]; omega))⟩
        exact HR6.out.keep hkF (fun g hg e => own_ne_blk HZ8.out HR6.out.safe (by decide) (by rw [← show g = w.heap.size + 1 from e]; exact hg)) (fun g hg => by cases hg)
  · have hcc : (c != 0) = true := by rw [bne_iff_ne]; exact hc
    have HN := Lib.hid hc
    clear hc
    go_wp2_with fail
    obtain ⟨b1, b3⟩ := one_laid (w := w) (X := W2) (zs := [.slice sa R.n sc, .slice qa R.p.length qc, .bool R1.dead, .int .i64 R1.left, .int .i64 R1.fails, .int .i64 R1.ops]) HZ2.out rfl HK2.out (by omega)
    refine bodyPost_ret (v := .tuple #[.agg #[.slice sa R.n sc, .slice qa R.p.length qc, .bool R1.dead, .int .i64 R1.left, .int .i64 R1.fails, .int .i64 R1.ops], .int .i64 c]) (result43_38 rfl rfl rfl rfl b1) rfl ?_
    rw [HE.out, if_pos HN.out]
    exact ⟨_, _, rfl, HAT.out.low b3 (fun _ h => h.elim) HLT.out.1 HLT.out.2, Old.refl _ _, Old.refl _ _, b3⟩
end Go.Proofs.Ytjiammhmeliogaa
