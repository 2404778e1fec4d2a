/- super: Set. -/
import Derived.Test.YtjiammhmeliogaaKnow
import Derived.Deep.RegionHeld3
import Derived.BigQuiet
namespace Go.Proofs.Ytjiammhmeliogaa
open Go.RowKit
set_option linter.unusedVariables false
set_option linter.unusedSimpArgs false
attribute [local go_sem ↓] exec_load27 exec_store27 exec_new27 exec_alloc27 exec_build27 zeroValue27
attribute [local go_sem] padr_some rowAt_drew hasRow_drew mayRow_drew run_cells27

def SetP (w0 : World) (R : Nat → Prop) (B S : Nat) (r : Int × DD × SX × Int) (w : World) (e : Ending) (w' : World) : Prop :=
  e = .returned (.int .i64 r.1) ∧ Dr w0 w' R B r.2.1 ∧ Blk w' S 114 (stp r.2.2.1 r.2.2.2 B) ∧ Keeps (fun k => ¬ R k ∨ k = S) w w'

section
variable {D : DD} {x y : SX} {t : Int}
theorem setS_bad (h : y.mayB = false ∨ y.sg ≠ x.sg ∨ y.sc ≠ x.sc) : setS D x t y = (2, D, x, t) := if_pos h
theorem setS_low (h1 : ¬ (y.mayB = false ∨ y.sg ≠ x.sg ∨ y.sc ≠ x.sc)) (h2 : y.lowB x = true) : setS D x t y = (171, D, x, t) := by
  unfold setS
  rw [if_neg h1, if_pos h2]
theorem setS_w (h1 : ¬ (y.mayB = false ∨ y.sg ≠ x.sg ∨ y.sc ≠ x.sc)) (h2 : y.lowB x = false) {r : Int × DD} (hr : r = D.write ((t + 1) % 2) (sup y (t + 1))) (h3 : r.1 ≠ 0) : setS D x t y = (r.1, r.2, x, t) := by
  unfold setS
  rw [if_neg h1, if_neg (by rw [h2]; simp), ← hr, if_pos h3]
theorem setS_s (h1 : ¬ (y.mayB = false ∨ y.sg ≠ x.sg ∨ y.sc ≠ x.sc)) (h2 : y.lowB x = false) {r q : Int × DD} (hr : r = D.write ((t + 1) % 2) (sup y (t + 1))) (h3 : r.1 = 0) (hq : q = r.2.sync) (h4 : q.1 ≠ 0) : setS D x t y = (q.1, q.2, x, t) := by
  unfold setS
  rw [if_neg h1, if_neg (by rw [h2]; simp), ← hr, if_neg (fun h => h h3), ← hq, if_pos h4]
theorem setS_ok (h1 : ¬ (y.mayB = false ∨ y.sg ≠ x.sg ∨ y.sc ≠ x.sc)) (h2 : y.lowB x = false) {r q : Int × DD} (hr : r = D.write ((t + 1) % 2) (sup y (t + 1))) (h3 : r.1 = 0) (hq : q = r.2.sync) (h4 : q.1 = 0) : setS D x t y = (0, q.2, y, t + 1) := by
  unfold setS
  rw [if_neg h1, if_neg (by rw [h2]; simp), ← hr, if_neg (fun h => h h3), ← hq, if_neg (fun h => h h4)]
end
/-- Up to the superblock. -/
def SetF (S B : Nat) (y : SX) (c : Int) (Z : List Int) (W0 : World) (v c1 : Value) (wx : World) : Prop :=
  ∃ V, W0.heap.size ≤ V ∧ v = .pointer (some ⟨V, 0, none⟩) ∧ c1 = .int .i64 c ∧ Blk wx V 27 (bk Z) ∧ Keeps (fun _ => False) W0 wx
/-- A row stored over the whole of a block of its own. -/
theorem blk_over27 {w : World} {g t : Nat} {old cs : List Value} (h : Blk w g t old) (hl : cs.length = old.length) : Blk (w.setCells g 0 cs) g t cs := by
  obtain ⟨cur', h1, h2⟩ := setCells_heap g t cs 0 w old.toArray h (by simp; omega)
  unfold Blk
  rw [h1]
  congr 2
  apply Array.ext'
  rw [h2]
  simp [hl]
theorem set_fin {w5 : World} {S B : Nat} {x : SX} {t : Int} (hb : Blk w5 S 114 (stp x t B)) (y : SX) (t' : Int) :
    Blk (((((((w5.setCell ⟨S, 0, none⟩ (.int .i64 y.sg)).setCell ⟨S, 1, none⟩ (.int .i64 y.sc)).setCell ⟨S, 2, none⟩ (.int .u64 y.ge)).setCell ⟨S, 3, none⟩ (.int .u64 y.re)).setCell ⟨S, 4, none⟩ (.int .u64 y.rs)).setCell ⟨S, 5, none⟩ (.int .u64 y.fl)).setCell ⟨S, 6, none⟩ (.int .u64 t')) S 114 (stp y t' B) ∧
    Keeps (fun k => k = S) w5 (((((((w5.setCell ⟨S, 0, none⟩ (.int .i64 y.sg)).setCell ⟨S, 1, none⟩ (.int .i64 y.sc)).setCell ⟨S, 2, none⟩ (.int .u64 y.ge)).setCell ⟨S, 3, none⟩ (.int .u64 y.re)).setCell ⟨S, 4, none⟩ (.int .u64 y.rs)).setCell ⟨S, 5, none⟩ (.int .u64 y.fl)).setCell ⟨S, 6, none⟩ (.int .u64 t')) :=
  ⟨((((((hb.store 0 _).store 1 _).store 2 _).store 3 _).store 4 _).store 5 _).store 6 _,
   (((((((Keeps.refl (fun k => k = S) w5).store (p := ⟨S, 0, none⟩) (.inl rfl) _).store (p := ⟨S, 1, none⟩) (.inl rfl) _).store (p := ⟨S, 2, none⟩) (.inl rfl) _).store (p := ⟨S, 3, none⟩) (.inl rfl) _).store (p := ⟨S, 4, none⟩) (.inl rfl) _).store (p := ⟨S, 5, none⟩) (.inl rfl) _).store (p := ⟨S, 6, none⟩) (.inl rfl) _⟩
theorem zb27 : (bk zb).length = 64 := by rw [bk_len, zb_len]
theorem setf_first {S B : Nat} {y : SX} {c : Int} {Z : List Int} {W0 wx : World} (hZ : Z.length = 64) (hk : Keeps (fun _ => False) W0.drew wx) : SetF S B y c Z W0 (.pointer (some ⟨wx.heap.size, 0, none⟩)) (.int .i64 c) ((wx.alloc (.cells (bk zb).toArray 27)).setCells wx.heap.size 0 (bk Z)) := by
  have hk0 : Keeps (fun _ => False) W0 wx := (Keeps.refl (fun _ => False) W0).drew.trans hk
  refine ⟨wx.heap.size, hk0.size, rfl, rfl, blk_over27 (Blk.new wx 27 (bk zb)) (by rw [zb27, bk_len, hZ]), enc_fin (hk0.alloc _) hk0.size⟩
theorem setf_last {S B : Nat} {y : SX} {c : Int} {Z : List Int} {W0 wx : World} (hZ : Z.length = 64) (hk : Keeps (fun _ => False) (W0.alloc (.cells (bk zb).toArray 27)).drew wx) : SetF S B y c Z W0 (.pointer (some ⟨W0.heap.size, 0, none⟩)) (.int .i64 c) (wx.setCells W0.heap.size 0 (bk Z)) := by
  have hk0 : Keeps (fun _ => False) W0 wx := ((Keeps.refl (fun _ => False) W0).alloc _).drew.trans hk
  refine ⟨W0.heap.size, Nat.le_refl _, rfl, rfl, blk_over27 (hk.blk (Blk.new W0 27 (bk zb)).drew id) (by rw [zb27, bk_len, hZ]), enc_fin hk0 (Nat.le_refl _)⟩


set_option maxRecDepth 100000 in
set_option maxHeartbeats 2000000 in
theorem set_any {w0 w : World} {R : Nat → Prop} {B S : Nat} {D : DD} (h : Dr w0 w R B D) (hS : R S) (x : SX) (t : Int) (hb : Blk w S 114 (stp x t B)) (hx : x.Wf) (t0 : 0 ≤ t) (t1 : t ≤ 1000000) {m : Nat} (hf : Fine (m + 2) D) (y : SX) (hy : y.Wf) :
    Calls Try.prog 41 #[.pointer (some ⟨S, 0, none⟩), y.val] w (SetP w0 R B S (setS D x t y) w) := by
  have hwr : IntKind.u64.wrap (t + 1) = t + 1 := IntWalk.u64_in _ (by omega)
  have hk0 : Keeps (fun _ => False) w (w.alloc (.cells y.cells.toArray 71)) := (Keeps.refl _ _).alloc _
  have b0 := Blk.new w 71 y.cells
  have HE := Lib.hid (fun W => encode_any y hy (t + 1) ⟨by omega, by omega⟩ W)
  unfold EncP at HE
  obtain ⟨Z, hZ⟩ : ∃ Z : List Int, Z = if y.mayB then sup y (t + 1) else zb := ⟨_, rfl⟩
  obtain ⟨c, hc⟩ : ∃ c : Int, c = if y.mayB then 0 else 2 := ⟨_, rfl⟩
  have hZl : Z.length = 64 := by rw [hZ]; split <;> first | exact sup_len _ _ | exact zb_len
  rw [← hZ, ← hc, show t + 1 = IntKind.u64.wrap (t + 1) from hwr.symm] at HE
  obtain ⟨W0, hW0⟩ : ∃ W0, W0 = w.alloc (.cells y.cells.toArray 71) := ⟨_, rfl⟩
  rw [← hW0] at b0 hk0
  have hs0 := hk0.blk hb id
  have HW0 := Lib.hid hW0
  have HB0 := Lib.hid b0
  have HS0 := Lib.hid hs0
  have HK0 := Lib.hid hk0
  have HD := Lib.hid (h.quiet hk0)
  have HH := Lib.hid h
  have HZ := Lib.hid hZ
  have HC := Lib.hid hc
  have HWR := Lib.hid hwr
  have hl0 := b0.lt
  have hl1 := hs0.lt
  have hwl : w.heap.size < W0.heap.size := b0.lt
  obtain ⟨ysg, ysc, yge, yre, yrs, yfl⟩ := y
  obtain ⟨xsg, xsc, xge, xre, xrs, xfl⟩ := x
  have HCL : Hid (∀ W, Keeps (fun _ => False) W0 W → (W.cell? ⟨w.heap.size, 0, none⟩ = some (.int .i64 ysg) ∧ W.cell? ⟨w.heap.size, 1, none⟩ = some (.int .i64 ysc) ∧ W.cell? ⟨w.heap.size, 2, none⟩ = some (.int .u64 yge) ∧ W.cell? ⟨w.heap.size, 3, none⟩ = some (.int .u64 yre) ∧ W.cell? ⟨w.heap.size, 4, none⟩ = some (.int .u64 yrs) ∧ W.cell? ⟨w.heap.size, 5, none⟩ = some (.int .u64 yfl)) ∧ W.cell? ⟨S, 6, none⟩ = some (.int .u64 t)) := Lib.hid (fun W hk => by
    have h1 := hk.blk HB0.out id
    have h2 := hk.blk HS0.out id
    exact ⟨⟨h1.cell (i := 0) rfl, h1.cell (i := 1) rfl, h1.cell (i := 2) rfl, h1.cell (i := 3) rfl, h1.cell (i := 4) rfl, h1.cell (i := 5) rfl⟩, h2.cell (i := 6) rfl⟩)
  clear h hb hk0 b0 hs0 hW0 hc hwr hZ
  unfold SX.val SX.cells at *
  dsimp only at HE HW0 HB0
  go_enter Try.func41, Try.ntmps41
  go_upto_region 3 with fail
  rw [← HW0.out]
  go_cut [5, 6] (fun v c1 wx => SetF S B ⟨ysg, ysc, yge, yre, yrs, yfl⟩ c Z W0 v c1 wx)
  case first =>
    have hz64 : (bk zb).toArray.size = 64 := by simp [bk_len, zb_len]
    have hone : oneAll (bk Z).toArray = true := one_bk _
    have hzz : (bk Z).length = 64 := by rw [bk_len, hZl]
    obtain ⟨⟨x0, x1, x2, x3, x4, x5⟩, x6⟩ := HCL.out W0 (Keeps.refl _ _)
    go_region_with (first
      | (go_at_call 44; refine (HE.out _).mono ?_; rintro e wx ⟨rfl, hkx⟩; (first | (have hfin := setf_last (S := S) (B := B) (y := ⟨ysg, ysc, yge, yre, yrs, yfl⟩) (c := c) hZl hkx; have hm := (blkRow (hkx.blk (Blk.new W0 27 (bk zb)).drew id) (n := 64) zb27).2.2) | (have hfin := setf_first (S := S) (B := B) (y := ⟨ysg, ysc, yge, yre, yrs, yfl⟩) (c := c) hZl hkx; have hm := (blkRow (Blk.new wx 27 (bk zb)) (n := 64) zb27).2.2)); have HF := Lib.hid hfin; clear hfin hkx))
    all_goals
      go_wp2_with fail
      go_meet
      exact HF.out
  case rest =>
    obtain ⟨V, hV, rfl, rfl, hbV, hkV⟩ := hcut
    obtain ⟨w2, rfl⟩ : ∃ w2, w2 = wc := ⟨_, rfl⟩
    obtain ⟨⟨y0, y1, y2, y3, y4, y5⟩, s6⟩ := HCL.out w2 hkV
    have hs2 := hkV.blk HS0.out id
    have HBV := Lib.hid hbV
    have HS2 := Lib.hid hs2
    have HK2 := Lib.hid (HK0.out.trans hkV)
    have HY2 := Lib.hid (hkV.blk HB0.out id)
    have HDM : Hid (Dr w0 w2 (fun k => R k ∨ (w.heap.size ≤ k ∧ k < w2.heap.size)) B D) := Lib.hid (HH.out.more (HK0.out.trans hkV))
    have hw2l : W0.heap.size ≤ w2.heap.size := hkV.size
    have HD2 := Lib.hid (HD.out.quiet hkV)
    have hVl := hbV.lt
    have hVS : V ≠ S := fun e => by omega
    have hVw : V ≠ w.heap.size := fun e => by omega
    unfold stp stc DL.ptr at hs2
    have s0 := hs2.cell (i := 0) rfl
    have s1 := hs2.cell (i := 1) rfl
    have s2 := hs2.cell (i := 2) rfl
    have s3 := hs2.cell (i := 3) rfl
    have s4 := hs2.cell (i := 4) rfl
    have s5 := hs2.cell (i := 5) rfl
    have s7 := hs2.cell (i := 7) rfl
    clear hbV hkV hs2 hx
    have hmm : (SX.mayB ⟨ysg, ysc, yge, yre, yrs, yfl⟩) = true ∨ (SX.mayB ⟨ysg, ysc, yge, yre, yrs, yfl⟩) = false := by cases (SX.mayB ⟨ysg, ysc, yge, yre, yrs, yfl⟩) <;> simp
    have HFIN : Hid (∀ c, (c = 2 ∧ ((SX.mayB ⟨ysg, ysc, yge, yre, yrs, yfl⟩) = false ∨ ysg ≠ xsg ∨ ysc ≠ xsc)) ∨ (c = 171 ∧ ¬ ((SX.mayB ⟨ysg, ysc, yge, yre, yrs, yfl⟩) = false ∨ ysg ≠ xsg ∨ ysc ≠ xsc) ∧ (SX.lowB ⟨ysg, ysc, yge, yre, yrs, yfl⟩ ⟨xsg, xsc, xge, xre, xrs, xfl⟩) = true) → ∀ W, Keeps (fun _ => False) w2 W → SetP w0 R B S (setS D ⟨xsg, xsc, xge, xre, xrs, xfl⟩ t ⟨ysg, ysc, yge, yre, yrs, yfl⟩) w (.returned (.int .i64 c)) W) := Lib.hid (fun c hc W hk => by
      have hd := HD2.out.quiet hk
      have hb := hk.blk HS2.out id
      have hkk := (HK2.out.trans hk).mono (S' := fun k => ¬ R k ∨ k = S) fun _ _ h => h.elim
      rcases hc with ⟨rfl, h⟩ | ⟨rfl, h1, h2⟩
      · rw [setS_bad h]
        exact ⟨rfl, hd, hb, hkk⟩
      · rw [setS_low h1 h2]
        exact ⟨rfl, hd, hb, hkk⟩)
    go_upto_region 4 with fail
    rcases hmm with hmb | hmb
    · have hc0 : c = 0 := by rw [HC.out, hmb]; rfl
      subst hc0
      by_cases h1 : ysg = xsg
      · subst h1
        by_cases h2 : ysc = xsc
        · subst h2
          have hnb : ¬ ((SX.mayB ⟨ysg, ysc, yge, yre, yrs, yfl⟩) = false ∨ ysg ≠ ysg ∨ ysc ≠ ysc) := by rw [hmb]; simp
          have HNB := Lib.hid hnb
          have hzs : Z = sup ⟨ysg, ysc, yge, yre, yrs, yfl⟩ (t + 1) := by rw [HZ.out, hmb]; rfl
          have HZS := Lib.hid hzs
          have HLB : Hid ((SX.lowB ⟨ysg, ysc, yge, yre, yrs, yfl⟩ ⟨ysg, ysc, xge, xre, xrs, xfl⟩) = (decide (yge < xge) || decide (yre < xre) || decide (yrs < xrs) || decide (yfl < xfl))) := Lib.hid rfl
          clear hnb hzs hmb
          by_cases g1 : yge < xge
          · have e1 : decide (yge < xge) = true := by simpa using g1
            go_quiet (fail)
            go_wp2_with fail
            go_quiet (fail)
            go_wp2_with fail
            go_ret
            exact HFIN.out _ (.inr ⟨rfl, HNB.out, by rw [HLB.out, e1]; simp⟩) _ (((Keeps.refl _ _).drewN _).drewN _)
          · have e1 : decide (yge < xge) = false := by simpa using g1
            by_cases g2 : yre < xre
            · have e2 : decide (yre < xre) = true := by simpa using g2
              go_quiet (fail)
              go_wp2_with fail
              go_quiet (fail)
              go_wp2_with fail
              go_ret
              exact HFIN.out _ (.inr ⟨rfl, HNB.out, by rw [HLB.out, e2]; simp⟩) _ (((Keeps.refl _ _).drewN _).drewN _)
            · have e2 : decide (yre < xre) = false := by simpa using g2
              by_cases g3 : yrs < xrs
              · have e3 : decide (yrs < xrs) = true := by simpa using g3
                go_quiet (fail)
                go_wp2_with fail
                go_quiet (fail)
                go_wp2_with fail
                go_ret
                exact HFIN.out _ (.inr ⟨rfl, HNB.out, by rw [HLB.out, e3]; simp⟩) _ (((Keeps.refl _ _).drewN _).drewN _)
              · have e3 : decide (yrs < xrs) = false := by simpa using g3
                by_cases g4 : yfl < xfl
                · have e4 : decide (yfl < xfl) = true := by simpa using g4
                  go_quiet (fail)
                  go_wp2_with fail
                  go_quiet (fail)
                  go_wp2_with fail
                  go_ret
                  exact HFIN.out _ (.inr ⟨rfl, HNB.out, by rw [HLB.out, e4]; simp⟩) _ (((Keeps.refl _ _).drewN _).drewN _)
                · have e4 : decide (yfl < xfl) = false := by simpa using g4
                  have HLF : Hid ((SX.lowB ⟨ysg, ysc, yge, yre, yrs, yfl⟩ ⟨ysg, ysc, xge, xre, xrs, xfl⟩) = false) := Lib.hid (by rw [HLB.out, e1, e2, e3, e4]; rfl)
                  go_quiet (fail)
                  go_wp2_with fail
                  go_quiet (fail)
                  go_wp2_with fail
                  have hu27 := Try.underlying27
                  have hs27 : (Try.prog.info? 27).map (·.size) = some (bk Z).length := by rw [bk_len, hZl]; kernel_rfl
                  have hone : oneAll (bk Z).toArray = true := one_bk _
                  have HC3 : Hid (∀ W, Keeps (fun _ => False) w2 W → W.cell? ⟨S, 7, none⟩ = some (.pointer (some ⟨B, 0, none⟩)) ∧ W.cell? ⟨S, 6, none⟩ = some (.int .u64 t) ∧ W.rangeAt V 0 (bk Z)) := Lib.hid (fun W hk => by
                    have h := hk.blk HS2.out id
                    exact ⟨h.cell (i := 7) rfl, h.cell (i := 6) rfl, fun j v hv => by rw [Nat.zero_add]; exact (hk.blk HBV.out id).cell hv⟩)
                  clear s0 s1 s2 s3 s4 s5 s6 s7 y0 y1 y2 y3 y4 y5
                  clear HS0 HB0 HW0 HE HFIN
                  obtain ⟨r, hr⟩ : ∃ r, r = D.write ((t + 1) % 2) Z := ⟨_, rfl⟩
                  have HWT : Hid (∀ W, Keeps (fun _ => False) w2 W → Calls Try.prog 50 #[.pointer (some ⟨B, 0, none⟩), .int .i64 (IntKind.i64.wrap ((IntKind.u64.wrap (t + 1)).tmod 2)), .agg (bk Z).toArray] W (DrP w0 (fun k => R k ∨ (w.heap.size ≤ k ∧ k < w2.heap.size)) B r.2 r.1 W)) := Lib.hid (fun W hk => by
                    have e : IntKind.i64.wrap ((IntKind.u64.wrap (t + 1)).tmod 2) = (t + 1) % 2 := by
                      rw [HWR.out, Int.tmod_eq_emod_of_nonneg (by omega)]
                      exact IntWalk.i64_in _ (by omega)
                    rw [e, hr]
                    exact (HDM.out.quiet hk).write hf _ Z hZl)
                  have HF1 : Hid (Fine (m + 1) r.2) := Lib.hid (by rw [hr]; exact hf.write _ _)
                  have HR := Lib.hid hr
                  clear hr
                  go_region_held3 (fun W => W.cell? ⟨S, 7, none⟩ = some (.pointer (some ⟨B, 0, none⟩)) ∧ W.cell? ⟨S, 6, none⟩ = some (.int .u64 t) ∧ W.rangeAt V 0 (bk Z)) (first | exact ⟨q7, q6, qv⟩ | exact HC3.out _ (by (repeat (first | exact Keeps.refl _ _ | refine Keeps.drew ?_ | refine Keeps.drewN ?_ _)))) (first
                    | (go_at_call 50; refine (HWT.out _ (by (repeat (first | exact Keeps.refl _ _ | refine Keeps.drew ?_ | refine Keeps.drewN ?_ _)))).mono ?_; rintro e w4 ⟨rfl, hd4, hk4⟩; have hb4 := hk4.blk (HS2.out.drewN _) (fun hn => hn (.inl hS)); have hv4 := hk4.blk (HBV.out.drewN _) (fun hn => hn (.inr ⟨by omega, hVl⟩)); have q7 := hb4.cell (i := 7) rfl; have q6 := hb4.cell (i := 6) rfl; have qv : w4.rangeAt V 0 (bk Z) := (fun j v hv => by rw [Nat.zero_add]; exact hv4.cell hv); have HD4 := Lib.hid hd4; have HB4 := Lib.hid hb4; have HY4 := Lib.hid (hk4.blk (HY2.out.drewN _) (fun hn => hn (.inr ⟨Nat.le_refl _, by omega⟩))); have HK4 : Hid (Keeps (fun k => ¬ R k) w w4) := Lib.hid ((HK2.out.mono (S' := fun k => ¬ R k) fun _ _ h => h.elim).trans (((Keeps.refl _ _).drewN _).trans (hk4.mono fun k _ hn hr => hn (.inl hr))))))
                  rename_i hHeld
                  clear hHeld
                  by_cases hc1 : r.1 = 0
                  · have e5 : decide (r.1 = 0) = true := by simp [hc1]
                    obtain ⟨q, hq⟩ : ∃ q, q = r.2.sync := ⟨_, rfl⟩
                    have hsy := HD4.out.sync HF1.out
                    rw [← hq] at hsy
                    have HSY := Lib.hid hsy
                    have HQ := Lib.hid hq
                    have HC1 := Lib.hid hc1
                    clear hsy hq
                    rw [hc1]
                    clear hc1 e5
                    go_wp2_with fail
                    refine HSY.out.mono ?_
                    rintro e w5 ⟨rfl, hd5, hk5⟩
                    have HB5 := Lib.hid (hk5.blk HB4.out (fun hn => hn (.inl hS)))
                    have HY5 := Lib.hid (hk5.blk HY4.out (fun hn => hn (.inr ⟨Nat.le_refl _, by omega⟩)))
                    have HD5 := Lib.hid hd5
                    have HK5 : Hid (Keeps (fun k => ¬ R k) w w5) := Lib.hid (HK4.out.trans (hk5.mono fun k _ hn hr => hn (.inl hr)))
                    clear hk5 hd5 q7 q6 qv
                    by_cases hc2 : q.1 = 0
                    · have HC2 := Lib.hid hc2
                      rw [hc2]
                      clear hc2
                      have hb5 := HB5.out
                      have hy5 := HY5.out
                      unfold stp stc DL.ptr at hb5
                      have s6 := hb5.cell (i := 6) rfl
                      have s0 := hb5.cell (i := 0) rfl
                      have s1 := hb5.cell (i := 1) rfl
                      have s2 := hb5.cell (i := 2) rfl
                      have s3 := hb5.cell (i := 3) rfl
                      have s4 := hb5.cell (i := 4) rfl
                      have s5 := hb5.cell (i := 5) rfl
                      have f0 := hb5.free 0
                      have f1 := hb5.free 1
                      have f2 := hb5.free 2
                      have f3 := hb5.free 3
                      have f4 := hb5.free 4
                      have f5 := hb5.free 5
                      have f6 := hb5.free 6
                      have y0 := hy5.cell (i := 0) rfl
                      have y1 := hy5.cell (i := 1) rfl
                      have y2 := hy5.cell (i := 2) rfl
                      have y3 := hy5.cell (i := 3) rfl
                      have y4 := hy5.cell (i := 4) rfl
                      have y5 := hy5.cell (i := 5) rfl
                      clear hb5 hy5
                      go_wp2_with fail
                      go_region
                      rw [HWR.out]
                      obtain ⟨fb, fk⟩ := set_fin HB5.out ⟨ysg, ysc, yge, yre, yrs, yfl⟩ (t + 1)
                      have HFB := Lib.hid fb
                      have HFK := Lib.hid fk
                      clear fb fk
                      go_wp2_with fail
                      go_ret
                      rw [setS_ok HNB.out HLF.out (by rw [← HZS.out]; exact HR.out) HC1.out HQ.out HC2.out]
                      exact ⟨rfl, (HD5.out.turn (HFK.out.drew.mono fun k _ e => .inl (by rw [show k = S from e]; exact hS))).less (fun k h => .inl h), HFB.out.drew, (HK5.out.mono (S' := fun k => ¬ R k ∨ k = S) (fun k _ h => .inl h)).trans (HFK.out.drew.mono fun k _ e => .inr e)⟩
                    · have e6 : decide (q.1 = 0) = false := by simp [hc2]
                      go_wp2_with fail
                      go_ret
                      rw [setS_s HNB.out HLF.out (by rw [← HZS.out]; exact HR.out) HC1.out HQ.out hc2]
                      exact ⟨rfl, HD5.out.less (fun k h => .inl h), HB5.out, HK5.out.mono (fun k _ h => .inl h)⟩
                  · have e5 : decide (r.1 = 0) = false := by simp [hc1]
                    go_wp2_with fail
                    go_ret
                    rw [setS_w HNB.out HLF.out (by rw [← HZS.out]; exact HR.out) hc1]
                    exact ⟨rfl, HD4.out.less (fun k h => .inl h), HB4.out, HK4.out.mono (fun k _ h => .inl h)⟩
        · have e1 : decide (ysc = xsc) = false := by simp [h2]
          go_quiet (fail)
          go_wp2_with fail
          go_ret
          exact HFIN.out _ (.inl ⟨rfl, .inr (.inr h2)⟩) _ ((Keeps.refl _ _).drewN _)
      · have e1 : decide (ysg = xsg) = false := by simp [h1]
        go_quiet (fail)
        go_wp2_with fail
        go_ret
        exact HFIN.out _ (.inl ⟨rfl, .inr (.inl h1)⟩) _ ((Keeps.refl _ _).drewN _)
    · have hc0 : c = 2 := by rw [HC.out, hmb]; rfl
      subst hc0
      go_quiet (fail)
      go_wp2_with fail
      go_ret
      exact HFIN.out _ (.inl ⟨rfl, .inl hmb⟩) _ ((Keeps.refl _ _).drewN _)
end Go.Proofs.Ytjiammhmeliogaa
