/- DiskCopies, walked. -/
import Derived.Test.YtjiammhmeliogaaSides
import Derived.Deep.DeepCutAuto
namespace Go.Proofs.Ytjiammhmeliogaa
open Go.RowKit
set_option linter.unusedVariables false
set_option linter.unusedSimpArgs false
attribute [local go_sem ↓] exec_load27 exec_store27 exec_new27 exec_alloc27 exec_build27 zeroValue27 exec_load43 exec_store43
attribute [local go_sem] mayRow_drew padr_some rowAt_drew hasRow_drew rowAt_alloc hasRow_alloc run_cells27 one_obj eq27_self

/-- The copies are made. -/
def Copied (w0 : World) (P0 : Value) (B m1 : Nat) (s13 s14 : Value) (w : World) : Prop := ∃ (CB B1 : Nat) (P1 : Value), s13 = .pointer (some ⟨CB, 0, none⟩) ∧ s14 = .pointer (some ⟨B1, 0, none⟩) ∧ P1 = .pointer (some ⟨CB, 0, none⟩) ∧ Both2 w0 P0 P1 B B1 (2 * m1) (2 * m1) w

set_option maxRecDepth 100000 in
set_option maxHeartbeats 16000000 in
theorem copies_law (a1 a2 a3 : Option Addr) (n1 n2 n3 c1 c2 c3 : Nat) (HR1l HR2l HR3l : List OpT) (w : World)
    (hr1 : OpRow w.heap.size w a1 n1 HR1l) (hn1 : n1 ≤ c1) (hc1 : c1 ≤ maxLen) (hf1 : ∀ o, o ∈ HR1l → o.Fit w)
    (hr2 : OpRow w.heap.size w a2 n2 HR2l) (hn2 : n2 ≤ c2) (hc2 : c2 ≤ maxLen) (hf2 : ∀ o, o ∈ HR2l → o.Fit w)
    (hr3 : OpRow w.heap.size w a3 n3 HR3l) (hn3 : n3 ≤ c3) (hc3 : c3 ≤ maxLen) (hf3 : ∀ o, o ∈ HR3l → o.Fit w) :
    Calls Try.prog 8 #[.slice a1 n1 c1, .slice a2 n2 c2, .slice a3 n3 c3] w fun e w' => e = .returned (.bool true) ∧ Keeps (fun _ => False) w w' := by
  have HF1 := Lib.hid (fun w => few_any a1 n1 c1 w hn1 hc1)
  have HF2 := Lib.hid (fun w => few_any a2 n2 c2 w hn2 hc2)
  have HF3 := Lib.hid (fun w => few_any a3 n3 c3 w hn3 hc3)
  have HR1 := Lib.hid hr1
  have HR2 := Lib.hid hr2
  have HR3 := Lib.hid hr3
  have HT1 := Lib.hid hf1
  have HT2 := Lib.hid hf2
  have HT3 := Lib.hid hf3
  have hlen1 := hr1.1
  have hlen2 := hr2.1
  have hlen3 := hr3.1
  clear hr1 hr2 hr3 hf1 hf2 hf3
  go_enter Try.func8, Try.ntmps8
  go_wp2_with fail
  refine (wakes_any w).mono ?_
  rintro e w1 ⟨rfl, hk1⟩
  have HK1 := Lib.hid hk1
  clear hk1
  go_wp2_with fail
  refine (new_ok 6 (by omega) (by omega) w1).mono ?_
  rintro e w2 ⟨L, rfl, hd, hown, hk⟩
  have hm := (Many.start w1).more hd hown hk
  rw [List.nil_append] at hm
  obtain ⟨P0, hP0⟩ : ∃ P0, P0 = L.ptr := ⟨_, rfl⟩
  rw [← hP0]
  have HLP := Lib.hid hP0.symm
  have HM := Lib.hid hm
  have hnn : P0 ≠ .pointer none := by rw [hP0]; unfold DL.ptr; simp
  obtain ⟨PB, hPB⟩ : ∃ PB, P0 = .pointer (some ⟨PB, 0, none⟩) := ⟨L.B, by rw [hP0]; rfl⟩
  subst hPB
  clear hd hown hk hm hP0 hnn
  go_wp2_with fail
  refine (rnew_ok 6 (by omega) (by omega) w2).mono ?_
  rintro e w3 ⟨sv, rfl, hR, ho, hk3⟩
  obtain ⟨sa, sc, rfl, _⟩ := own_slice hR.safe
  have hm3 := ((HM.out.quiet hk3).rmore (rowP (.slice none 0 0) (RD.fresh 6)) hR.pend (fun g hg => by cases hg)).rmore (rowS (.slice sa (RD.fresh 6).n sc) (RD.fresh 6)) hR.safe (fun g hg => by
    have h1 := ho g hg
    have h2 := HM.out.k.size
    exact ⟨by omega, fun i x hx h3 => by have := HM.out.lt hx g h3; omega⟩)
  obtain ⟨B, hB⟩ : ∃ B, B = w3.heap.size := ⟨_, rfl⟩
  have HB := Lib.hid hB
  have hB1 : w1.heap.size ≤ B := by have := hm3.k.size; omega
  have HM3 := Lib.hid hm3
  have HRP := Lib.hid hR.pure
  unfold rv RD.fresh
  dsimp only
  clear ho hk3 hR hm3 hB
  go_upto_region 5 with (fail)
  rw [← HB.out]
  obtain ⟨W, hW⟩ : ∃ W, W = w3.alloc (.cells #[.slice sa 6 sc, .slice none 0 0, .bool false, .int .i64 (-1), .int .i64 (-1), .int .i64 0] 43) := ⟨_, rfl⟩
  obtain ⟨P0, hP0⟩ : ∃ P0 : Value, P0 = .pointer (some ⟨PB, 0, none⟩) := ⟨_, rfl⟩
  have HP0 := Lib.hid hP0
  rw [← hP0] at HLP
  have hPr : Pair w1 P0 B 0 6 L (DD.fresh 6) sa sc none 0 (RD.fresh 6) W := by
    have hkW : Keeps (fun _ => False) w3 W := by rw [hW]; exact (Keeps.refl _ _).alloc _
    exact ⟨HLP.out, (HM3.out.quiet hkW).rless (by simp [RD.fresh]), by rw [hW, HB.out]; exact Blk.new w3 43 _, HRP.out, Sim.fresh 6, rfl, hB1⟩
  rw [← hW]
  have HPR : Hid (PairE w1 P0 B 0 6 W) := Lib.hid ⟨_, _, _, _, _, _, _, hPr⟩
  have hBW := hPr.blk.lt
  clear hW hPr hP0
  go_wp2_with fail
  refine (HF1.out _).mono ?_
  rintro e wf ⟨rfl, rfl⟩
  obtain ⟨m1, hm⟩ : ∃ m, m = min n1 120 := ⟨_, rfl⟩
  rw [← hm]
  have hm1l : m1 ≤ n1 := by omega
  have hm1b : m1 ≤ 120 := by omega
  clear hm
  go_wp2_with fail
  go_loopw [12, 41] (fun _ i wr => ∃ t : Nat, t ≤ m1 ∧ i = .int .i64 t ∧ PairE w1 P0 B (2 * t) 6 wr) (fun _ i _ => m1 - (intOf i).toNat)
  case atStart => exact ⟨0, by omega, rfl, HPR.out⟩
  case round =>
    obtain ⟨t, ht, rfl, hpe⟩ := hrel
    by_cases hlt : t < m1
    · obtain ⟨L1, D1, sa, sc, qa, qc, R1, hP⟩ := hpe
      obtain ⟨o, ho⟩ : ∃ o, HR1l[t]? = some o := ⟨_, List.getElem?_eq_getElem (by omega)⟩
      obtain ⟨b, off, rfl, hb, hrow⟩ := HR1.out.2 t o ho
      have hkw : Keeps (fun _ => False) w wr := HK1.out.trans hP.many.k
      have HFO := Lib.hid (HT1.out o (List.mem_of_getElem? ho))
      have hof := HFO.out.keep hkw
      have hrow' : wr.rangeAt b (off + t * 4) (opc o) := fun j v hv => (hkw.cell (p := ⟨b, off + t * 4 + j, none⟩) hb id).trans (hrow j v hv)
      have g0 := hrow' 0 _ rfl
      have g1 := hrow' 1 _ rfl
      have g2 := hrow' 2 _ rfl
      have g3 := hrow' 3 _ rfl
      rw [Nat.add_zero] at g0
      have hlt' : (t : Int) < (m1 : Int) := by omega
      have HP := Lib.hid hP
      have hDo : ∀ Wx, Keeps (fun _ => False) wr Wx → Calls Try.prog 23 #[P0, .agg #[.int .i64 o.k, .int .i64 o.a, .int .u8 o.f, .slice o.va o.vn o.vc]] Wx fun e w' => e = .returned (.tuple #[.agg (bk (D1.does o).1).toArray, .int .i64 (D1.does o).2.1]) ∧ ∃ L' : DL, L'.ptr = P0 ∧ Many w1 w' ([(L1, D1)].set 0 (L', (D1.does o).2.2)) [rowS (.slice sa R1.n sc) R1, rowP (.slice qa R1.p.length qc) R1] ∧ Keeps L1.own Wx w' ∧ (∀ k, L'.own k → L1.own k ∨ Wx.heap.size ≤ k) := fun Wx hx =>
        (hP.quiet hx).many.does (i := 0) rfl hP.sim.ok (by have := hP.sim.ob; omega) (by have := hP.sim.pb; omega) o (hof.keep hx) hP.ptr
      have HDO := Lib.hid hDo
      have HST := Lib.hid (hP.sim.step (by omega) o)
      have hwr := hkw.size
      rw [HP0.out] at HDO
      clear hrow hrow' ho hP hof hDo hkw
      go_wp2_with fail
      have hq : Keeps (fun _ => False) wr ((wr.alloc (.cells #[.int .i64 o.k, .int .i64 o.a, .int .u8 o.f, .slice o.va o.vn o.vc] 32))) := (Keeps.refl _ _).alloc _
      refine (HDO.out _ hq).mono ?_
      rintro e w5 ⟨rfl, L2, e1, hm5, hk5, ho5⟩
      rw [← HP0.out] at e1
      obtain ⟨bb, hbb⟩ : ∃ bb, bb = (D1.does o).1 := ⟨_, rfl⟩
      obtain ⟨cc, hcc⟩ : ∃ cc, cc = (D1.does o).2.1 := ⟨_, rfl⟩
      obtain ⟨D2, hD2⟩ : ∃ D2, D2 = (D1.does o).2.2 := ⟨_, rfl⟩
      rw [← hbb, ← hcc]
      rw [← hD2] at hm5
      rw [← hbb, ← hcc, ← hD2] at HST
      have hm6 : Many w1 w5 [(L2, D2)] [rowS (.slice sa R1.n sc) R1, rowP (.slice qa R1.p.length qc) R1] := hm5
      have hrd := hm6.rd (sv := .slice sa R1.n sc) (pv := .slice qa R1.p.length qc) (R := R1) (by simp) (by simp) HP.out.pure
      have hbl : bb.length = 64 := by
        rw [← HST.out.1]
        exact want_len hrd (by have := HP.out.sim.ob; have := HP.out.sim.tb; rw [HP.out.sim.ops]; omega) o
      have hk6 : Keeps L1.own wr w5 := (hq.mono fun _ _ h => h.elim).trans hk5
      have HOW : Hid (∀ k, L2.own k → L1.own k ∨ wr.heap.size ≤ k) := Lib.hid fun k hk => (ho5 k hk).imp id fun h => Nat.le_trans hq.size h
      have hown1 := HP.out.many.lt (i := 0) (x := (L1, D1)) rfl
      have bO : Blk w5 wr.heap.size 32 [.int .i64 o.k, .int .i64 o.a, .int .u8 o.f, .slice o.va o.vn o.vc] := hk5.blk (Blk.new wr 32 _) (fun e => by have := hown1 _ e; omega)
      have bB : Blk w5 B 43 _ := hk6.blk HP.out.blk fun e => (HP.out.beside.1 0 _ rfl B e) rfl
      have e0 := bO.cell (i := 0) rfl
      have e2 := bO.cell (i := 1) rfl
      have e3 := bO.cell (i := 2) rfl
      have e4 := bO.cell (i := 3) rfl
      have hO := bO.lt
      have hBl := bB.lt
      have hBl2 : B < w5.heap.size + 1 := by omega
      have hO2 : wr.heap.size < w5.heap.size + 1 := by omega
      obtain ⟨bh, br, bm⟩ := blk_row bB (n := 6) rfl
      have HWN := Lib.hid (fun Wx (hx : Keeps (fun _ => False) w5 Wx) => (want_any _ _ R1 Wx (hrd.quiet hx) (by have := HP.out.sim.ob; have := HP.out.sim.tb; rw [HP.out.sim.ops]; omega) (by have := HP.out.sim.pb; have := HP.out.sim.tb; rw [HP.out.sim.p]; omega) o (HFO.out.keep ((HK1.out.trans hm6.k).trans hx))).mono fun _ _ => WantP.form)
      have HM6 := Lib.hid hm6
      have HK5 := Lib.hid hk6
      have HBB := Lib.hid bB
      have hzl : (bk zb).length = 64 := by rw [bk_len, zb_len]
      have hone : oneAll (bk zb).toArray = true := all_oneCell_toArray bk_one
      obtain ⟨cs, hcs⟩ : ∃ cs, cs = bk bb := ⟨_, rfl⟩
      have hcl : cs.length = 64 := by rw [hcs, bk_len, hbl]
      have honeC : oneAll cs.toArray = true := by rw [hcs]; exact all_oneCell_toArray bk_one
      have HCS := Lib.hid hcs
      have HD2 := Lib.hid hD2
      have HE1 := Lib.hid e1
      rw [← hcs]
      clear hm5 hm6 hrd hk5 hk6 ho5 bO bB hcs hbb hcc hD2 e1 hq
      go_wp2_with fail
      have hq5 : Keeps (fun _ => False) w5 w5 := Keeps.refl _ _
      have HQ5 := Lib.hid hq5
      refine (HWN.out _ hq5).mono ?_
      rintro e w6 ⟨ta, tc, ua, uc, rfl, hR2, o1, o2, hk7⟩
      obtain ⟨R2, hR2e⟩ : ∃ R2, R2 = (R1.want o).2.2 := ⟨_, rfl⟩
      rw [← hR2e] at hR2 o1 o2 ⊢
      rw [HST.out.1, HST.out.2.1, ← HCS.out]
      have hs3 := HST.out.2.2
      rw [← hR2e] at hs3
      have bB6 := hk7.blk (HQ5.out.blk HBB.out id) id
      obtain ⟨Bh, Br, Bm⟩ := blk_row bB6 (n := 6) rfl
      have HK7 := Lib.hid hk7
      have HR2 := Lib.hid hR2
      have HO1 := Lib.hid o1
      have HO2 := Lib.hid o2
      have HS3 := Lib.hid hs3
      have HN3 : Hid (D2.n = 6) := Lib.hid (by rw [HD2.out, does_n D1 o HP.out.sim (by omega) (want_n R1 o)]; exact HP.out.dn)
      clear hq5 hk7 hR2 o1 o2 hs3 bB6 hR2e bh br bm
      go_upto_region 12 with (fail)
      obtain ⟨W7, hW7⟩ : ∃ W7, W7 = w6.setCells B 0 [.slice ta R2.n tc, .slice ua R2.p.length uc, .bool R2.dead, .int .i64 R2.left, .int .i64 R2.fails, .int .i64 R2.ops] := ⟨_, rfl⟩
      obtain ⟨hP7, hB7, hk7, hkM, hu, hmo⟩ := HP.out.step1 (L2 := L2) (D2 := D2) HE1.out HM6.out HK5.out HOW.out HQ5.out HK7.out HR2.out HO1.out HO2.out HS3.out HN3.out hW7
      rw [← hW7]
      have HE8 : Hid (PairE w1 P0 B (2 * (t + 1)) 6 W7) := Lib.hid ⟨_, _, _, _, _, _, _, hP7⟩
      clear hW7 hP7 hB7 hk7 hkM hu hmo Bh Br Bm
      go_wp2_with fail
      go_roundw
      case rel => exact ⟨t + 1, by omega, by go_num, HE8.out⟩
      case measure => simp [intOf]; omega
    · obtain rfl : m1 = t := by omega
      obtain ⟨L1, D1, sa, sc, qa, qc, R1, hP⟩ := hpe
      have bB := hP.blk
      have hBl := bB.lt
      obtain ⟨bh, br, bm⟩ := blk_row bB (n := 6) rfl
      have q0 := bB.cell (i := 0) rfl
      have q1 := bB.cell (i := 1) rfl
      have q2 := bB.cell (i := 2) rfl
      have q3 := bB.cell (i := 3) rfl
      have q4 := bB.cell (i := 4) rfl
      have q5 := bB.cell (i := 5) rfl
      have HCP := Lib.hid (fun Wx (hx : Keeps (fun _ => False) wr Wx) => copy_any L1 D1 Wx (hP.many.dk 0 _ rfl |>.quiet hx))
      rw [hP.ptr, HP0.out] at HCP
      have HPX := Lib.hid hP
      have HBX := Lib.hid bB
      obtain ⟨wo, rfl⟩ : ∃ wo : World, wo = wr := ⟨_, rfl⟩
      clear hP bB
      go_upto_region 13 with (fail)
      go_cut [13, 14] (fun s13 s14 wx => Copied w1 P0 B m1 s13 s14 wx)
      case first =>
       have hB4 := HBX.out.lt
       have hzs : Blk (wo.alloc (.cells #[.slice none 0 0, .slice none 0 0, .bool false, .int .i64 0, .int .i64 0, .int .i64 0] 43)) wo.heap.size 43 z43 := Blk.new wo 43 z43
       have HZS := Lib.hid hzs
       clear hzs
       go_region_with (go_at_call 37; refine (HCP.out _ (by (repeat (first | exact Keeps.refl _ _ | refine Keeps.alloc ?_ _ | refine Keeps.drew ?_)))).mono ?_; rintro e w4 ⟨LC, rfl, hdc, hoc, hkc⟩; have hkw4 : Keeps (fun _ => False) wo w4 := (Keeps.trans (by (repeat (first | exact Keeps.refl _ _ | refine Keeps.alloc ?_ _ | refine Keeps.drew ?_))) hkc); have HKW4 := Lib.hid hkw4; have bA := hkw4.blk HBX.out id; have j0 := bA.cell (i := 0) rfl; have j1 := bA.cell (i := 1) rfl; have j2 := bA.cell (i := 2) rfl; have j3 := bA.cell (i := 3) rfl; have j4 := bA.cell (i := 4) rfl; have j5 := bA.cell (i := 5) rfl;  have hBl4 := bA.lt; have HDC := Lib.hid hdc; have HOC := Lib.hid hoc; have HKC := Lib.hid hkc; (first | (have bZ := hkc.blk HZS.out id; have y0 := bZ.cell (i := 0) rfl; have y1 := bZ.cell (i := 1) rfl; have y2 := bZ.cell (i := 2) rfl; have y3 := bZ.cell (i := 3) rfl; have y4 := bZ.cell (i := 4) rfl; have y5 := bZ.cell (i := 5) rfl; have f0 := bZ.free 0; have f1 := bZ.free 1; have f2 := bZ.free 2; have f3 := bZ.free 3; have f4 := bZ.free 4; have f5 := bZ.free 5; have HBZ := Lib.hid bZ; clear bZ) | (have bZ := hkc.blk HZS.out.drew id; have y0 := bZ.cell (i := 0) rfl; have y1 := bZ.cell (i := 1) rfl; have y2 := bZ.cell (i := 2) rfl; have y3 := bZ.cell (i := 3) rfl; have y4 := bZ.cell (i := 4) rfl; have y5 := bZ.cell (i := 5) rfl; have f0 := bZ.free 0; have f1 := bZ.free 1; have f2 := bZ.free 2; have f3 := bZ.free 3; have f4 := bZ.free 4; have f5 := bZ.free 5; have HBZ := Lib.hid bZ; clear bZ) | skip); clear hkw4 bA hdc hoc hkc)
       all_goals
         first
           | (obtain ⟨W, hW⟩ : ∃ W, W = w4.alloc (.cells #[.slice sa R1.n sc, .slice qa R1.p.length qc, .bool R1.dead, .int .i64 R1.left, .int .i64 R1.fails, .int .i64 R1.ops] 43) := ⟨_, rfl⟩
              rw [← hW]
              obtain ⟨B1, hB1⟩ : ∃ B1, B1 = w4.heap.size := ⟨_, rfl⟩
              have hkW : Keeps (fun _ => False) w4 W := (by rw [hW]; exact (Keeps.refl _ _).alloc _)
              have hBB : Hid (Both2 w1 P0 LC.ptr B B1 (2 * m1) (2 * m1) W) := Lib.hid (Both2.start HPX.out (HKW4.out.trans hkW) (HDC.out.quiet hkW) (fun k hk => by have := HOC.out k hk; simp at this; omega) (by rw [hW, hB1]; exact Blk.new w4 43 _) (by rw [hB1]; exact HKW4.out.size))
              rw [← hB1]
              clear hW hB1 hkW)
           | (obtain ⟨W, hW⟩ : ∃ W, W = ((((((w4.setCell ⟨wo.heap.size, 0, none⟩ (.slice sa R1.n sc)).setCell ⟨wo.heap.size, 1, none⟩ (.slice qa R1.p.length qc)).setCell ⟨wo.heap.size, 2, none⟩ (.bool R1.dead)).setCell ⟨wo.heap.size, 3, none⟩ (.int .i64 R1.left)).setCell ⟨wo.heap.size, 4, none⟩ (.int .i64 R1.fails)).setCell ⟨wo.heap.size, 5, none⟩ (.int .i64 R1.ops)) := ⟨_, rfl⟩
              rw [← hW]
              obtain ⟨B1, hB1⟩ : ∃ B1, B1 = wo.heap.size := ⟨_, rfl⟩
              have hkW : Keeps (fun k => k = wo.heap.size) w4 W := (by rw [hW]; exact six_keeps _ _ _ _ _ _ _ _)
              have hBB : Hid (Both2 w1 P0 LC.ptr B B1 (2 * m1) (2 * m1) W) := Lib.hid (Both2.start HPX.out ((HKW4.out.mono (S' := fun k => wo.heap.size ≤ k) (fun _ _ h => h.elim)).trans (hkW.mono fun k _ e => by rw [show k = wo.heap.size from e]; exact Nat.le_refl _)).from (HDC.out.keep hkW (fun k hk e => by have := HOC.out k hk; simp at this; have e' : k = wo.heap.size := e; omega)) (fun k hk => by have := HOC.out k hk; simp at this; omega) (by rw [hW, hB1]; exact six43 HBZ.out rfl _ _ _ _ _ _) (by rw [hB1]; exact Nat.le_refl _))
              rw [← hB1]
              clear hW hB1 hkW)
         go_wp2_with fail
         go_meet
         all_goals exact ⟨LC.B, B1, LC.ptr, rfl, rfl, rfl, hBB.out⟩
      case rest =>
        obtain ⟨CB, B1, P1, rfl, rfl, hp1, hbb⟩ := hcut
        have HP1 := Lib.hid hp1
        have HBB := Lib.hid hbb
        clear hp1 hbb HCP HPX HBX q0 q1 q2 q3 q4 q5 bh br bm hBl
        go_wp2_with fail
        refine (HF2.out _).mono ?_
        rintro e wf ⟨rfl, rfl⟩
        obtain ⟨m2, hm⟩ : ∃ m, m = min n2 120 := ⟨_, rfl⟩
        rw [← hm]
        have hm2l : m2 ≤ n2 := by omega
        have hm2b : m2 ≤ 120 := by omega
        clear hm
        go_wp2_with fail
        go_loopw [64] (fun i wr => ∃ t : Nat, t ≤ m2 ∧ i = .int .i64 t ∧ Both2 w1 P0 P1 B B1 (2 * m1 + 2 * t) (2 * m1) wr) (fun i _ => m2 - (intOf i).toNat)
        case atStart => exact ⟨0, by omega, rfl, HBB.out⟩
        case round =>
          obtain ⟨t, ht, rfl, hpe⟩ := hrel
          by_cases hlt : t < m2
          · obtain ⟨L1, D1, sa, sc, qa, qc, R1, LX, DX, sx, cx, qx, dx, RX, hP, hPC, hX3, hX4⟩ := hpe
            have HPC := Lib.hid hPC
            have HX3 := Lib.hid hX3
            have HX4 := Lib.hid hX4
            clear hPC hX3 hX4
            obtain ⟨o, ho⟩ : ∃ o, HR2l[t]? = some o := ⟨_, List.getElem?_eq_getElem (by omega)⟩
            obtain ⟨b, off, rfl, hb, hrow⟩ := HR2.out.2 t o ho
            have hkw : Keeps (fun _ => False) w wr := HK1.out.trans hP.many.k
            have HFO := Lib.hid (HT2.out o (List.mem_of_getElem? ho))
            have hof := HFO.out.keep hkw
            have hrow' : wr.rangeAt b (off + t * 4) (opc o) := fun j v hv => (hkw.cell (p := ⟨b, off + t * 4 + j, none⟩) hb id).trans (hrow j v hv)
            have g0 := hrow' 0 _ rfl
            have g1 := hrow' 1 _ rfl
            have g2 := hrow' 2 _ rfl
            have g3 := hrow' 3 _ rfl
            rw [Nat.add_zero] at g0
            have hlt' : (t : Int) < (m2 : Int) := by omega
            have HP := Lib.hid hP
            have hDo : ∀ Wx, Keeps (fun _ => False) wr Wx → Calls Try.prog 23 #[P0, .agg #[.int .i64 o.k, .int .i64 o.a, .int .u8 o.f, .slice o.va o.vn o.vc]] Wx fun e w' => e = .returned (.tuple #[.agg (bk (D1.does o).1).toArray, .int .i64 (D1.does o).2.1]) ∧ ∃ L' : DL, L'.ptr = P0 ∧ Many w1 w' ([(L1, D1)].set 0 (L', (D1.does o).2.2)) [rowS (.slice sa R1.n sc) R1, rowP (.slice qa R1.p.length qc) R1] ∧ Keeps L1.own Wx w' ∧ (∀ k, L'.own k → L1.own k ∨ Wx.heap.size ≤ k) := fun Wx hx =>
              (hP.quiet hx).many.does (i := 0) rfl hP.sim.ok (by have := hP.sim.ob; omega) (by have := hP.sim.pb; omega) o (hof.keep hx) hP.ptr
            have HDO := Lib.hid hDo
            have HST := Lib.hid (hP.sim.step (by omega) o)
            have hwr := hkw.size
            rw [HP0.out] at HDO
            clear hrow hrow' ho hP hof hDo hkw
            go_wp2_with fail
            have hq : Keeps (fun _ => False) wr ((wr.alloc (.cells #[.int .i64 o.k, .int .i64 o.a, .int .u8 o.f, .slice o.va o.vn o.vc] 32))) := (Keeps.refl _ _).alloc _
            refine (HDO.out _ hq).mono ?_
            rintro e w5 ⟨rfl, L2, e1, hm5, hk5, ho5⟩
            rw [← HP0.out] at e1
            obtain ⟨bb, hbb⟩ : ∃ bb, bb = (D1.does o).1 := ⟨_, rfl⟩
            obtain ⟨cc, hcc⟩ : ∃ cc, cc = (D1.does o).2.1 := ⟨_, rfl⟩
            obtain ⟨D2, hD2⟩ : ∃ D2, D2 = (D1.does o).2.2 := ⟨_, rfl⟩
            rw [← hbb, ← hcc]
            rw [← hD2] at hm5
            rw [← hbb, ← hcc, ← hD2] at HST
            have hm6 : Many w1 w5 [(L2, D2)] [rowS (.slice sa R1.n sc) R1, rowP (.slice qa R1.p.length qc) R1] := hm5
            have hrd := hm6.rd (sv := .slice sa R1.n sc) (pv := .slice qa R1.p.length qc) (R := R1) (by simp) (by simp) HP.out.pure
            have hbl : bb.length = 64 := by
              rw [← HST.out.1]
              exact want_len hrd (by have := HP.out.sim.ob; have := HP.out.sim.tb; rw [HP.out.sim.ops]; omega) o
            have hk6 : Keeps L1.own wr w5 := (hq.mono fun _ _ h => h.elim).trans hk5
            have HOW : Hid (∀ k, L2.own k → L1.own k ∨ wr.heap.size ≤ k) := Lib.hid fun k hk => (ho5 k hk).imp id fun h => Nat.le_trans hq.size h
            have hown1 := HP.out.many.lt (i := 0) (x := (L1, D1)) rfl
            have bO : Blk w5 wr.heap.size 32 [.int .i64 o.k, .int .i64 o.a, .int .u8 o.f, .slice o.va o.vn o.vc] := hk5.blk (Blk.new wr 32 _) (fun e => by have := hown1 _ e; omega)
            have bB : Blk w5 B 43 _ := hk6.blk HP.out.blk fun e => (HP.out.beside.1 0 _ rfl B e) rfl
            have e0 := bO.cell (i := 0) rfl
            have e2 := bO.cell (i := 1) rfl
            have e3 := bO.cell (i := 2) rfl
            have e4 := bO.cell (i := 3) rfl
            have hO := bO.lt
            have hBl := bB.lt
            have hBl2 : B < w5.heap.size + 1 := by omega
            have hO2 : wr.heap.size < w5.heap.size + 1 := by omega
            obtain ⟨bh, br, bm⟩ := blk_row bB (n := 6) rfl
            have HWN := Lib.hid (fun Wx (hx : Keeps (fun _ => False) w5 Wx) => (want_any _ _ R1 Wx (hrd.quiet hx) (by have := HP.out.sim.ob; have := HP.out.sim.tb; rw [HP.out.sim.ops]; omega) (by have := HP.out.sim.pb; have := HP.out.sim.tb; rw [HP.out.sim.p]; omega) o (HFO.out.keep ((HK1.out.trans hm6.k).trans hx))).mono fun _ _ => WantP.form)
            have HM6 := Lib.hid hm6
            have HK5 := Lib.hid hk6
            have HBB := Lib.hid bB
            have hzl : (bk zb).length = 64 := by rw [bk_len, zb_len]
            have hone : oneAll (bk zb).toArray = true := all_oneCell_toArray bk_one
            obtain ⟨cs, hcs⟩ : ∃ cs, cs = bk bb := ⟨_, rfl⟩
            have hcl : cs.length = 64 := by rw [hcs, bk_len, hbl]
            have honeC : oneAll cs.toArray = true := by rw [hcs]; exact all_oneCell_toArray bk_one
            have HCS := Lib.hid hcs
            have HD2 := Lib.hid hD2
            have HE1 := Lib.hid e1
            rw [← hcs]
            clear hm5 hm6 hrd hk5 hk6 ho5 bO bB hcs hbb hcc hD2 e1 hq
            go_wp2_with fail
            have hq5 : Keeps (fun _ => False) w5 w5 := Keeps.refl _ _
            have HQ5 := Lib.hid hq5
            refine (HWN.out _ hq5).mono ?_
            rintro e w6 ⟨ta, tc, ua, uc, rfl, hR2, o1, o2, hk7⟩
            obtain ⟨R2, hR2e⟩ : ∃ R2, R2 = (R1.want o).2.2 := ⟨_, rfl⟩
            rw [← hR2e] at hR2 o1 o2 ⊢
            rw [HST.out.1, HST.out.2.1, ← HCS.out]
            have hs3 := HST.out.2.2
            rw [← hR2e] at hs3
            have bB6 := hk7.blk (HQ5.out.blk HBB.out id) id
            obtain ⟨Bh, Br, Bm⟩ := blk_row bB6 (n := 6) rfl
            have HK7 := Lib.hid hk7
            have HR2 := Lib.hid hR2
            have HO1 := Lib.hid o1
            have HO2 := Lib.hid o2
            have HS3 := Lib.hid hs3
            have HN3 : Hid (D2.n = 6) := Lib.hid (by rw [HD2.out, does_n D1 o HP.out.sim (by omega) (want_n R1 o)]; exact HP.out.dn)
            clear hq5 hk7 hR2 o1 o2 hs3 bB6 hR2e bh br bm
            go_upto_region 21 with (fail)
            obtain ⟨W7, hW7⟩ : ∃ W7, W7 = w6.setCells B 0 [.slice ta R2.n tc, .slice ua R2.p.length uc, .bool R2.dead, .int .i64 R2.left, .int .i64 R2.fails, .int .i64 R2.ops] := ⟨_, rfl⟩
            obtain ⟨hP7, hB7, hk7, hkM, hu, hmo⟩ := HP.out.step1 (L2 := L2) (D2 := D2) HE1.out HM6.out HK5.out HOW.out HQ5.out HK7.out HR2.out HO1.out HO2.out HS3.out HN3.out hW7
            rw [← hW7]
            have HE8 : Hid (Both2 w1 P0 P1 B B1 (2 * m1 + 2 * (t + 1)) (2 * m1) W7) := Lib.hid (Both2.move HP.out HPC.out HX3.out HX4.out hP7 hkM hu hmo)
            clear hW7 hP7 hB7 hk7 hkM hu hmo Bh Br Bm
            go_wp2_with fail
            go_roundw
            case rel => exact ⟨t + 1, by omega, by go_num, HE8.out⟩
            case measure => simp [intOf]; omega
          · obtain rfl : m2 = t := by omega
            have HBB2 := Lib.hid hpe
            clear hpe
            obtain ⟨wo2, rfl⟩ : ∃ wo2 : World, wo2 = wr := ⟨_, rfl⟩
            go_wp2_with fail
            refine (HF3.out _).mono ?_
            rintro e wf ⟨rfl, rfl⟩
            obtain ⟨m3, hm⟩ : ∃ m, m = min n3 120 := ⟨_, rfl⟩
            rw [← hm]
            have hm3l : m3 ≤ n3 := by omega
            have hm3b : m3 ≤ 120 := by omega
            clear hm
            go_wp2_with fail
            go_loopw [82] (fun i wr => ∃ t : Nat, t ≤ m3 ∧ i = .int .i64 t ∧ Both2 w1 P0 P1 B B1 (2 * m1 + 2 * m2) (2 * m1 + 2 * t) wr) (fun i _ => m3 - (intOf i).toNat)
            case atStart => exact ⟨0, by omega, rfl, HBB2.out⟩
            case round =>
              obtain ⟨t, ht, rfl, hpe⟩ := hrel
              by_cases hlt : t < m3
              · obtain ⟨L1, D1, sa, sc, qa, qc, R1, LX, DX, sx, cx, qx, dx, RX, hP, hPC, hX3, hX4⟩ := hpe.symm
                have HPC := Lib.hid hPC
                have HX3 := Lib.hid hX3
                have HX4 := Lib.hid hX4
                clear hPC hX3 hX4 hpe
                obtain ⟨o, ho⟩ : ∃ o, HR3l[t]? = some o := ⟨_, List.getElem?_eq_getElem (by omega)⟩
                obtain ⟨b, off, rfl, hb, hrow⟩ := HR3.out.2 t o ho
                have hkw : Keeps (fun _ => False) w wr := HK1.out.trans hP.many.k
                have HFO := Lib.hid (HT3.out o (List.mem_of_getElem? ho))
                have hof := HFO.out.keep hkw
                have hrow' : wr.rangeAt b (off + t * 4) (opc o) := fun j v hv => (hkw.cell (p := ⟨b, off + t * 4 + j, none⟩) hb id).trans (hrow j v hv)
                have g0 := hrow' 0 _ rfl
                have g1 := hrow' 1 _ rfl
                have g2 := hrow' 2 _ rfl
                have g3 := hrow' 3 _ rfl
                rw [Nat.add_zero] at g0
                have hlt' : (t : Int) < (m3 : Int) := by omega
                have HP := Lib.hid hP
                have hDo : ∀ Wx, Keeps (fun _ => False) wr Wx → Calls Try.prog 23 #[P1, .agg #[.int .i64 o.k, .int .i64 o.a, .int .u8 o.f, .slice o.va o.vn o.vc]] Wx fun e w' => e = .returned (.tuple #[.agg (bk (D1.does o).1).toArray, .int .i64 (D1.does o).2.1]) ∧ ∃ L' : DL, L'.ptr = P1 ∧ Many w1 w' ([(L1, D1)].set 0 (L', (D1.does o).2.2)) [rowS (.slice sa R1.n sc) R1, rowP (.slice qa R1.p.length qc) R1] ∧ Keeps L1.own Wx w' ∧ (∀ k, L'.own k → L1.own k ∨ Wx.heap.size ≤ k) := fun Wx hx =>
                  (hP.quiet hx).many.does (i := 0) rfl hP.sim.ok (by have := hP.sim.ob; omega) (by have := hP.sim.pb; omega) o (hof.keep hx) hP.ptr
                have HDO := Lib.hid hDo
                have HST := Lib.hid (hP.sim.step (by omega) o)
                have hwr := hkw.size
                rw [HP1.out] at HDO
                clear hrow hrow' ho hP hof hDo hkw
                go_wp2_with fail
                have hq : Keeps (fun _ => False) wr ((wr.alloc (.cells #[.int .i64 o.k, .int .i64 o.a, .int .u8 o.f, .slice o.va o.vn o.vc] 32))) := (Keeps.refl _ _).alloc _
                refine (HDO.out _ hq).mono ?_
                rintro e w5 ⟨rfl, L2, e1, hm5, hk5, ho5⟩
                rw [← HP1.out] at e1
                obtain ⟨bb, hbb⟩ : ∃ bb, bb = (D1.does o).1 := ⟨_, rfl⟩
                obtain ⟨cc, hcc⟩ : ∃ cc, cc = (D1.does o).2.1 := ⟨_, rfl⟩
                obtain ⟨D2, hD2⟩ : ∃ D2, D2 = (D1.does o).2.2 := ⟨_, rfl⟩
                rw [← hbb, ← hcc]
                rw [← hD2] at hm5
                rw [← hbb, ← hcc, ← hD2] at HST
                have hm6 : Many w1 w5 [(L2, D2)] [rowS (.slice sa R1.n sc) R1, rowP (.slice qa R1.p.length qc) R1] := hm5
                have hrd := hm6.rd (sv := .slice sa R1.n sc) (pv := .slice qa R1.p.length qc) (R := R1) (by simp) (by simp) HP.out.pure
                have hbl : bb.length = 64 := by
                  rw [← HST.out.1]
                  exact want_len hrd (by have := HP.out.sim.ob; have := HP.out.sim.tb; rw [HP.out.sim.ops]; omega) o
                have hk6 : Keeps L1.own wr w5 := (hq.mono fun _ _ h => h.elim).trans hk5
                have HOW : Hid (∀ k, L2.own k → L1.own k ∨ wr.heap.size ≤ k) := Lib.hid fun k hk => (ho5 k hk).imp id fun h => Nat.le_trans hq.size h
                have hown1 := HP.out.many.lt (i := 0) (x := (L1, D1)) rfl
                have bO : Blk w5 wr.heap.size 32 [.int .i64 o.k, .int .i64 o.a, .int .u8 o.f, .slice o.va o.vn o.vc] := hk5.blk (Blk.new wr 32 _) (fun e => by have := hown1 _ e; omega)
                have bB : Blk w5 B1 43 _ := hk6.blk HP.out.blk fun e => (HP.out.beside.1 0 _ rfl B1 e) rfl
                have e0 := bO.cell (i := 0) rfl
                have e2 := bO.cell (i := 1) rfl
                have e3 := bO.cell (i := 2) rfl
                have e4 := bO.cell (i := 3) rfl
                have hO := bO.lt
                have hBl := bB.lt
                have hBl2 : B1 < w5.heap.size + 1 := by omega
                have hO2 : wr.heap.size < w5.heap.size + 1 := by omega
                obtain ⟨bh, br, bm⟩ := blk_row bB (n := 6) rfl
                have HWN := Lib.hid (fun Wx (hx : Keeps (fun _ => False) w5 Wx) => (want_any _ _ R1 Wx (hrd.quiet hx) (by have := HP.out.sim.ob; have := HP.out.sim.tb; rw [HP.out.sim.ops]; omega) (by have := HP.out.sim.pb; have := HP.out.sim.tb; rw [HP.out.sim.p]; omega) o (HFO.out.keep ((HK1.out.trans hm6.k).trans hx))).mono fun _ _ => WantP.form)
                have HM6 := Lib.hid hm6
                have HK5 := Lib.hid hk6
                have HBB := Lib.hid bB
                have hzl : (bk zb).length = 64 := by rw [bk_len, zb_len]
                have hone : oneAll (bk zb).toArray = true := all_oneCell_toArray bk_one
                obtain ⟨cs, hcs⟩ : ∃ cs, cs = bk bb := ⟨_, rfl⟩
                have hcl : cs.length = 64 := by rw [hcs, bk_len, hbl]
                have honeC : oneAll cs.toArray = true := by rw [hcs]; exact all_oneCell_toArray bk_one
                have HCS := Lib.hid hcs
                have HD2 := Lib.hid hD2
                have HE1 := Lib.hid e1
                rw [← hcs]
                clear hm5 hm6 hrd hk5 hk6 ho5 bO bB hcs hbb hcc hD2 e1 hq
                go_wp2_with fail
                have hq5 : Keeps (fun _ => False) w5 ((w5.alloc (.cells cs.toArray 27)).alloc (.cells (bk zb).toArray 27)) := ((Keeps.refl _ _).alloc _).alloc _
                have HQ5 := Lib.hid hq5
                refine (HWN.out _ hq5).mono ?_
                rintro e w6 ⟨ta, tc, ua, uc, rfl, hR2, o1, o2, hk7⟩
                obtain ⟨R2, hR2e⟩ : ∃ R2, R2 = (R1.want o).2.2 := ⟨_, rfl⟩
                rw [← hR2e] at hR2 o1 o2 ⊢
                rw [HST.out.1, HST.out.2.1, ← HCS.out]
                have hs3 := HST.out.2.2
                rw [← hR2e] at hs3
                have bB6 := hk7.blk (HQ5.out.blk HBB.out id) id
                obtain ⟨Bh, Br, Bm⟩ := blk_row bB6 (n := 6) rfl
                have bG0 := Blk.new (w5.alloc (.cells cs.toArray 27)) 27 (bk zb)
                rw [World.size_alloc] at bG0
                have bG := hk7.blk bG0 id
                have bC := hk7.blk ((Blk.new w5 27 cs).alloc (.cells (bk zb).toArray 27)) id
                have hmay := may_beside bG (b := B1) (by omega) hzl
                have HBG := Lib.hid bG
                have HBC := Lib.hid bC
                have HK7 := Lib.hid hk7
                have HR2 := Lib.hid hR2
                have HO1 := Lib.hid o1
                have HO2 := Lib.hid o2
                have HS3 := Lib.hid hs3
                have HN3 : Hid (D2.n = 6) := Lib.hid (by rw [HD2.out, does_n D1 o HP.out.sim (by omega) (want_n R1 o)]; exact HP.out.dn)
                clear hq5 hk7 hR2 o1 o2 hs3 bB6 bG0 bG bC hR2e bh br bm
                go_upto_region 28 with (fail)
                obtain ⟨W6, hW6⟩ : ∃ W6, W6 = w6.setCells B1 0 [.slice ta R2.n tc, .slice ua R2.p.length uc, .bool R2.dead, .int .i64 R2.left, .int .i64 R2.fails, .int .i64 R2.ops] := ⟨_, rfl⟩
                obtain ⟨W7, hW7⟩ : ∃ W7, W7 = W6.setCells (w5.heap.size + 1) 0 cs := ⟨_, rfl⟩
                obtain ⟨hP6, hB7, hk7, hkM, hu, hmo⟩ := HP.out.step1 (L2 := L2) (D2 := D2) HE1.out HM6.out HK5.out HOW.out HQ5.out HK7.out HR2.out HO1.out HO2.out HS3.out HN3.out hW6
                have hP7 : Pair w1 P1 B1 (2 * m1 + 2 * t + 2) 6 L2 D2 ta tc ua uc R2 W7 := by
                  rw [hW7]
                  refine hP6.put (fun k hk e => ?_) ?_ cs
                  · rcases hk with h | h | h | h
                    · have := HM6.out.lt (i := 0) (x := (L2, D2)) rfl k h
                      omega
                    · rcases HO1.out k h with h | h
                      · have := HM6.out.rlt (r := rowS (.slice sa R1.n sc) R1) (by simp) k h
                        omega
                      · simp at h
                        omega
                    · rcases HO2.out k h with h | h
                      · have := HM6.out.rlt (r := rowP (.slice qa R1.p.length qc) R1) (by simp) k h
                        omega
                      · simp at h
                        omega
                    · omega
                  · have := HM6.out.k.size
                    omega
                have hks : Keeps (fun k => k = w5.heap.size + 1) W6 W7 := by rw [hW7]; exact setCells_keeps _ _ _ _
                have hkM7 : Keeps (Mod L1 B1) wr W7 := ((hkM.mono (S' := fun k => Mod L1 B1 k ∨ wr.heap.size ≤ k) fun k _ e => .inl e).trans (hks.mono fun k _ e => .inr (by have := HK5.out.size; have e' : k = w5.heap.size + 1 := e; omega))).mono fun k hk e => e.elim id fun e => absurd e (Nat.not_le.2 hk)
                have bG7 : Blk W7 (w5.heap.size + 1) 27 cs := by rw [hW7, hW6]; exact blk_overT (blk_beside HBG.out (by omega) 0 _) (by omega)
                have bC7 : Blk W7 w5.heap.size 27 cs := hks.blk (hk7.blk HBC.out (by omega)) (by omega)
                rw [← hW6, ← hW7]
                obtain ⟨Gh, Gr, Gm⟩ := blk_row bG7 (n := 64) hcl
                obtain ⟨Ch, Cr, Cm⟩ := blk_row bC7 (n := 64) hcl
                have heq := fun W => eq27_self bb hbl W
                rw [← HCS.out] at heq
                have HE8 : Hid (Both2 w1 P0 P1 B B1 (2 * m1 + 2 * m2) (2 * m1 + 2 * (t + 1)) W7) := Lib.hid (Both2.symm (Both2.move HP.out HPC.out HX3.out HX4.out hP7 hkM7 hu hmo))
                clear hW7 hP7 hB7 hk7 hkM hu hmo Bh Br Bm hW6 hP6 hks hkM7 bG7 bC7 hmay
                go_wp2_with fail
                go_roundw
                case rel => exact ⟨t + 1, by omega, by go_num, HE8.out⟩
                case measure => simp [intOf]; omega
              · obtain rfl : m3 = t := by omega
                obtain ⟨L1, D1, sa, sc, qa, qc, R1, LX, DX, sx, cx, qx, dx, RX, hP, hPC, _, _⟩ := hpe
                have hA1 := agree_pair hP
                rw [HP0.out] at hA1
                have HA1 := Lib.hid hA1
                have HA2 := Lib.hid (fun Wx (hx : Keeps (fun _ => False) wr Wx) => agree_pair (hPC.quiet hx))
                rw [HP1.out] at HA2
                obtain ⟨bh, br, bm⟩ := blk_row hP.blk (n := 6) rfl
                have HCB := Lib.hid hPC.blk
                have HKF := Lib.hid (HK1.out.trans hP.many.k)
                clear hP hPC hA1
                go_wp2_with fail
                refine HA1.out.mono ?_
                rintro e w7 ⟨rfl, hk7⟩
                have HA3 := Lib.hid (HA2.out w7 hk7)
                obtain ⟨ch, cr, cm⟩ := blk_row (hk7.blk HCB.out id) (n := 6) rfl
                have HK7 := Lib.hid (HKF.out.trans hk7)
                clear hk7
                go_wp2_with fail
                refine HA3.out.mono ?_
                rintro e w8 ⟨rfl, hk8⟩
                have HK8 := Lib.hid (HK7.out.trans hk8)
                clear hk8
                go_wp2_with fail
                go_ret
                exact ⟨rfl, HK8.out⟩
end Go.Proofs.Ytjiammhmeliogaa
