/- DiskDoes, walked. -/
import Derived.Test.YtjiammhmeliogaaAgree
namespace Go.Proofs.Ytjiammhmeliogaa
open Go.RowKit
set_option linter.unusedVariables false
set_option linter.unusedSimpArgs false
attribute [local go_sem ↓] exec_load27 exec_store27 exec_new27 exec_alloc27 exec_build27 zeroValue27 exec_load43 exec_store43
attribute [local go_sem] mayRow_drew padr_some rowAt_drew hasRow_drew rowAt_alloc hasRow_alloc run_cells27 one_obj eq27_self

/-- A disk and the document's, side by side; the document's lies in block B. -/
structure Pair (w0 : World) (p : Value) (B t n : Nat) (L : DL) (D : DD) (sa sc qa qc : _) (R : RD) (w : World) : Prop where
  ptr : L.ptr = p
  many : Many w0 w [(L, D)] [rowS (.slice sa R.n sc) R, rowP (.slice qa R.p.length qc) R]
  blk : Blk w B 43 [.slice sa R.n sc, .slice qa R.p.length qc, .bool R.dead, .int .i64 R.left, .int .i64 R.fails, .int .i64 R.ops]
  pure : RPure R
  sim : Sim t D R
  dn : D.n = n
  B0 : w0.heap.size ≤ B
theorem Pair.quiet {w0 : World} {p : Value} {B t n : Nat} {L : DL} {D : DD} {sa sc qa qc : _} {R : RD} {w w' : World} (h : Pair w0 p B t n L D sa sc qa qc R w) (hk : Keeps (fun _ => False) w w') : Pair w0 p B t n L D sa sc qa qc R w' :=
  ⟨h.ptr, h.many.quiet hk, hk.blk h.blk id, h.pure, h.sim, h.dn, h.B0⟩
theorem Pair.rd {w0 : World} {p : Value} {B t n : Nat} {L : DL} {D : DD} {sa sc qa qc : _} {R : RD} {w : World} (h : Pair w0 p B t n L D sa sc qa qc R w) : RdAt w (.slice sa R.n sc) (.slice qa R.p.length qc) R := h.many.rd (by simp) (by simp) h.pure
theorem rows_ne {sv pv : Value} {R : RD} : ∀ r : RowT, r ∈ [rowS sv R, rowP pv R] → r.e ≠ 43 := by
  intro r hr
  simp at hr
  rcases hr with rfl | rfl
  · exact (by decide : (27 : Nat) ≠ 43)
  · exact (by decide : (101 : Nat) ≠ 43)
theorem want_len {w : World} {sv pv : Value} {R : RD} (h : RdAt w sv pv R) (hop : R.ops < 1000000000000) (o : OpT) : (R.want o).1.length = 64 := by
  unfold RD.want
  split
  · exact (read_at h hop o.a).2
  · split
    · exact zb_len
    · split
      · exact zb_len
      · split
        · exact zb_len
        · split <;> exact zb_len
theorem does_n (D : DD) (o : OpT) {t : Nat} {R : RD} (h : Sim t D R) (ht : t + 1 < 1000) (hR : (R.want o).2.2.n = R.n) : (D.does o).2.2.n = D.n := by
  have := (h.step ht o).2.2.n
  rw [← this, hR, h.n]
theorem want_n (R : RD) (o : OpT) : (R.want o).2.2.n = R.n := by
  have h1 := fun i => (asked_same R i).1
  have h2 := fun i => (done_same (R.asked i).2).1
  unfold RD.want
  split
  · unfold RD.read
    split
    · exact h1 _
    · exact h1 _
  · split
    · show (R.write o.a (blk o.f)).2.n = R.n
      unfold RD.write
      split
      · exact h1 _
      · split
        · exact (h2 _).trans (h1 _)
        · exact (h2 _).trans (h1 _)
    · split
      · show R.sync.2.n = R.n
        unfold RD.sync
        split
        · exact h1 _
        · split
          · exact (h2 _).trans (h1 _)
          · exact (h2 _).trans (h1 _)
      · split
        · show (R.arm o.a).2.n = R.n
          unfold RD.arm
          split <;> rfl
        · split
          · show (R.fail o.a).2.n = R.n
            unfold RD.fail
            split <;> rfl
          · rfl
theorem Pair.beside {w0 : World} {p : Value} {B t n : Nat} {L : DL} {D : DD} {sa sc qa qc : _} {R : RD} {w : World} (h : Pair w0 p B t n L D sa sc qa qc R w) : Beside B [(L, D)] [rowS (.slice sa R.n sc) R, rowP (.slice qa R.p.length qc) R] :=
  h.many.blk (t := 43) h.blk (by decide) rows_ne
/-- Both are done; the document's is stored. -/
theorem Pair.step {w0 w w2 w3 w4 W : World} {p : Value} {B G t t' n : Nat} {L L2 : DL} {D D2 : DD} {sa sc qa qc : _} {R R2 : RD} {ta tc ua uc : _} {cs : List Value} (h : Pair w0 p B t n L D sa sc qa qc R w)
    (hp : L2.ptr = p) (hm : Many w0 w2 [(L2, D2)] [rowS (.slice sa R.n sc) R, rowP (.slice qa R.p.length qc) R]) (hk2 : Keeps L.own w w2) (h3 : Keeps (fun _ => False) w2 w3) (h4 : Keeps (fun _ => False) w3 w4)
    (hR : RdAt w4 (.slice ta R2.n tc) (.slice ua R2.p.length uc) R2) (o1 : Old w3 (.slice sa R.n sc) (.slice ta R2.n tc)) (o2 : Old w3 (.slice qa R.p.length qc) (.slice ua R2.p.length uc)) (hs : Sim t' D2 R2) (hn : D2.n = n)
    (hG : w2.heap.size ≤ G) (hG3 : G < w3.heap.size) (hW : W = (w4.setCells B 0 [.slice ta R2.n tc, .slice ua R2.p.length uc, .bool R2.dead, .int .i64 R2.left, .int .i64 R2.fails, .int .i64 R2.ops]).setCells G 0 cs) :
    Pair w0 p B t' n L2 D2 ta tc ua uc R2 W ∧ B < w2.heap.size ∧ Keeps (fun k => k = B ∨ k = G) w4 W := by
  have hB : Blk w2 B 43 _ := hk2.blk h.blk fun e => (h.beside.1 0 _ rfl B e) rfl
  have hB4 := h4.blk (h3.blk hB id) id
  have hBl := hB.lt
  have hm3 := hm.quiet h3
  have hm4 := (hm3.rmove (sv := .slice sa R.n sc) (pv := .slice qa R.p.length qc) (R := R) (by simp) (by simp) h4 hR o1 o2).rless (qs := [rowS (.slice ta R2.n tc) R2, rowP (.slice ua R2.p.length uc) R2]) (by simp)
  have hb4 : Beside B [(L2, D2)] [rowS (.slice ta R2.n tc) R2, rowP (.slice ua R2.p.length uc) R2] := hm4.blk (t := 43) hB4 (by decide) rows_ne
  have hg4 : Beside G [(L2, D2)] [rowS (.slice ta R2.n tc) R2, rowP (.slice ua R2.p.length uc) R2] := by
    refine ⟨fun i x hx k hk => ?_, fun r hr k hk => ?_⟩
    · have := hm.lt hx k hk
      omega
    · simp at hr
      rcases hr with rfl | rfl
      · rcases o1 k hk with e | e
        · have := hm.rlt (r := rowS (.slice sa R.n sc) R) (by simp) k e
          omega
        · omega
      · rcases o2 k hk with e | e
        · have := hm.rlt (r := rowP (.slice qa R.p.length qc) R) (by simp) k e
          omega
        · omega
  have hG0 : w0.heap.size ≤ G := Nat.le_trans hm.k.size hG
  have m5 := (hm4.storeCells hb4 h.B0 0 [.slice ta R2.n tc, .slice ua R2.p.length uc, .bool R2.dead, .int .i64 R2.left, .int .i64 R2.fails, .int .i64 R2.ops]).storeCells hg4 hG0 0 cs
  have bF := blk_beside (blk_overT hB4 (cs := [.slice ta R2.n tc, .slice ua R2.p.length uc, .bool R2.dead, .int .i64 R2.left, .int .i64 R2.fails, .int .i64 R2.ops]) rfl) (show B ≠ G by omega) 0 cs
  have hk : Keeps (fun k => k = B ∨ k = G) w4 W := by
    rw [hW]
    exact ((setCells_keeps B _ 0 w4).mono fun k _ e => .inl e).trans ((setCells_keeps G _ 0 _).mono fun k _ e => .inr e)
  rw [hW] at hk ⊢
  exact ⟨⟨hp, m5, bF, hR.pure, hs, hn, h.B0⟩, hBl, hk⟩

theorem agree_pair {w0 : World} {p : Value} {B t n : Nat} {L : DL} {D : DD} {sa sc qa qc : _} {R : RD} {w : World} (h : Pair w0 p B t n L D sa sc qa qc R w) :
    Calls Try.prog 25 #[p, .agg #[.slice sa R.n sc, .slice qa R.p.length qc, .bool R.dead, .int .i64 R.left, .int .i64 R.fails, .int .i64 R.ops]] w fun e w' => e = .returned (.bool true) ∧ Keeps (fun _ => False) w w' := by
  have hr := h.rd
  have hs := h.sim
  have hpe := hr.pend
  obtain ⟨_, _, e, hc, _⟩ := own_slice hr.safe
  injection e with _ _ e
  subst e
  rw [hs.n, hs.p, hs.dead, hs.ops, ← h.ptr]
  rw [hs.p] at hpe
  rw [hs.n] at hc
  exact agree_any L D w (h.many.dk 0 _ rfl) sa qa sc qc R.left R.fails hpe hc

/-- The relation of the loops. -/
def PairE (w0 : World) (p : Value) (B t n : Nat) (w : World) : Prop := ∃ L D sa sc qa qc R, Pair w0 p B t n L D sa sc qa qc R w

set_option maxRecDepth 100000 in
set_option maxHeartbeats 8000000 in
theorem does_law (N : Int) (a : Option Addr) (n c : Nat) (os : List OpT) (w : World) (hr : OpRow w.heap.size w a n os) (hn : n ≤ c) (hc : c ≤ maxLen) (hfit : ∀ o, o ∈ os → o.Fit w) :
    Calls Try.prog 4 #[.int .i64 N, .slice a n c] w fun e w' => e = .returned (.bool true) ∧ Keeps (fun _ => False) w w' := by
  have HF := Lib.hid (fun w => few_any a n c w hn hc)
  have HR := Lib.hid hr
  have HFIT := Lib.hid hfit
  have hlen := hr.1
  clear hr hfit
  by_cases hbad : N < 1 ∨ 2048 < N
  · have HN1 := Lib.hid (new_bad N hbad)
    have HN2 := Lib.hid (rnew_bad N hbad)
    clear hbad
    go_enter Try.func4, Try.ntmps4
    go_wp2_with fail
    refine (wakes_any w).mono ?_
    rintro e w1 ⟨rfl, hk1⟩
    have HK1 := Lib.hid hk1
    clear hk1
    go_wp2_with fail
    refine (HN1.out w1).mono ?_
    rintro e w2 ⟨rfl, rfl⟩
    go_wp2_with fail
    refine (HN2.out w1).mono ?_
    rintro e w2 ⟨⟨v, rfl, rfl⟩, hk2⟩
    have HK2 : Hid (Keeps (fun k => w.heap.size ≤ k) w w2) := Lib.hid ((HK1.out.trans hk2).mono fun _ _ h => h.elim)
    obtain ⟨zh, zr, zm⟩ := blk_row (Blk.new w2 43 z43) (n := 6) rfl
    have hs2 := (HK1.out.trans hk2).size
    clear hk2
    unfold z43 at zm
    go_wp2_with fail
    go_ret
    exact ⟨rfl, Keeps.from ((HK2.out.alloc _).trans ((setCells_keeps _ _ _ _).mono fun k _ e => by have e' : k = w2.heap.size := e; omega))⟩
  · obtain ⟨m0, rfl⟩ : ∃ m0 : Nat, N = (m0 : Int) := ⟨N.toNat, by omega⟩
    have hm1 : 1 ≤ m0 := by omega
    have hm2 : m0 ≤ 2048 := by omega
    clear hbad
    go_enter Try.func4, Try.ntmps4
    go_wp2_with fail
    refine (wakes_any w).mono ?_
    rintro e w1 ⟨rfl, hk1⟩
    have HK1 := Lib.hid hk1
    clear hk1
    go_wp2_with fail
    refine (new_ok m0 hm1 hm2 w1).mono ?_
    rintro e w2 ⟨L, rfl, hd, hown, hk⟩
    have hm := (Many.start w1).more hd hown hk
    rw [List.nil_append] at hm
    obtain ⟨P0, hP0⟩ : ∃ P0, P0 = L.B := ⟨_, rfl⟩
    have hLp : L.ptr = .pointer (some ⟨P0, 0, none⟩) := by rw [hP0]; rfl
    rw [hLp]
    have HLP := Lib.hid hLp
    have HM := Lib.hid hm
    clear hd hown hk hm hLp hP0
    go_wp2_with fail
    refine (rnew_ok m0 hm1 hm2 w2).mono ?_
    rintro e w3 ⟨sv, rfl, hR, ho, hk3⟩
    obtain ⟨sa, sc, rfl, _⟩ := own_slice hR.safe
    have hm3 := ((HM.out.quiet hk3).rmore (rowP (.slice none 0 0) (RD.fresh m0)) hR.pend (fun g hg => by cases hg)).rmore (rowS (.slice sa (RD.fresh m0).n sc) (RD.fresh m0)) hR.safe (fun g hg => by
      have h1 := ho g hg
      have h2 := HM.out.k.size
      exact ⟨by omega, fun i x hx h3 => by have := HM.out.lt hx g h3; omega⟩)
    obtain ⟨B, hB⟩ : ∃ B, B = w3.heap.size := ⟨_, rfl⟩
    have HB := Lib.hid hB
    have hB1 : w1.heap.size ≤ B := by have := hm3.k.size; omega
    have HM3 := Lib.hid hm3
    have HRP := Lib.hid hR.pure
    unfold rv RD.fresh
    dsimp only
    clear ho hk3 hR hm3 hB
    go_upto_region 5 with (fail)
    rw [← HB.out]
    obtain ⟨W, hW⟩ : ∃ W, W = w3.alloc (.cells #[.slice sa m0 sc, .slice none 0 0, .bool false, .int .i64 (-1), .int .i64 (-1), .int .i64 0] 43) := ⟨_, rfl⟩
    have hPr : Pair w1 (.pointer (some ⟨P0, 0, none⟩)) B 0 m0 L (DD.fresh m0) sa sc none 0 (RD.fresh m0) W := by
      have hkW : Keeps (fun _ => False) w3 W := by rw [hW]; exact (Keeps.refl _ _).alloc _
      exact ⟨HLP.out, (HM3.out.quiet hkW).rless (by simp [RD.fresh]), by rw [hW, HB.out]; exact Blk.new w3 43 _, HRP.out, Sim.fresh m0, rfl, hB1⟩
    rw [← hW]
    have HPR : Hid (PairE w1 (.pointer (some ⟨P0, 0, none⟩)) B 0 m0 W) := Lib.hid ⟨_, _, _, _, _, _, _, hPr⟩
    have hBW := hPr.blk.lt
    clear hW hPr
    go_wp2_with fail
    refine (HF.out _).mono ?_
    rintro e w4 ⟨rfl, rfl⟩
    obtain ⟨m, hm⟩ : ∃ m, m = min n 120 := ⟨_, rfl⟩
    rw [← hm]
    have hml : m ≤ n := by omega
    have hm120 : m ≤ 120 := by omega
    clear hm
    go_wp2_with fail
    go_loopw [45] (fun i wr => ∃ t : Nat, t ≤ m ∧ i = .int .i64 t ∧ PairE w1 (.pointer (some ⟨P0, 0, none⟩)) B (2 * t) m0 wr) (fun i _ => m - (intOf i).toNat)
    case atStart => exact ⟨0, by omega, rfl, HPR.out⟩
    case round =>
      obtain ⟨t, ht, rfl, hpe⟩ := hrel
      by_cases hlt : t < m
      · obtain ⟨L1, D1, sa, sc, qa, qc, R1, hP⟩ := hpe
        obtain ⟨o, ho⟩ : ∃ o, os[t]? = some o := ⟨_, List.getElem?_eq_getElem (by omega)⟩
        obtain ⟨b, off, rfl, hb, hrow⟩ := HR.out.2 t o ho
        have hkw : Keeps (fun _ => False) w wr := HK1.out.trans hP.many.k
        have HFO := Lib.hid (HFIT.out o (List.mem_of_getElem? ho))
        have hof := HFO.out.keep hkw
        have hrow' : wr.rangeAt b (off + t * 4) (opc o) := fun j v hv => (hkw.cell (p := ⟨b, off + t * 4 + j, none⟩) hb id).trans (hrow j v hv)
        have g0 := hrow' 0 _ rfl
        have g1 := hrow' 1 _ rfl
        have g2 := hrow' 2 _ rfl
        have g3 := hrow' 3 _ rfl
        rw [Nat.add_zero] at g0
        have hlt' : (t : Int) < (m : Int) := by omega
        have HP := Lib.hid hP
        have HOF := Lib.hid hof
        have hDo : ∀ Wx, Keeps (fun _ => False) wr Wx → Calls Try.prog 23 #[.pointer (some ⟨P0, 0, none⟩), .agg #[.int .i64 o.k, .int .i64 o.a, .int .u8 o.f, .slice o.va o.vn o.vc]] Wx fun e w' => e = .returned (.tuple #[.agg (bk (D1.does o).1).toArray, .int .i64 (D1.does o).2.1]) ∧ ∃ L' : DL, L'.ptr = .pointer (some ⟨P0, 0, none⟩) ∧ Many w1 w' ([(L1, D1)].set 0 (L', (D1.does o).2.2)) [rowS (.slice sa R1.n sc) R1, rowP (.slice qa R1.p.length qc) R1] ∧ Keeps L1.own Wx w' ∧ (∀ k, L'.own k → L1.own k ∨ Wx.heap.size ≤ k) := fun Wx hx =>
          (hP.quiet hx).many.does (i := 0) rfl hP.sim.ok (by have := hP.sim.ob; omega) (by have := hP.sim.pb; omega) o (hof.keep hx) hP.ptr
        have HDO := Lib.hid hDo
        have HST := Lib.hid (hP.sim.step (by omega) o)
        have hwr := hkw.size
        clear hrow hrow' ho hP hof hDo hkw
        go_wp2_with fail
        have hq : Keeps (fun _ => False) wr ((wr.alloc (.cells #[.int .i64 o.k, .int .i64 o.a, .int .u8 o.f, .slice o.va o.vn o.vc] 32))) := (Keeps.refl _ _).alloc _
        refine (HDO.out _ hq).mono ?_
        rintro e w5 ⟨rfl, L2, e1, hm5, hk5, ho5⟩
        obtain ⟨bb, hbb⟩ : ∃ bb, bb = (D1.does o).1 := ⟨_, rfl⟩
        obtain ⟨cc, hcc⟩ : ∃ cc, cc = (D1.does o).2.1 := ⟨_, rfl⟩
        obtain ⟨D2, hD2⟩ : ∃ D2, D2 = (D1.does o).2.2 := ⟨_, rfl⟩
        rw [← hbb, ← hcc]
        rw [← hD2] at hm5
        rw [← hbb, ← hcc, ← hD2] at HST
        have hm6 : Many w1 w5 [(L2, D2)] [rowS (.slice sa R1.n sc) R1, rowP (.slice qa R1.p.length qc) R1] := hm5
        have hrd := hm6.rd (sv := .slice sa R1.n sc) (pv := .slice qa R1.p.length qc) (R := R1) (by simp) (by simp) HP.out.pure
        have hbl : bb.length = 64 := by
          rw [← HST.out.1]
          exact want_len hrd (by have := HP.out.sim.ob; have := HP.out.sim.tb; rw [HP.out.sim.ops]; omega) o
        have hk6 : Keeps L1.own wr w5 := (hq.mono fun _ _ h => h.elim).trans hk5
        have hown1 := HP.out.many.lt (i := 0) (x := (L1, D1)) rfl
        have bO : Blk w5 wr.heap.size 32 [.int .i64 o.k, .int .i64 o.a, .int .u8 o.f, .slice o.va o.vn o.vc] := hk5.blk (Blk.new wr 32 _) (fun e => by have := hown1 _ e; omega)
        have bB : Blk w5 B 43 _ := hk6.blk HP.out.blk fun e => (HP.out.beside.1 0 _ rfl B e) rfl
        have e0 := bO.cell (i := 0) rfl
        have e2 := bO.cell (i := 1) rfl
        have e3 := bO.cell (i := 2) rfl
        have e4 := bO.cell (i := 3) rfl
        have hO := bO.lt
        have hBl := bB.lt
        have hBl2 : B < w5.heap.size + 1 := by omega
        have hO2 : wr.heap.size < w5.heap.size + 1 := by omega
        obtain ⟨bh, br, bm⟩ := blk_row bB (n := 6) rfl
        have HWN := Lib.hid (fun Wx (hx : Keeps (fun _ => False) w5 Wx) => (want_any _ _ R1 Wx (hrd.quiet hx) (by have := HP.out.sim.ob; have := HP.out.sim.tb; rw [HP.out.sim.ops]; omega) (by have := HP.out.sim.pb; have := HP.out.sim.tb; rw [HP.out.sim.p]; omega) o (HFO.out.keep ((HK1.out.trans hm6.k).trans hx))).mono fun _ _ => WantP.form)
        have HM6 := Lib.hid hm6
        have HK5 := Lib.hid hk6
        have HBO := Lib.hid bO
        have HBB := Lib.hid bB
        have hzl : (bk zb).length = 64 := by rw [bk_len, zb_len]
        have hone : oneAll (bk zb).toArray = true := all_oneCell_toArray bk_one
        obtain ⟨cs, hcs⟩ : ∃ cs, cs = bk bb := ⟨_, rfl⟩
        have hcl : cs.length = 64 := by rw [hcs, bk_len, hbl]
        have honeC : oneAll cs.toArray = true := by rw [hcs]; exact all_oneCell_toArray bk_one
        have HCS := Lib.hid hcs
        have HD2 := Lib.hid hD2
        have HE1 := Lib.hid e1
        rw [← hcs]
        clear hm5 hm6 hrd hk5 hk6 ho5 bO bB hcs hbb hcc hD2 e1 hq
        have hone' := honeC
        go_wp2_with fail
        have hq5 : Keeps (fun _ => False) w5 ((w5.alloc (.cells cs.toArray 27)).alloc (.cells (bk zb).toArray 27)) := ((Keeps.refl _ _).alloc _).alloc _
        have HQ5 := Lib.hid hq5
        refine (HWN.out _ hq5).mono ?_
        rintro e w6 ⟨ta, tc, ua, uc, rfl, hR2, o1, o2, hk7⟩
        obtain ⟨R2, hR2e⟩ : ∃ R2, R2 = (R1.want o).2.2 := ⟨_, rfl⟩
        rw [← hR2e] at hR2 o1 o2 ⊢
        rw [HST.out.1, HST.out.2.1, ← HCS.out]
        have hs3 := HST.out.2.2
        rw [← hR2e] at hs3
        have bB6 := hk7.blk (HQ5.out.blk HBB.out id) id
        obtain ⟨Bh, Br, Bm⟩ := blk_row bB6 (n := 6) rfl
        have bG0 := Blk.new (w5.alloc (.cells cs.toArray 27)) 27 (bk zb)
        rw [World.size_alloc] at bG0
        have bG := hk7.blk bG0 id
        have bC := hk7.blk ((Blk.new w5 27 cs).alloc (.cells (bk zb).toArray 27)) id
        have hmay := may_beside bG (b := B) (by omega) hzl
        have HBG := Lib.hid bG
        have HBC := Lib.hid bC
        have HK7 := Lib.hid hk7
        have HR2 := Lib.hid hR2
        have HO1 := Lib.hid o1
        have HO2 := Lib.hid o2
        have HS3 := Lib.hid hs3
        have HN3 : Hid (D2.n = m0) := Lib.hid (by rw [HD2.out, does_n D1 o HP.out.sim (by omega) (want_n R1 o)]; exact HP.out.dn)
        clear hq5 hk7 hR2 o1 o2 hs3 bB6 bG0 bG bC hR2e bh br bm
        go_upto_region 15 with (fail)
        obtain ⟨W7, hW7⟩ : ∃ W7, W7 = (w6.setCells B 0 [.slice ta R2.n tc, .slice ua R2.p.length uc, .bool R2.dead, .int .i64 R2.left, .int .i64 R2.fails, .int .i64 R2.ops]).setCells (w5.heap.size + 1) 0 cs := ⟨_, rfl⟩
        obtain ⟨hP7, hB7, hk7⟩ := HP.out.step (L2 := L2) (D2 := D2) HE1.out HM6.out HK5.out HQ5.out HK7.out HR2.out HO1.out HO2.out HS3.out HN3.out (G := w5.heap.size + 1) (by omega) (by simp) hW7
        have bG7 : Blk W7 (w5.heap.size + 1) 27 cs := by rw [hW7]; exact blk_overT (blk_beside HBG.out (by omega) 0 _) (by omega)
        have bC7 : Blk W7 w5.heap.size 27 cs := hk7.blk HBC.out (by omega)
        rw [← hW7]
        obtain ⟨Bh, Br, Bm⟩ := blk_row hP7.blk (n := 6) rfl
        obtain ⟨Gh, Gr, Gm⟩ := blk_row bG7 (n := 64) hcl
        obtain ⟨Ch, Cr, Cm⟩ := blk_row bC7 (n := 64) hcl
        have HAG := Lib.hid (agree_pair hP7)
        have HP7 := Lib.hid hP7
        have heq := fun W => eq27_self bb hbl W
        rw [← HCS.out] at heq
        clear hW7 hP7 hB7 hk7 bG7 bC7 hmay
        go_wp2_with fail
        refine HAG.out.mono ?_
        rintro e w8 ⟨rfl, hk8⟩
        have HE8 : Hid (PairE w1 (.pointer (some ⟨P0, 0, none⟩)) B (2 * (t + 1)) m0 w8) := Lib.hid ⟨_, _, _, _, _, _, _, HP7.out.quiet hk8⟩
        clear hk8 Bh Br Bm Gh Gr Gm Ch Cr Cm heq
        go_wp2_with fail
        go_roundw
        case rel => exact ⟨t + 1, by omega, by go_num, HE8.out⟩
        case measure => simp [intOf]; omega
      · obtain rfl : t = m := by omega
        obtain ⟨L1, D1, sa, sc, qa, qc, R1, hP⟩ := hpe
        have hlen := hP.many.len (i := 0) (L := L1) (D := D1) rfl hP.ptr
        rw [hP.dn] at hlen
        have HLEN := Lib.hid hlen
        have HPE : Hid (PairE w1 (.pointer (some ⟨P0, 0, none⟩)) B (2 * t + 2 * 0) m0 wr) := Lib.hid ⟨_, _, _, _, _, _, _, hP⟩
        clear hlen hP
        go_wp2_with fail
        refine HLEN.out.mono ?_
        rintro e w4 ⟨rfl, rfl⟩
        obtain ⟨wo, rfl⟩ : ∃ wo : World, wo = wr := ⟨_, rfl⟩
        by_cases h12 : m0 ≤ 12
        all_goals
          obtain ⟨q, hq⟩ : ∃ q, q = min m0 12 := ⟨_, rfl⟩
          have hqm : q ≤ m0 := by omega
          have hq12 : q ≤ 12 := by omega
          have h12a : q = if m0 ≤ 12 then m0 else 12 := by split <;> omega
          first
            | (rw [if_pos h12] at h12a; have h12b : (m0 : Int) ≤ 12 := by omega)
            | (rw [if_neg h12] at h12a; have h12b : (12 : Int) ≤ (m0 : Int) := (by omega); have h12c : ¬ ((m0 : Int) ≤ 12) := (by omega))
          clear hq h12
          go_wp2_with fail
          try clear h12c
          go_loopw [14, 80] (fun _ i wr => ∃ k : Nat, k ≤ q ∧ i = .int .i64 k ∧ PairE w1 (.pointer (some ⟨P0, 0, none⟩)) B (2 * t + 2 * k) m0 wr) (fun _ i _ => q - (intOf i).toNat)
          case atStart => exact ⟨0, Nat.zero_le _, rfl, HPE.out⟩
          case round =>
            obtain ⟨k, hk, rfl, hpe⟩ := hrel
            by_cases hlk : k < q
            · have hl1 : (k : Int) < (m0 : Int) := by omega
              have hl2 : (k : Int) < 12 := by omega
              obtain ⟨L1, D1, sa, sc, qa, qc, R1, hP⟩ := hpe
              have hD := hP.many.dk 0 _ rfl
              have hrd := read_any L1 D1 wr hD (by have := hP.sim.ob; have := hP.sim.tb; omega) (k : Int)
              rw [hP.ptr] at hrd
              have HRD := Lib.hid hrd
              have HP := Lib.hid hP
              have HST := Lib.hid (hP.sim.read (by omega) (k : Int))
              have hwr := hP.many.k.size
              clear hD hrd hP
              go_wp2_with fail
              refine HRD.out.mono ?_
              rintro e w5 ⟨rfl, hd5, hk5⟩
              obtain ⟨bb, hbb⟩ : ∃ bb, bb = (D1.read (k : Int)).1 := ⟨_, rfl⟩
              obtain ⟨cc, hcc⟩ : ∃ cc, cc = (D1.read (k : Int)).2.1 := ⟨_, rfl⟩
              obtain ⟨D2, hD2⟩ : ∃ D2, D2 = (D1.read (k : Int)).2.2 := ⟨_, rfl⟩
              rw [← hbb, ← hcc]
              rw [← hD2] at hd5
              rw [← hbb, ← hcc, ← hD2] at HST
              have hm6 : Many w1 w5 [(L1, D2)] [rowS (.slice sa R1.n sc) R1, rowP (.slice qa R1.p.length qc) R1] := HP.out.many.step (i := 0) rfl hd5 hk5
              have hrd := hm6.rd (sv := .slice sa R1.n sc) (pv := .slice qa R1.p.length qc) (R := R1) (by simp) (by simp) HP.out.pure
              have hopR : R1.ops < 1000000000000 := by have := HP.out.sim.ob; have := HP.out.sim.tb; rw [HP.out.sim.ops]; omega
              have hbl : bb.length = 64 := by
                rw [← HST.out.1]
                exact (read_at hrd hopR (k : Int)).2
              have hk6 : Keeps L1.own wr w5 := hk5.mono fun k _ e => .inl e
              have bB : Blk w5 B 43 _ := hk6.blk HP.out.blk fun e => (HP.out.beside.1 0 _ rfl B e) rfl
              have hBl := bB.lt
              have hBl2 : B < w5.heap.size + 1 := by omega
              obtain ⟨bh, br, bm⟩ := blk_row bB (n := 6) rfl
              have HRR := Lib.hid (fun Wx (hx : Keeps (fun _ => False) w5 Wx) => rread_any _ _ R1 Wx (hrd.quiet hx) hopR (k : Int))
              have HRA := Lib.hid (fun Wx (hx : Keeps (fun _ => False) w5 Wx) => (read_at (hrd.quiet hx) hopR (k : Int)).1)
              obtain ⟨r, hr⟩ : ∃ r, r = R1.read (k : Int) := ⟨_, rfl⟩
              have hrn : r.2.2.n = R1.n := by rw [hr]; unfold RD.read; split <;> exact (asked_same R1 _).1
              have hrp : r.2.2.p = R1.p := by rw [hr]; unfold RD.read; split <;> exact (asked_same R1 _).2.2.1
              rw [← hr] at HRR HRA HST
              have HRN := Lib.hid hrn
              have HRPL := Lib.hid hrp
              have HQR := Lib.hid (show (rv (.slice sa R1.n sc) (.slice qa R1.p.length qc) r.2.2) = .agg #[.slice sa r.2.2.n sc, .slice qa r.2.2.p.length qc, .bool r.2.2.dead, .int .i64 r.2.2.left, .int .i64 r.2.2.fails, .int .i64 r.2.2.ops] from by rw [hrn, hrp]; rfl)
              have HM6 := Lib.hid hm6
              have HK5 := Lib.hid hk6
              have HBB := Lib.hid bB
              have hzl : (bk zb).length = 64 := by rw [bk_len, zb_len]
              have hone : oneAll (bk zb).toArray = true := all_oneCell_toArray bk_one
              obtain ⟨cs, hcs⟩ : ∃ cs, cs = bk bb := ⟨_, rfl⟩
              have hcl : cs.length = 64 := by rw [hcs, bk_len, hbl]
              have honeC : oneAll cs.toArray = true := by rw [hcs]; exact all_oneCell_toArray bk_one
              have HCS := Lib.hid hcs
              have HD2 := Lib.hid hD2
              rw [← hcs]
              clear hm6 hrd hk5 hk6 bB hcs hbb hcc hD2 hr hd5 hrn hrp
              unfold rv at HRR
              go_wp2_with fail
              have hq5 : Keeps (fun _ => False) w5 ((w5.alloc (.cells cs.toArray 27)).alloc (.cells (bk zb).toArray 27)) := ((Keeps.refl _ _).alloc _).alloc _
              have HQ5 := Lib.hid hq5
              refine (HRR.out _ hq5).mono ?_
              rintro e w6 ⟨rfl, hk7⟩
              rw [HQR.out]
              rw [HST.out.1, HST.out.2.1, ← HCS.out]
              have hs3 := HST.out.2.2
              have hR2 : RdAt w6 (.slice sa r.2.2.n sc) (.slice qa r.2.2.p.length qc) r.2.2 := by
                have := HRA.out w6 (hq5.trans hk7)
                rw [HRN.out, HRPL.out]
                exact this
              have ho1 : Old ((w5.alloc (.cells cs.toArray 27)).alloc (.cells (bk zb).toArray 27)) (.slice sa R1.n sc) (.slice sa r.2.2.n sc) := by rw [HRN.out]; exact Old.refl _ _
              have ho2 : Old ((w5.alloc (.cells cs.toArray 27)).alloc (.cells (bk zb).toArray 27)) (.slice qa R1.p.length qc) (.slice qa r.2.2.p.length qc) := by rw [HRPL.out]; exact Old.refl _ _
              obtain ⟨R2, hR2e⟩ : ∃ R2, R2 = r.2.2 := ⟨_, rfl⟩
              rw [← hR2e] at hR2 ho1 ho2 hs3 ⊢
              have bB6 := hk7.blk (HQ5.out.blk HBB.out id) id
              obtain ⟨Bh, Br, Bm⟩ := blk_row bB6 (n := 6) rfl
              have bG0 := Blk.new (w5.alloc (.cells cs.toArray 27)) 27 (bk zb)
              rw [World.size_alloc] at bG0
              have bG := hk7.blk bG0 id
              have bC := hk7.blk ((Blk.new w5 27 cs).alloc (.cells (bk zb).toArray 27)) id
              have hmay := may_beside bG (b := B) (by omega) hzl
              have HBG := Lib.hid bG
              have HBC := Lib.hid bC
              have HK7 := Lib.hid hk7
              have HR2 := Lib.hid hR2
              have HO1 := Lib.hid ho1
              have HO2 := Lib.hid ho2
              have HS3 := Lib.hid hs3
              have HN3 : Hid (D2.n = m0) := Lib.hid (by rw [← hs3.n, hR2e, HRN.out, HP.out.sim.n]; exact HP.out.dn)
              clear hq5 hk7 hR2 ho1 ho2 hs3 bB6 bG0 bG bC hR2e bh br bm
              go_upto_region 24 with (fail)
              obtain ⟨W7, hW7⟩ : ∃ W7, W7 = (w6.setCells B 0 [.slice sa R2.n sc, .slice qa R2.p.length qc, .bool R2.dead, .int .i64 R2.left, .int .i64 R2.fails, .int .i64 R2.ops]).setCells (w5.heap.size + 1) 0 cs := ⟨_, rfl⟩
              obtain ⟨hP7, hB7, hk7⟩ := HP.out.step (L2 := L1) (D2 := D2) HP.out.ptr HM6.out HK5.out HQ5.out HK7.out HR2.out HO1.out HO2.out HS3.out HN3.out (G := w5.heap.size + 1) (by omega) (by simp) hW7
              have bG7 : Blk W7 (w5.heap.size + 1) 27 cs := by rw [hW7]; exact blk_overT (blk_beside HBG.out (by omega) 0 _) (by omega)
              have bC7 : Blk W7 w5.heap.size 27 cs := hk7.blk HBC.out (by omega)
              rw [← hW7]
              obtain ⟨Gh, Gr, Gm⟩ := blk_row bG7 (n := 64) hcl
              obtain ⟨Ch, Cr, Cm⟩ := blk_row bC7 (n := 64) hcl
              have HE8 : Hid (PairE w1 (.pointer (some ⟨P0, 0, none⟩)) B (2 * t + 2 * (k + 1)) m0 W7) := Lib.hid ⟨_, _, _, _, _, _, _, hP7⟩
              have heq := fun W => eq27_self bb hbl W
              rw [← HCS.out] at heq
              clear hW7 hP7 hB7 hk7 bG7 bC7 hmay Bh Br Bm
              go_wp2_with fail
              go_roundw
              case rel => exact ⟨k + 1, by omega, by go_num, HE8.out⟩
              case measure => simp [intOf]; omega
            · first
                | have hge : (m0 : Int) ≤ (k : Int) := by omega
                | have hge : (12 : Int) ≤ (k : Int) := by omega
              obtain ⟨L1, D1, sa, sc, qa, qc, R1, hP⟩ := hpe
              have HK := Lib.hid (HK1.out.trans hP.many.k)
              clear hP hlk
              go_wp2_with fail
              go_ret
              exact ⟨rfl, HK.out⟩
end Go.Proofs.Ytjiammhmeliogaa
