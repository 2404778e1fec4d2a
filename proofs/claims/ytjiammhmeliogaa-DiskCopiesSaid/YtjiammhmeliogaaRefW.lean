/- want: what an op does by the document. -/
import Derived.Test.YtjiammhmeliogaaRefF
namespace Go.Proofs.Ytjiammhmeliogaa
open Go.RowKit
set_option linter.unusedVariables false
set_option linter.unusedSimpArgs false
attribute [local go_sem ↓] exec_row101 exec_load27 exec_store27 exec_new27 exec_alloc27 exec_build27 zeroValue27 exec_load43 exec_store43 empty41
attribute [local go_sem] mayRow_drew padr_some rowAt_drew hasRow_drew rowAt_alloc hasRow_alloc zc101_size run_cells27 one_obj

/-- A step, spelled out. -/
def RForm (sv pv : Value) (R' : RD) (c : Int) (w : World) (e : Ending) (w' : World) : Prop := ∃ ta tc ua uc, e = .returned (.tuple #[.agg #[.slice ta R'.n tc, .slice ua R'.p.length uc, .bool R'.dead, .int .i64 R'.left, .int .i64 R'.fails, .int .i64 R'.ops], .int .i64 c]) ∧ RdAt w' (.slice ta R'.n tc) (.slice ua R'.p.length uc) R' ∧ Old w sv (.slice ta R'.n tc) ∧ Old w pv (.slice ua R'.p.length uc) ∧ Keeps (fun _ => False) w w'
theorem RStep.form {sv pv : Value} {R' : RD} {c : Int} {w w' : World} {e : Ending} (h : RStep sv pv R' c w e w') : RForm sv pv R' c w e w' := by
  obtain ⟨sv', pv', rfl, hR, h1, h2, hk⟩ := h
  obtain ⟨ta, tc, rfl, _⟩ := own_slice hR.safe
  obtain ⟨ua, uc, rfl, _⟩ := own_slice hR.pend
  exact ⟨ta, tc, ua, uc, rfl, hR, h1, h2, hk⟩
theorem AskP.step {sv pv : Value} {R' : RD} {c : Int} {w w' : World} {e : Ending} (h : AskP sv pv R' c w e w') (hR : RdAt w sv pv R') : RStep sv pv R' c w e w' := by
  obtain ⟨rfl, hk⟩ := h
  exact ⟨sv, pv, rfl, hR.quiet hk, Old.refl _ _, Old.refl _ _, hk⟩
theorem arm_at {w : World} {sv pv : Value} {R : RD} (h : RdAt w sv pv R) (m : Int) (hm : m ≤ 9223372036854775807) : RdAt w sv pv (R.arm m).2 := by
  unfold RD.arm
  split
  · exact h
  · refine h.turn rfl rfl rfl h.o1 h.o2 ?_ ?_ h.f1 h.f2
    · show -1 ≤ (if m < -1 then (-1 : Int) else m)
      split <;> omega
    · show (if m < -1 then (-1 : Int) else m) ≤ _
      split <;> omega
theorem fail_at {w : World} {sv pv : Value} {R : RD} (h : RdAt w sv pv R) (m : Int) (hm : m ≤ 9223372036854775807) : RdAt w sv pv (R.fail m).2 := by
  unfold RD.fail
  split
  · exact h
  · refine h.turn rfl rfl rfl h.o1 h.o2 h.l1 h.l2 ?_ ?_
    · show -1 ≤ (if m < -1 then (-1 : Int) else m)
      split <;> omega
    · show (if m < -1 then (-1 : Int) else m) ≤ _
      split <;> omega
theorem read_at {w : World} {sv pv : Value} {R : RD} (h : RdAt w sv pv R) (hop : R.ops < 1000000000000) (i : Int) : RdAt w sv pv (R.read i).2.2 ∧ (R.read i).1.length = 64 := by
  have h1 := asked_at h i
  have h2 := asked_same R i
  have o1 := h.o1
  unfold RD.read
  rcases asked_cases R i with hc | ⟨hc, h3, h4⟩
  · rw [if_pos hc]
    exact ⟨h1, zb_len⟩
  · rw [if_neg (by rw [hc]; simp)]
    exact ⟨h1.turn rfl rfl rfl (by show 0 ≤ R.ops + 1; omega) (by show R.ops + 1 ≤ _; omega) h1.l1 h1.l2 h1.f1 h1.f2, setl_len R.p 0 R.f R.n h.fl h.pl i.toNat (by omega)⟩

/-- What an op does by the document. -/
def RD.want (R : RD) (o : OpT) : List Int × Int × RD :=
  if opk o.k = 0 then R.read o.a else if opk o.k = 1 then (zb, R.write o.a (blk o.f)) else if opk o.k = 2 then (zb, R.sync) else if opk o.k = 3 then (zb, R.arm o.a)
  else if opk o.k = 5 then (zb, R.fail o.a) else (zb, 0, R.crash o.ks)
def WantP (sv pv : Value) (r : List Int × Int × RD) (w : World) (e : Ending) (w' : World) : Prop := ∃ sv' pv', e = .returned (.tuple #[rv sv' pv' r.2.2, .agg (bk r.1).toArray, .int .i64 r.2.1]) ∧ RdAt w' sv' pv' r.2.2 ∧ Old w sv sv' ∧ Old w pv pv' ∧ Keeps (fun _ => False) w w'

theorem want_start (w : World) (A O : List Value) {W : World} (h : W = ((((w.alloc (.cells A.toArray 43)).alloc (.cells O.toArray 32)).alloc (.cells z43.toArray 43)).alloc (.cells (bk zb).toArray 27)).alloc (.cells O.toArray 32)) :
    Blk W w.heap.size 43 A ∧ Blk W (w.heap.size + 1) 32 O ∧ Blk W (w.heap.size + 1 + 1) 43 z43 ∧ Blk W (w.heap.size + 1 + 1 + 1) 27 (bk zb) ∧ Keeps (fun _ => False) w W ∧ W.heap.size = w.heap.size + 5 := by
  subst h
  have h2 := Blk.new (w.alloc (.cells A.toArray 43)) 32 O
  rw [World.size_alloc] at h2
  have h3 := Blk.new ((w.alloc (.cells A.toArray 43)).alloc (.cells O.toArray 32)) 43 z43
  rw [World.size_alloc, World.size_alloc] at h3
  have h4 := Blk.new (((w.alloc (.cells A.toArray 43)).alloc (.cells O.toArray 32)).alloc (.cells z43.toArray 43)) 27 (bk zb)
  rw [World.size_alloc, World.size_alloc, World.size_alloc] at h4
  exact ⟨(((((Blk.new w 43 A).alloc _).alloc _).alloc _).alloc _), (((h2.alloc _).alloc _).alloc _), ((h3.alloc _).alloc _), h4.alloc _, (((((Keeps.refl _ w).alloc _).alloc _).alloc _).alloc _).alloc _, by simp⟩

set_option maxRecDepth 100000 in
set_option maxHeartbeats 4000000 in
theorem want_read (sv pv : Value) (R : RD) (w : World) (h : RdAt w sv pv R) (k a f : Int) (va : Option Addr) (vn vc : Nat) (hop : R.ops < 1000000000000) (hk : opk k = 0) : Calls Try.prog 24 #[rv sv pv R, .agg #[.int .i64 k, .int .i64 a, .int .u8 f, .slice va vn vc]] w (WantP sv pv (R.read a) w) := by
  obtain ⟨sa, sc, rfl, _, hmx⟩ := own_slice h.safe
  obtain ⟨qa, qc, rfl, _, hqm⟩ := own_slice h.pend
  obtain ⟨W1, hW1⟩ : ∃ W1, W1 = ((((w.alloc (.cells (([.slice sa R.n sc, .slice qa R.p.length qc, .bool R.dead, .int .i64 R.left, .int .i64 R.fails, .int .i64 R.ops] : List Value)).toArray 43)).alloc (.cells (([.int .i64 k, .int .i64 a, .int .u8 f, .slice va vn vc] : List Value)).toArray 32)).alloc (.cells z43.toArray 43)).alloc (.cells (bk zb).toArray 27)).alloc (.cells (([.int .i64 k, .int .i64 a, .int .u8 f, .slice va vn vc] : List Value)).toArray 32) := ⟨_, rfl⟩
  obtain ⟨bA, bO, bZ, bY, k1, s1⟩ := want_start w _ _ hW1
  have HRD := Lib.hid (rread_any _ _ R W1 (h.quiet k1) hop a)
  have HRA := Lib.hid (read_at h hop a)
  have HLT : Hid ((∀ g, (Value.slice sa R.n sc).ownBlock = some g → g < w.heap.size) ∧ ∀ g, (Value.slice qa R.p.length qc).ownBlock = some g → g < w.heap.size) := Lib.hid ⟨fun g hg => (own_heap h.safe hg).2.1, fun g hg => (own_heap h.pend hg).2.1⟩
  obtain ⟨r, hr⟩ : ∃ r, r = R.read a := ⟨_, rfl⟩
  rw [← hr] at HRD HRA ⊢
  clear hr
  have HQ := Lib.hid (show (rv (.slice sa R.n sc) (.slice qa R.p.length qc) r.2.2) = .agg #[.slice sa R.n sc, .slice qa R.p.length qc, .bool r.2.2.dead, .int .i64 r.2.2.left, .int .i64 r.2.2.fails, .int .i64 r.2.2.ops] from rfl)
  unfold rv at HRD
  have HK := Lib.hid (kind_any k a f (.slice va vn vc))
  rw [hk] at HK
  have e1 := bO.cell (i := 1) rfl
  have e2 := bO.cell (i := 2) rfl
  have e3 := bO.cell (i := 3) rfl
  obtain ⟨ah, ar, am⟩ := blk_row bA (n := 6) rfl
  have HA := Lib.hid bA
  have HO := Lib.hid bO
  have HZ := Lib.hid bZ
  have HY := Lib.hid bY
  have HK1 := Lib.hid k1
  have HW : Hid (((((w.alloc (.cells #[.slice sa R.n sc, .slice qa R.p.length qc, .bool R.dead, .int .i64 R.left, .int .i64 R.fails, .int .i64 R.ops] 43)).alloc (.cells #[.int .i64 k, .int .i64 a, .int .u8 f, .slice va vn vc] 32)).alloc (.cells #[.slice none 0 0, .slice none 0 0, .bool false, .int .i64 0, .int .i64 0, .int .i64 0] 43)).alloc (.cells (bk zb).toArray 27)).alloc (.cells #[.int .i64 k, .int .i64 a, .int .u8 f, .slice va vn vc] 32) = W1) := Lib.hid hW1.symm
  have hzl : (bk zb).length = 64 := by rw [bk_len, zb_len]
  have hone : oneAll (bk zb).toArray = true := all_oneCell_toArray bk_one
  have hs1 : w.heap.size + 1 + 1 + 1 < W1.heap.size := by omega
  clear h bA bO bZ bY k1 s1 hW1 hk
  unfold rv
  go_enter Try.func24, Try.ntmps24
  go_wp2_with fail
  refine (HK.out _).mono ?_
  rintro e w1 ⟨rfl, hw1⟩
  rw [HW.out] at hw1
  subst hw1
  go_wp2_with fail
  refine HRD.out.mono ?_
  rintro e w2 ⟨rfl, hk2⟩
  rw [HQ.out]
  obtain ⟨cs, hcs⟩ : ∃ cs, cs = bk r.1 := ⟨_, rfl⟩
  rw [← hcs]
  have hcl : cs.length = 64 := by rw [hcs, bk_len]; exact HRA.out.2
  have hone2 : oneAll cs.toArray = true := by rw [hcs]; exact all_oneCell_toArray bk_one
  have HCS := Lib.hid hcs
  have HKX : Hid (Keeps (fun k => w.heap.size ≤ k) w w2) := Lib.hid ((HK1.out.trans hk2).mono fun _ _ h => h.elim)
  have bZ := hk2.blk HZ.out id
  have bY := hk2.blk HY.out id
  have hs2 := hk2.size
  clear hk2 hcs
  obtain ⟨zh, zr, zm⟩ := blk_row bZ (n := 6) rfl
  have hmay := may_beside bY (b := w.heap.size + 1 + 1) (by omega) hzl
  have HZX := Lib.hid bZ
  have HYX := Lib.hid bY
  clear bZ bY
  go_wp2_with fail
  obtain ⟨b1, b2, b3⟩ := both_laid (w := w) (X := w2) (zs := [.slice sa R.n sc, .slice qa R.p.length qc, .bool r.2.2.dead, .int .i64 r.2.2.left, .int .i64 r.2.2.fails, .int .i64 r.2.2.ops]) HZX.out HYX.out rfl (by omega) hcl HKX.out (by omega) (by omega)
  refine bodyPost_ret (v := .tuple #[.agg #[.slice sa R.n sc, .slice qa R.p.length qc, .bool r.2.2.dead, .int .i64 r.2.2.left, .int .i64 r.2.2.fails, .int .i64 r.2.2.ops], .agg cs.toArray, .int .i64 r.2.1]) (result43_27_38 rfl rfl rfl rfl rfl b1 hcl b2) rfl ?_
  refine ⟨_, _, ?_, HRA.out.1.low b3 (fun _ h => h.elim) HLT.out.1 HLT.out.2, Old.refl _ _, Old.refl _ _, b3⟩
  rw [HCS.out]
  rfl

set_option maxRecDepth 100000 in
set_option maxHeartbeats 4000000 in
theorem want_sync (sv pv : Value) (R : RD) (w : World) (h : RdAt w sv pv R) (k a f : Int) (va : Option Addr) (vn vc : Nat) (hop : R.ops < 1000000000000) (hk : opk k = 2) : Calls Try.prog 24 #[rv sv pv R, .agg #[.int .i64 k, .int .i64 a, .int .u8 f, .slice va vn vc]] w (WantP sv pv (zb, R.sync) w) := by
  obtain ⟨sa, sc, rfl, _, hmx⟩ := own_slice h.safe
  obtain ⟨qa, qc, rfl, _, hqm⟩ := own_slice h.pend
  obtain ⟨W1, hW1⟩ : ∃ W1, W1 = ((((w.alloc (.cells (([.slice sa R.n sc, .slice qa R.p.length qc, .bool R.dead, .int .i64 R.left, .int .i64 R.fails, .int .i64 R.ops] : List Value)).toArray 43)).alloc (.cells (([.int .i64 k, .int .i64 a, .int .u8 f, .slice va vn vc] : List Value)).toArray 32)).alloc (.cells z43.toArray 43)).alloc (.cells (bk zb).toArray 27)).alloc (.cells (([.int .i64 k, .int .i64 a, .int .u8 f, .slice va vn vc] : List Value)).toArray 32) := ⟨_, rfl⟩
  obtain ⟨bA, bO, bZ, bY, k1, s1⟩ := want_start w _ _ hW1
  have HST := Lib.hid ((rsync_any _ _ R W1 (h.quiet k1) hop).mono fun _ _ => RStep.form)
  obtain ⟨r, hr⟩ : ∃ r, r = R.sync := ⟨_, rfl⟩
  rw [← hr] at HST ⊢
  clear hr
  unfold rv at HST
  have HLT : Hid ((∀ g, (Value.slice sa R.n sc).ownBlock = some g → g < w.heap.size) ∧ ∀ g, (Value.slice qa R.p.length qc).ownBlock = some g → g < w.heap.size) := Lib.hid ⟨fun g hg => (own_heap h.safe hg).2.1, fun g hg => (own_heap h.pend hg).2.1⟩
  have HK := Lib.hid (kind_any k a f (.slice va vn vc))
  rw [hk] at HK
  have e1 := bO.cell (i := 1) rfl
  have e2 := bO.cell (i := 2) rfl
  have e3 := bO.cell (i := 3) rfl
  obtain ⟨ah, ar, am⟩ := blk_row bA (n := 6) rfl
  have HA := Lib.hid bA
  have HO := Lib.hid bO
  have HZ := Lib.hid bZ
  have HY := Lib.hid bY
  have HK1 := Lib.hid k1
  have HW : Hid (((((w.alloc (.cells #[.slice sa R.n sc, .slice qa R.p.length qc, .bool R.dead, .int .i64 R.left, .int .i64 R.fails, .int .i64 R.ops] 43)).alloc (.cells #[.int .i64 k, .int .i64 a, .int .u8 f, .slice va vn vc] 32)).alloc (.cells #[.slice none 0 0, .slice none 0 0, .bool false, .int .i64 0, .int .i64 0, .int .i64 0] 43)).alloc (.cells (bk zb).toArray 27)).alloc (.cells #[.int .i64 k, .int .i64 a, .int .u8 f, .slice va vn vc] 32) = W1) := Lib.hid hW1.symm
  have hzl : (bk zb).length = 64 := by rw [bk_len, zb_len]
  have hone : oneAll (bk zb).toArray = true := all_oneCell_toArray bk_one
  have hs1 : w.heap.size + 1 + 1 + 1 < W1.heap.size := by omega
  clear h bA bO bZ bY k1 s1 hW1 hk
  unfold rv
  go_enter Try.func24, Try.ntmps24
  go_wp2_with fail
  refine (HK.out _).mono ?_
  rintro e w1 ⟨rfl, hw1⟩
  rw [HW.out] at hw1
  subst hw1
  go_wp2_with fail
  refine HST.out.mono ?_
  rintro e w2 ⟨ta, tc, ua, uc, rfl, hR, ho1, ho2, hk2⟩
  have bA := hk2.blk HA.out id
  have bZ := hk2.blk HZ.out id
  have bY := hk2.blk HY.out id
  have hs2 := hk2.size
  have HR := Lib.hid hR
  have HO1 := Lib.hid ho1
  have HO2 := Lib.hid ho2
  have HK2 := Lib.hid hk2
  clear hk2 hR ho1 ho2 ah ar am
  obtain ⟨ah, ar, am⟩ := blk_row bA (n := 6) rfl
  have HA2 := Lib.hid bA
  have HZ2 := Lib.hid bZ
  have HY2 := Lib.hid bY
  clear bA bZ bY
  go_upto_region 14 with (fail)
  obtain ⟨W3, hW3⟩ : ∃ W3, W3 = w2.setCells w.heap.size 0 [.slice ta r.2.n tc, .slice ua r.2.p.length uc, .bool r.2.dead, .int .i64 r.2.left, .int .i64 r.2.fails, .int .i64 r.2.ops] := ⟨_, rfl⟩
  have hk3 : Keeps (fun k => k = w.heap.size) w2 W3 := by rw [hW3]; exact setCells_keeps _ _ _ _
  have bA : Blk W3 w.heap.size 43 [.slice ta r.2.n tc, .slice ua r.2.p.length uc, .bool r.2.dead, .int .i64 r.2.left, .int .i64 r.2.fails, .int .i64 r.2.ops] := by rw [hW3]; exact blk_overT HA2.out rfl
  have bZ := hk3.blk HZ2.out (by omega)
  have bY := hk3.blk HY2.out (by omega)
  rw [← hW3]
  clear hW3 ah ar am
  obtain ⟨ah, ar, am⟩ := blk_row bA (n := 6) rfl
  have HK3 := Lib.hid hk3
  have HKX : Hid (Keeps (fun k => w.heap.size ≤ k) w W3) := Lib.hid (((HK1.out.trans HK2.out).mono fun _ _ h => h.elim).trans (hk3.mono fun k _ e => by rw [show k = w.heap.size from e]; exact Nat.le_refl _))
  clear hk3 bA
  obtain ⟨zh, zr, zm⟩ := blk_row bZ (n := 6) rfl
  have hmay := may_beside bY (b := w.heap.size + 1 + 1) (by omega) hzl
  have HZX := Lib.hid bZ
  have HYX := Lib.hid bY
  clear bZ bY
  go_wp2_with fail
  obtain ⟨b1, b2, b3⟩ := both_laid (w := w) (X := W3) (zs := [.slice ta r.2.n tc, .slice ua r.2.p.length uc, .bool r.2.dead, .int .i64 r.2.left, .int .i64 r.2.fails, .int .i64 r.2.ops]) HZX.out HYX.out rfl (by omega) hzl HKX.out (by omega) (by omega)
  refine bodyPost_ret (v := .tuple #[.agg #[.slice ta r.2.n tc, .slice ua r.2.p.length uc, .bool r.2.dead, .int .i64 r.2.left, .int .i64 r.2.fails, .int .i64 r.2.ops], .agg (bk zb).toArray, .int .i64 r.1]) (result43_27_38 rfl rfl rfl rfl rfl b1 hzl b2) rfl ?_
  refine ⟨_, _, rfl, ?_, Old.trans (Old.refl _ _) HO1.out HK1.out.size, Old.trans (Old.refl _ _) HO2.out HK1.out.size, b3⟩
  have hks := ((setCells_keeps (w.heap.size + 1 + 1) [.slice ta r.2.n tc, .slice ua r.2.p.length uc, .bool r.2.dead, .int .i64 r.2.left, .int .i64 r.2.fails, .int .i64 r.2.ops] 0 W3).mono (S' := fun k => k = w.heap.size ∨ k = w.heap.size + 1 + 1 ∨ k = w.heap.size + 1 + 1 + 1) fun k _ e => .inr (.inl e)).trans ((setCells_keeps (w.heap.size + 1 + 1 + 1) (bk zb) 0 _).mono fun k _ e => .inr (.inr e))
  have hkA := (HK3.out.mono (S' := fun k => k = w.heap.size ∨ k = w.heap.size + 1 + 1 ∨ k = w.heap.size + 1 + 1 + 1) fun k _ e => .inl e).trans hks
  refine HR.out.keep hkA (fun g hg e => ?_) (fun g hg e => ?_)
  · have hne := fun b cs t (hb : Blk w2 b t cs) (ht : 27 ≠ t) => own_ne_blk hb HR.out.safe ht
    rcases e with e | e | e
    · exact hne _ _ _ HA2.out (by decide) (by rw [← show g = w.heap.size from e]; exact hg)
    · exact hne _ _ _ HZ2.out (by decide) (by rw [← show g = w.heap.size + 1 + 1 from e]; exact hg)
    · rcases HO1.out g hg with h1 | h1
      · have := HLT.out.1 g h1
        have e' : g = w.heap.size + 1 + 1 + 1 := e
        omega
      · have e' : g = w.heap.size + 1 + 1 + 1 := e
        omega
  · have hne := fun b cs t (hb : Blk w2 b t cs) (ht : 101 ≠ t) => own_ne_blk hb HR.out.pend ht
    rcases e with e | e | e
    · exact hne _ _ _ HA2.out (by decide) (by rw [← show g = w.heap.size from e]; exact hg)
    · exact hne _ _ _ HZ2.out (by decide) (by rw [← show g = w.heap.size + 1 + 1 from e]; exact hg)
    · exact hne _ _ _ HY2.out (by decide) (by rw [← show g = w.heap.size + 1 + 1 + 1 from e]; exact hg)

set_option maxRecDepth 100000 in
set_option maxHeartbeats 4000000 in
theorem want_arm (sv pv : Value) (R : RD) (w : World) (h : RdAt w sv pv R) (k a f : Int) (va : Option Addr) (vn vc : Nat) (ha : a ≤ 9223372036854775807) (hk : opk k = 3) : Calls Try.prog 24 #[rv sv pv R, .agg #[.int .i64 k, .int .i64 a, .int .u8 f, .slice va vn vc]] w (WantP sv pv (zb, R.arm a) w) := by
  obtain ⟨sa, sc, rfl, _, hmx⟩ := own_slice h.safe
  obtain ⟨qa, qc, rfl, _, hqm⟩ := own_slice h.pend
  obtain ⟨W1, hW1⟩ : ∃ W1, W1 = ((((w.alloc (.cells (([.slice sa R.n sc, .slice qa R.p.length qc, .bool R.dead, .int .i64 R.left, .int .i64 R.fails, .int .i64 R.ops] : List Value)).toArray 43)).alloc (.cells (([.int .i64 k, .int .i64 a, .int .u8 f, .slice va vn vc] : List Value)).toArray 32)).alloc (.cells z43.toArray 43)).alloc (.cells (bk zb).toArray 27)).alloc (.cells (([.int .i64 k, .int .i64 a, .int .u8 f, .slice va vn vc] : List Value)).toArray 32) := ⟨_, rfl⟩
  obtain ⟨bA, bO, bZ, bY, k1, s1⟩ := want_start w _ _ hW1
  have HST := Lib.hid (((rarm_any _ _ R W1 (h.quiet k1) a).mono fun _ _ hh => AskP.step hh (arm_at (h.quiet k1) a ha)).mono fun _ _ => RStep.form)
  obtain ⟨r, hr⟩ : ∃ r, r = R.arm a := ⟨_, rfl⟩
  rw [← hr] at HST ⊢
  clear hr
  unfold rv at HST
  have HLT : Hid ((∀ g, (Value.slice sa R.n sc).ownBlock = some g → g < w.heap.size) ∧ ∀ g, (Value.slice qa R.p.length qc).ownBlock = some g → g < w.heap.size) := Lib.hid ⟨fun g hg => (own_heap h.safe hg).2.1, fun g hg => (own_heap h.pend hg).2.1⟩
  have HK := Lib.hid (kind_any k a f (.slice va vn vc))
  rw [hk] at HK
  have e1 := bO.cell (i := 1) rfl
  have e2 := bO.cell (i := 2) rfl
  have e3 := bO.cell (i := 3) rfl
  obtain ⟨ah, ar, am⟩ := blk_row bA (n := 6) rfl
  have HA := Lib.hid bA
  have HO := Lib.hid bO
  have HZ := Lib.hid bZ
  have HY := Lib.hid bY
  have HK1 := Lib.hid k1
  have HW : Hid (((((w.alloc (.cells #[.slice sa R.n sc, .slice qa R.p.length qc, .bool R.dead, .int .i64 R.left, .int .i64 R.fails, .int .i64 R.ops] 43)).alloc (.cells #[.int .i64 k, .int .i64 a, .int .u8 f, .slice va vn vc] 32)).alloc (.cells #[.slice none 0 0, .slice none 0 0, .bool false, .int .i64 0, .int .i64 0, .int .i64 0] 43)).alloc (.cells (bk zb).toArray 27)).alloc (.cells #[.int .i64 k, .int .i64 a, .int .u8 f, .slice va vn vc] 32) = W1) := Lib.hid hW1.symm
  have hzl : (bk zb).length = 64 := by rw [bk_len, zb_len]
  have hone : oneAll (bk zb).toArray = true := all_oneCell_toArray bk_one
  have hs1 : w.heap.size + 1 + 1 + 1 < W1.heap.size := by omega
  clear h bA bO bZ bY k1 s1 hW1 hk
  unfold rv
  go_enter Try.func24, Try.ntmps24
  go_wp2_with fail
  refine (HK.out _).mono ?_
  rintro e w1 ⟨rfl, hw1⟩
  rw [HW.out] at hw1
  subst hw1
  go_wp2_with fail
  refine HST.out.mono ?_
  rintro e w2 ⟨ta, tc, ua, uc, rfl, hR, ho1, ho2, hk2⟩
  have bA := hk2.blk HA.out id
  have bZ := hk2.blk HZ.out id
  have bY := hk2.blk HY.out id
  have hs2 := hk2.size
  have HR := Lib.hid hR
  have HO1 := Lib.hid ho1
  have HO2 := Lib.hid ho2
  have HK2 := Lib.hid hk2
  clear hk2 hR ho1 ho2 ah ar am
  obtain ⟨ah, ar, am⟩ := blk_row bA (n := 6) rfl
  have HA2 := Lib.hid bA
  have HZ2 := Lib.hid bZ
  have HY2 := Lib.hid bY
  clear bA bZ bY
  go_upto_region 14 with (fail)
  obtain ⟨W3, hW3⟩ : ∃ W3, W3 = w2.setCells w.heap.size 0 [.slice ta r.2.n tc, .slice ua r.2.p.length uc, .bool r.2.dead, .int .i64 r.2.left, .int .i64 r.2.fails, .int .i64 r.2.ops] := ⟨_, rfl⟩
  have hk3 : Keeps (fun k => k = w.heap.size) w2 W3 := by rw [hW3]; exact setCells_keeps _ _ _ _
  have bA : Blk W3 w.heap.size 43 [.slice ta r.2.n tc, .slice ua r.2.p.length uc, .bool r.2.dead, .int .i64 r.2.left, .int .i64 r.2.fails, .int .i64 r.2.ops] := by rw [hW3]; exact blk_overT HA2.out rfl
  have bZ := hk3.blk HZ2.out (by omega)
  have bY := hk3.blk HY2.out (by omega)
  rw [← hW3]
  clear hW3 ah ar am
  obtain ⟨ah, ar, am⟩ := blk_row bA (n := 6) rfl
  have HK3 := Lib.hid hk3
  have HKX : Hid (Keeps (fun k => w.heap.size ≤ k) w W3) := Lib.hid (((HK1.out.trans HK2.out).mono fun _ _ h => h.elim).trans (hk3.mono fun k _ e => by rw [show k = w.heap.size from e]; exact Nat.le_refl _))
  clear hk3 bA
  obtain ⟨zh, zr, zm⟩ := blk_row bZ (n := 6) rfl
  have hmay := may_beside bY (b := w.heap.size + 1 + 1) (by omega) hzl
  have HZX := Lib.hid bZ
  have HYX := Lib.hid bY
  clear bZ bY
  go_wp2_with fail
  obtain ⟨b1, b2, b3⟩ := both_laid (w := w) (X := W3) (zs := [.slice ta r.2.n tc, .slice ua r.2.p.length uc, .bool r.2.dead, .int .i64 r.2.left, .int .i64 r.2.fails, .int .i64 r.2.ops]) HZX.out HYX.out rfl (by omega) hzl HKX.out (by omega) (by omega)
  refine bodyPost_ret (v := .tuple #[.agg #[.slice ta r.2.n tc, .slice ua r.2.p.length uc, .bool r.2.dead, .int .i64 r.2.left, .int .i64 r.2.fails, .int .i64 r.2.ops], .agg (bk zb).toArray, .int .i64 r.1]) (result43_27_38 rfl rfl rfl rfl rfl b1 hzl b2) rfl ?_
  refine ⟨_, _, rfl, ?_, Old.trans (Old.refl _ _) HO1.out HK1.out.size, Old.trans (Old.refl _ _) HO2.out HK1.out.size, b3⟩
  have hks := ((setCells_keeps (w.heap.size + 1 + 1) [.slice ta r.2.n tc, .slice ua r.2.p.length uc, .bool r.2.dead, .int .i64 r.2.left, .int .i64 r.2.fails, .int .i64 r.2.ops] 0 W3).mono (S' := fun k => k = w.heap.size ∨ k = w.heap.size + 1 + 1 ∨ k = w.heap.size + 1 + 1 + 1) fun k _ e => .inr (.inl e)).trans ((setCells_keeps (w.heap.size + 1 + 1 + 1) (bk zb) 0 _).mono fun k _ e => .inr (.inr e))
  have hkA := (HK3.out.mono (S' := fun k => k = w.heap.size ∨ k = w.heap.size + 1 + 1 ∨ k = w.heap.size + 1 + 1 + 1) fun k _ e => .inl e).trans hks
  refine HR.out.keep hkA (fun g hg e => ?_) (fun g hg e => ?_)
  · have hne := fun b cs t (hb : Blk w2 b t cs) (ht : 27 ≠ t) => own_ne_blk hb HR.out.safe ht
    rcases e with e | e | e
    · exact hne _ _ _ HA2.out (by decide) (by rw [← show g = w.heap.size from e]; exact hg)
    · exact hne _ _ _ HZ2.out (by decide) (by rw [← show g = w.heap.size + 1 + 1 from e]; exact hg)
    · rcases HO1.out g hg with h1 | h1
      · have := HLT.out.1 g h1
        have e' : g = w.heap.size + 1 + 1 + 1 := e
        omega
      · have e' : g = w.heap.size + 1 + 1 + 1 := e
        omega
  · have hne := fun b cs t (hb : Blk w2 b t cs) (ht : 101 ≠ t) => own_ne_blk hb HR.out.pend ht
    rcases e with e | e | e
    · exact hne _ _ _ HA2.out (by decide) (by rw [← show g = w.heap.size from e]; exact hg)
    · exact hne _ _ _ HZ2.out (by decide) (by rw [← show g = w.heap.size + 1 + 1 from e]; exact hg)
    · exact hne _ _ _ HY2.out (by decide) (by rw [← show g = w.heap.size + 1 + 1 + 1 from e]; exact hg)

set_option maxRecDepth 100000 in
set_option maxHeartbeats 4000000 in
theorem want_fail (sv pv : Value) (R : RD) (w : World) (h : RdAt w sv pv R) (k a f : Int) (va : Option Addr) (vn vc : Nat) (ha : a ≤ 9223372036854775807) (hk : opk k = 5) : Calls Try.prog 24 #[rv sv pv R, .agg #[.int .i64 k, .int .i64 a, .int .u8 f, .slice va vn vc]] w (WantP sv pv (zb, R.fail a) w) := by
  obtain ⟨sa, sc, rfl, _, hmx⟩ := own_slice h.safe
  obtain ⟨qa, qc, rfl, _, hqm⟩ := own_slice h.pend
  obtain ⟨W1, hW1⟩ : ∃ W1, W1 = ((((w.alloc (.cells (([.slice sa R.n sc, .slice qa R.p.length qc, .bool R.dead, .int .i64 R.left, .int .i64 R.fails, .int .i64 R.ops] : List Value)).toArray 43)).alloc (.cells (([.int .i64 k, .int .i64 a, .int .u8 f, .slice va vn vc] : List Value)).toArray 32)).alloc (.cells z43.toArray 43)).alloc (.cells (bk zb).toArray 27)).alloc (.cells (([.int .i64 k, .int .i64 a, .int .u8 f, .slice va vn vc] : List Value)).toArray 32) := ⟨_, rfl⟩
  obtain ⟨bA, bO, bZ, bY, k1, s1⟩ := want_start w _ _ hW1
  have HST := Lib.hid (((rfail_any _ _ R W1 (h.quiet k1) a).mono fun _ _ hh => AskP.step hh (fail_at (h.quiet k1) a ha)).mono fun _ _ => RStep.form)
  obtain ⟨r, hr⟩ : ∃ r, r = R.fail a := ⟨_, rfl⟩
  rw [← hr] at HST ⊢
  clear hr
  unfold rv at HST
  have HLT : Hid ((∀ g, (Value.slice sa R.n sc).ownBlock = some g → g < w.heap.size) ∧ ∀ g, (Value.slice qa R.p.length qc).ownBlock = some g → g < w.heap.size) := Lib.hid ⟨fun g hg => (own_heap h.safe hg).2.1, fun g hg => (own_heap h.pend hg).2.1⟩
  have HK := Lib.hid (kind_any k a f (.slice va vn vc))
  rw [hk] at HK
  have e1 := bO.cell (i := 1) rfl
  have e2 := bO.cell (i := 2) rfl
  have e3 := bO.cell (i := 3) rfl
  obtain ⟨ah, ar, am⟩ := blk_row bA (n := 6) rfl
  have HA := Lib.hid bA
  have HO := Lib.hid bO
  have HZ := Lib.hid bZ
  have HY := Lib.hid bY
  have HK1 := Lib.hid k1
  have HW : Hid (((((w.alloc (.cells #[.slice sa R.n sc, .slice qa R.p.length qc, .bool R.dead, .int .i64 R.left, .int .i64 R.fails, .int .i64 R.ops] 43)).alloc (.cells #[.int .i64 k, .int .i64 a, .int .u8 f, .slice va vn vc] 32)).alloc (.cells #[.slice none 0 0, .slice none 0 0, .bool false, .int .i64 0, .int .i64 0, .int .i64 0] 43)).alloc (.cells (bk zb).toArray 27)).alloc (.cells #[.int .i64 k, .int .i64 a, .int .u8 f, .slice va vn vc] 32) = W1) := Lib.hid hW1.symm
  have hzl : (bk zb).length = 64 := by rw [bk_len, zb_len]
  have hone : oneAll (bk zb).toArray = true := all_oneCell_toArray bk_one
  have hs1 : w.heap.size + 1 + 1 + 1 < W1.heap.size := by omega
  clear h bA bO bZ bY k1 s1 hW1 hk
  unfold rv
  go_enter Try.func24, Try.ntmps24
  go_wp2_with fail
  refine (HK.out _).mono ?_
  rintro e w1 ⟨rfl, hw1⟩
  rw [HW.out] at hw1
  subst hw1
  go_wp2_with fail
  refine HST.out.mono ?_
  rintro e w2 ⟨ta, tc, ua, uc, rfl, hR, ho1, ho2, hk2⟩
  have bA := hk2.blk HA.out id
  have bZ := hk2.blk HZ.out id
  have bY := hk2.blk HY.out id
  have hs2 := hk2.size
  have HR := Lib.hid hR
  have HO1 := Lib.hid ho1
  have HO2 := Lib.hid ho2
  have HK2 := Lib.hid hk2
  clear hk2 hR ho1 ho2 ah ar am
  obtain ⟨ah, ar, am⟩ := blk_row bA (n := 6) rfl
  have HA2 := Lib.hid bA
  have HZ2 := Lib.hid bZ
  have HY2 := Lib.hid bY
  clear bA bZ bY
  go_upto_region 14 with (fail)
  obtain ⟨W3, hW3⟩ : ∃ W3, W3 = w2.setCells w.heap.size 0 [.slice ta r.2.n tc, .slice ua r.2.p.length uc, .bool r.2.dead, .int .i64 r.2.left, .int .i64 r.2.fails, .int .i64 r.2.ops] := ⟨_, rfl⟩
  have hk3 : Keeps (fun k => k = w.heap.size) w2 W3 := by rw [hW3]; exact setCells_keeps _ _ _ _
  have bA : Blk W3 w.heap.size 43 [.slice ta r.2.n tc, .slice ua r.2.p.length uc, .bool r.2.dead, .int .i64 r.2.left, .int .i64 r.2.fails, .int .i64 r.2.ops] := by rw [hW3]; exact blk_overT HA2.out rfl
  have bZ := hk3.blk HZ2.out (by omega)
  have bY := hk3.blk HY2.out (by omega)
  rw [← hW3]
  clear hW3 ah ar am
  obtain ⟨ah, ar, am⟩ := blk_row bA (n := 6) rfl
  have HK3 := Lib.hid hk3
  have HKX : Hid (Keeps (fun k => w.heap.size ≤ k) w W3) := Lib.hid (((HK1.out.trans HK2.out).mono fun _ _ h => h.elim).trans (hk3.mono fun k _ e => by rw [show k = w.heap.size from e]; exact Nat.le_refl _))
  clear hk3 bA
  obtain ⟨zh, zr, zm⟩ := blk_row bZ (n := 6) rfl
  have hmay := may_beside bY (b := w.heap.size + 1 + 1) (by omega) hzl
  have HZX := Lib.hid bZ
  have HYX := Lib.hid bY
  clear bZ bY
  go_wp2_with fail
  obtain ⟨b1, b2, b3⟩ := both_laid (w := w) (X := W3) (zs := [.slice ta r.2.n tc, .slice ua r.2.p.length uc, .bool r.2.dead, .int .i64 r.2.left, .int .i64 r.2.fails, .int .i64 r.2.ops]) HZX.out HYX.out rfl (by omega) hzl HKX.out (by omega) (by omega)
  refine bodyPost_ret (v := .tuple #[.agg #[.slice ta r.2.n tc, .slice ua r.2.p.length uc, .bool r.2.dead, .int .i64 r.2.left, .int .i64 r.2.fails, .int .i64 r.2.ops], .agg (bk zb).toArray, .int .i64 r.1]) (result43_27_38 rfl rfl rfl rfl rfl b1 hzl b2) rfl ?_
  refine ⟨_, _, rfl, ?_, Old.trans (Old.refl _ _) HO1.out HK1.out.size, Old.trans (Old.refl _ _) HO2.out HK1.out.size, b3⟩
  have hks := ((setCells_keeps (w.heap.size + 1 + 1) [.slice ta r.2.n tc, .slice ua r.2.p.length uc, .bool r.2.dead, .int .i64 r.2.left, .int .i64 r.2.fails, .int .i64 r.2.ops] 0 W3).mono (S' := fun k => k = w.heap.size ∨ k = w.heap.size + 1 + 1 ∨ k = w.heap.size + 1 + 1 + 1) fun k _ e => .inr (.inl e)).trans ((setCells_keeps (w.heap.size + 1 + 1 + 1) (bk zb) 0 _).mono fun k _ e => .inr (.inr e))
  have hkA := (HK3.out.mono (S' := fun k => k = w.heap.size ∨ k = w.heap.size + 1 + 1 ∨ k = w.heap.size + 1 + 1 + 1) fun k _ e => .inl e).trans hks
  refine HR.out.keep hkA (fun g hg e => ?_) (fun g hg e => ?_)
  · have hne := fun b cs t (hb : Blk w2 b t cs) (ht : 27 ≠ t) => own_ne_blk hb HR.out.safe ht
    rcases e with e | e | e
    · exact hne _ _ _ HA2.out (by decide) (by rw [← show g = w.heap.size from e]; exact hg)
    · exact hne _ _ _ HZ2.out (by decide) (by rw [← show g = w.heap.size + 1 + 1 from e]; exact hg)
    · rcases HO1.out g hg with h1 | h1
      · have := HLT.out.1 g h1
        have e' : g = w.heap.size + 1 + 1 + 1 := e
        omega
      · have e' : g = w.heap.size + 1 + 1 + 1 := e
        omega
  · have hne := fun b cs t (hb : Blk w2 b t cs) (ht : 101 ≠ t) => own_ne_blk hb HR.out.pend ht
    rcases e with e | e | e
    · exact hne _ _ _ HA2.out (by decide) (by rw [← show g = w.heap.size from e]; exact hg)
    · exact hne _ _ _ HZ2.out (by decide) (by rw [← show g = w.heap.size + 1 + 1 from e]; exact hg)
    · exact hne _ _ _ HY2.out (by decide) (by rw [← show g = w.heap.size + 1 + 1 + 1 from e]; exact hg)

set_option maxRecDepth 100000 in
set_option maxHeartbeats 4000000 in
theorem want_crash (sv pv : Value) (R : RD) (w : World) (h : RdAt w sv pv R) (k a f : Int) (va : Option Addr) (vn vc : Nat) (ks : List Bool) (hkr : BoolRow w va vn ks) (hkn : vn ≤ 140737488355328) (hk : opk k = 4) : Calls Try.prog 24 #[rv sv pv R, .agg #[.int .i64 k, .int .i64 a, .int .u8 f, .slice va vn vc]] w (WantP sv pv (zb, 0, R.crash ks) w) := by
  obtain ⟨sa, sc, rfl, _, hmx⟩ := own_slice h.safe
  obtain ⟨qa, qc, rfl, _, hqm⟩ := own_slice h.pend
  obtain ⟨W1, hW1⟩ : ∃ W1, W1 = ((((w.alloc (.cells (([.slice sa R.n sc, .slice qa R.p.length qc, .bool R.dead, .int .i64 R.left, .int .i64 R.fails, .int .i64 R.ops] : List Value)).toArray 43)).alloc (.cells (([.int .i64 k, .int .i64 a, .int .u8 f, .slice va vn vc] : List Value)).toArray 32)).alloc (.cells z43.toArray 43)).alloc (.cells (bk zb).toArray 27)).alloc (.cells (([.int .i64 k, .int .i64 a, .int .u8 f, .slice va vn vc] : List Value)).toArray 32) := ⟨_, rfl⟩
  obtain ⟨bA, bO, bZ, bY, k1, s1⟩ := want_start w _ _ hW1
  have HST := Lib.hid ((rcrash_any _ _ R W1 (h.quiet k1) va vn vc ks (hkr.keep k1 fun _ _ _ => id) hkn).mono fun _ _ => LiveP.form)
  obtain ⟨r, hr⟩ : ∃ r : Int × RD, r = (0, R.crash ks) := ⟨_, rfl⟩
  have hr2 : R.crash ks = r.2 := by rw [hr]
  rw [hr2] at HST
  rw [← hr]
  have HR1 : Hid (r.1 = 0) := Lib.hid (by rw [hr])
  have HRP : Hid (r.2.p = []) := Lib.hid (by rw [hr]; rfl)
  clear hr hr2 hkr
  unfold rv at HST
  have HLT : Hid ((∀ g, (Value.slice sa R.n sc).ownBlock = some g → g < w.heap.size) ∧ ∀ g, (Value.slice qa R.p.length qc).ownBlock = some g → g < w.heap.size) := Lib.hid ⟨fun g hg => (own_heap h.safe hg).2.1, fun g hg => (own_heap h.pend hg).2.1⟩
  have HK := Lib.hid (kind_any k a f (.slice va vn vc))
  rw [hk] at HK
  have e1 := bO.cell (i := 1) rfl
  have e2 := bO.cell (i := 2) rfl
  have e3 := bO.cell (i := 3) rfl
  obtain ⟨ah, ar, am⟩ := blk_row bA (n := 6) rfl
  have HA := Lib.hid bA
  have HO := Lib.hid bO
  have HZ := Lib.hid bZ
  have HY := Lib.hid bY
  have HK1 := Lib.hid k1
  have HW : Hid (((((w.alloc (.cells #[.slice sa R.n sc, .slice qa R.p.length qc, .bool R.dead, .int .i64 R.left, .int .i64 R.fails, .int .i64 R.ops] 43)).alloc (.cells #[.int .i64 k, .int .i64 a, .int .u8 f, .slice va vn vc] 32)).alloc (.cells #[.slice none 0 0, .slice none 0 0, .bool false, .int .i64 0, .int .i64 0, .int .i64 0] 43)).alloc (.cells (bk zb).toArray 27)).alloc (.cells #[.int .i64 k, .int .i64 a, .int .u8 f, .slice va vn vc] 32) = W1) := Lib.hid hW1.symm
  have hzl : (bk zb).length = 64 := by rw [bk_len, zb_len]
  have hone : oneAll (bk zb).toArray = true := all_oneCell_toArray bk_one
  have hs1 : w.heap.size + 1 + 1 + 1 < W1.heap.size := by omega
  clear h bA bO bZ bY k1 s1 hW1 hk
  unfold rv
  go_enter Try.func24, Try.ntmps24
  go_wp2_with fail
  refine (HK.out _).mono ?_
  rintro e w1 ⟨rfl, hw1⟩
  rw [HW.out] at hw1
  subst hw1
  go_wp2_with fail
  refine HST.out.mono ?_
  rintro e w2 ⟨ta, tc, rfl, hR, ho1, hk2⟩
  have bA := hk2.blk HA.out id
  have bZ := hk2.blk HZ.out id
  have bY := hk2.blk HY.out id
  have hs2 := hk2.size
  have HR := Lib.hid hR
  have HO1 := Lib.hid ho1
  have HK2 := Lib.hid hk2
  clear hk2 hR ho1 ah ar am
  obtain ⟨ah, ar, am⟩ := blk_row bA (n := 6) rfl
  have HA2 := Lib.hid bA
  have HZ2 := Lib.hid bZ
  have HY2 := Lib.hid bY
  clear bA bZ bY
  go_upto_region 14 with (fail)
  obtain ⟨W3, hW3⟩ : ∃ W3, W3 = w2.setCells w.heap.size 0 [.slice ta r.2.n tc, .slice none 0 0, .bool r.2.dead, .int .i64 r.2.left, .int .i64 r.2.fails, .int .i64 r.2.ops] := ⟨_, rfl⟩
  have hk3 : Keeps (fun k => k = w.heap.size) w2 W3 := by rw [hW3]; exact setCells_keeps _ _ _ _
  have bA : Blk W3 w.heap.size 43 [.slice ta r.2.n tc, .slice none 0 0, .bool r.2.dead, .int .i64 r.2.left, .int .i64 r.2.fails, .int .i64 r.2.ops] := by rw [hW3]; exact blk_overT HA2.out rfl
  have bZ := hk3.blk HZ2.out (by omega)
  have bY := hk3.blk HY2.out (by omega)
  rw [← hW3]
  clear hW3 ah ar am
  obtain ⟨ah, ar, am⟩ := blk_row bA (n := 6) rfl
  have HK3 := Lib.hid hk3
  have HKX : Hid (Keeps (fun k => w.heap.size ≤ k) w W3) := Lib.hid (((HK1.out.trans HK2.out).mono fun _ _ h => h.elim).trans (hk3.mono fun k _ e => by rw [show k = w.heap.size from e]; exact Nat.le_refl _))
  clear hk3 bA
  obtain ⟨zh, zr, zm⟩ := blk_row bZ (n := 6) rfl
  have hmay := may_beside bY (b := w.heap.size + 1 + 1) (by omega) hzl
  have HZX := Lib.hid bZ
  have HYX := Lib.hid bY
  clear bZ bY
  go_wp2_with fail
  obtain ⟨b1, b2, b3⟩ := both_laid (w := w) (X := W3) (zs := [.slice ta r.2.n tc, .slice none 0 0, .bool r.2.dead, .int .i64 r.2.left, .int .i64 r.2.fails, .int .i64 r.2.ops]) HZX.out HYX.out rfl (by omega) hzl HKX.out (by omega) (by omega)
  refine bodyPost_ret (v := .tuple #[.agg #[.slice ta r.2.n tc, .slice none 0 0, .bool r.2.dead, .int .i64 r.2.left, .int .i64 r.2.fails, .int .i64 r.2.ops], .agg (bk zb).toArray, .int .i64 0]) (result43_27_38 rfl rfl rfl rfl rfl b1 hzl b2) rfl ?_
  refine ⟨_, _, by rw [HR1.out]; rfl, ?_, (fun g hg => .inr (Nat.le_trans HK1.out.size (HO1.out g hg))), (fun g hg => by cases hg), b3⟩
  have hks := ((setCells_keeps (w.heap.size + 1 + 1) [.slice ta r.2.n tc, .slice none 0 0, .bool r.2.dead, .int .i64 r.2.left, .int .i64 r.2.fails, .int .i64 r.2.ops] 0 W3).mono (S' := fun k => k = w.heap.size ∨ k = w.heap.size + 1 + 1 ∨ k = w.heap.size + 1 + 1 + 1) fun k _ e => .inr (.inl e)).trans ((setCells_keeps (w.heap.size + 1 + 1 + 1) (bk zb) 0 _).mono fun k _ e => .inr (.inr e))
  have hkA := (HK3.out.mono (S' := fun k => k = w.heap.size ∨ k = w.heap.size + 1 + 1 ∨ k = w.heap.size + 1 + 1 + 1) fun k _ e => .inl e).trans hks
  refine HR.out.keep hkA (fun g hg e => ?_) (fun g hg e => ?_)
  · have hne := fun b cs t (hb : Blk w2 b t cs) (ht : 27 ≠ t) => own_ne_blk hb HR.out.safe ht
    rcases e with e | e | e
    · exact hne _ _ _ HA2.out (by decide) (by rw [← show g = w.heap.size from e]; exact hg)
    · exact hne _ _ _ HZ2.out (by decide) (by rw [← show g = w.heap.size + 1 + 1 from e]; exact hg)
    · have h1 := HO1.out g hg
      have e' : g = w.heap.size + 1 + 1 + 1 := e
      omega
  · cases hg

set_option maxRecDepth 100000 in
set_option maxHeartbeats 4000000 in
theorem want_write (sv pv : Value) (R : RD) (w : World) (h : RdAt w sv pv R) (k a f : Int) (va : Option Addr) (vn vc : Nat) (hop : R.ops < 1000000000000) (hpn : R.p.length < 1000000) (hk : opk k = 1) : Calls Try.prog 24 #[rv sv pv R, .agg #[.int .i64 k, .int .i64 a, .int .u8 f, .slice va vn vc]] w (WantP sv pv (zb, R.write a (blk f)) w) := by
  obtain ⟨sa, sc, rfl, _, hmx⟩ := own_slice h.safe
  obtain ⟨qa, qc, rfl, _, hqm⟩ := own_slice h.pend
  obtain ⟨W1, hW1⟩ : ∃ W1, W1 = ((((w.alloc (.cells (([.slice sa R.n sc, .slice qa R.p.length qc, .bool R.dead, .int .i64 R.left, .int .i64 R.fails, .int .i64 R.ops] : List Value)).toArray 43)).alloc (.cells (([.int .i64 k, .int .i64 a, .int .u8 f, .slice va vn vc] : List Value)).toArray 32)).alloc (.cells z43.toArray 43)).alloc (.cells (bk zb).toArray 27)).alloc (.cells (([.int .i64 k, .int .i64 a, .int .u8 f, .slice va vn vc] : List Value)).toArray 32) := ⟨_, rfl⟩
  obtain ⟨bA, bO, bZ, bY, k1, s1⟩ := want_start w _ _ hW1
  have HST := Lib.hid (fun X (hX : Keeps (fun _ => False) W1 X) => (rwrite_any _ _ R X ((h.quiet k1).quiet hX) hop hpn a (blk f) (blk_len f)).mono fun _ _ => RStep.form)
  obtain ⟨r, hr⟩ : ∃ r, r = R.write a (blk f) := ⟨_, rfl⟩
  rw [← hr] at HST ⊢
  clear hr
  unfold rv at HST
  have HLT : Hid ((∀ g, (Value.slice sa R.n sc).ownBlock = some g → g < w.heap.size) ∧ ∀ g, (Value.slice qa R.p.length qc).ownBlock = some g → g < w.heap.size) := Lib.hid ⟨fun g hg => (own_heap h.safe hg).2.1, fun g hg => (own_heap h.pend hg).2.1⟩
  have HK := Lib.hid (kind_any k a f (.slice va vn vc))
  rw [hk] at HK
  have e1 := bO.cell (i := 1) rfl
  have e2 := bO.cell (i := 2) rfl
  have e3 := bO.cell (i := 3) rfl
  obtain ⟨ah, ar, am⟩ := blk_row bA (n := 6) rfl
  have HA := Lib.hid bA
  have HO := Lib.hid bO
  have HZ := Lib.hid bZ
  have HY := Lib.hid bY
  have HK1 := Lib.hid k1
  have HW : Hid (((((w.alloc (.cells #[.slice sa R.n sc, .slice qa R.p.length qc, .bool R.dead, .int .i64 R.left, .int .i64 R.fails, .int .i64 R.ops] 43)).alloc (.cells #[.int .i64 k, .int .i64 a, .int .u8 f, .slice va vn vc] 32)).alloc (.cells #[.slice none 0 0, .slice none 0 0, .bool false, .int .i64 0, .int .i64 0, .int .i64 0] 43)).alloc (.cells (bk zb).toArray 27)).alloc (.cells #[.int .i64 k, .int .i64 a, .int .u8 f, .slice va vn vc] 32) = W1) := Lib.hid hW1.symm
  have hzl : (bk zb).length = 64 := by rw [bk_len, zb_len]
  have hone : oneAll (bk zb).toArray = true := all_oneCell_toArray bk_one
  have hs1 : w.heap.size + 1 + 1 + 1 < W1.heap.size := by omega
  clear h bA bO bZ bY k1 s1 hW1 hk
  unfold rv
  go_enter Try.func24, Try.ntmps24
  go_wp2_with fail
  refine (HK.out _).mono ?_
  rintro e w1 ⟨rfl, hw1⟩
  rw [HW.out] at hw1
  subst hw1
  go_wp2_with fail
  have c0 := HA.out.cell (i := 0) rfl
  have c1 := HA.out.cell (i := 1) rfl
  have c2 := HA.out.cell (i := 2) rfl
  have c3 := HA.out.cell (i := 3) rfl
  have c4 := HA.out.cell (i := 4) rfl
  have c5 := HA.out.cell (i := 5) rfl
  have hO1 := HO.out.lt
  go_region_with (first
    | (go_at_call 19; refine (block_any f _).mono ?_; rintro e wb ⟨rfl, hkb⟩; have hkb' : Keeps (fun _ => False) w1 wb := (by first | exact hkb | exact (Keeps.refl (fun _ => False) w1).drew.trans hkb); have HKB := Lib.hid hkb'; have bA2 := hkb'.blk HA.out id; have u1 := (hkb'.blk HO.out id).cell (i := 1) rfl; have u2 := (hkb'.blk HO.out id).cell (i := 2) rfl; have j0 := bA2.cell (i := 0) rfl; have j1 := bA2.cell (i := 1) rfl; have j2 := bA2.cell (i := 2) rfl; have j3 := bA2.cell (i := 3) rfl; have j4 := bA2.cell (i := 4) rfl; have j5 := bA2.cell (i := 5) rfl;  clear hkb hkb' bA2)
    | (go_at_call 52; refine (HST.out _ (by first | exact HKB.out | exact HKB.out.drew)).mono ?_; rintro e w2 ⟨ta, tc, ua, uc, rfl, hR, ho1, ho2, hk2⟩; have hk2' : Keeps (fun _ => False) w1 w2 := (by first | exact HKB.out.trans hk2 | exact HKB.out.drew.trans hk2); have hzb := HKB.out.size; have HO1 : Hid (Old w1 (.slice sa R.n sc) (.slice ta r.2.n tc)) := Lib.hid (fun g hg => (ho1 g hg).imp id fun hh => Nat.le_trans HKB.out.size (by first | exact hh | simpa using hh)); have HO2 : Hid (Old w1 (.slice qa R.p.length qc) (.slice ua r.2.p.length uc)) := Lib.hid (fun g hg => (ho2 g hg).imp id fun hh => Nat.le_trans HKB.out.size (by first | exact hh | simpa using hh)); have HR := Lib.hid hR; have HK2 := Lib.hid hk2'; have bA3 := hk2'.blk HA.out id; have y0 := bA3.cell (i := 0) rfl; have y1 := bA3.cell (i := 1) rfl; have y2 := bA3.cell (i := 2) rfl; have y3 := bA3.cell (i := 3) rfl; have y4 := bA3.cell (i := 4) rfl; have y5 := bA3.cell (i := 5) rfl; have f0 := bA3.free 0; have f1 := bA3.free 1; have f2 := bA3.free 2; have f3 := bA3.free 3; have f4 := bA3.free 4; have f5 := bA3.free 5;  have hs2 := hk2'.size; clear hk2 hk2' hR ho1 ho2 bA3))
  all_goals
    have HA2 := Lib.hid (HK2.out.blk HA.out id)
    have HZ2 := Lib.hid (HK2.out.blk HZ.out id)
    have HY2 := Lib.hid (HK2.out.blk HY.out id)
    clear ah ar am
    try go_upto_region 14 with (fail)
    obtain ⟨W3, hW3⟩ : ∃ W3, W3 = ((((((w2.setCell ⟨w.heap.size, 0, none⟩ (.slice ta r.2.n tc)).setCell ⟨w.heap.size, 1, none⟩ (.slice ua r.2.p.length uc)).setCell ⟨w.heap.size, 2, none⟩ (.bool r.2.dead)).setCell ⟨w.heap.size, 3, none⟩ (.int .i64 r.2.left)).setCell ⟨w.heap.size, 4, none⟩ (.int .i64 r.2.fails)).setCell ⟨w.heap.size, 5, none⟩ (.int .i64 r.2.ops)) := ⟨_, rfl⟩
    have hk3 : Keeps (fun k => k = w.heap.size) w2 W3 := by rw [hW3]; exact six_keeps _ _ _ _ _ _ _ _
    have bA : Blk W3 w.heap.size 43 [.slice ta r.2.n tc, .slice ua r.2.p.length uc, .bool r.2.dead, .int .i64 r.2.left, .int .i64 r.2.fails, .int .i64 r.2.ops] := by rw [hW3]; exact six43 HA2.out rfl _ _ _ _ _ _
    have bZ := hk3.blk HZ2.out (by omega)
    have bY := hk3.blk HY2.out (by omega)
    rw [← hW3]
    clear hW3
    obtain ⟨ah, ar, am⟩ := blk_row bA (n := 6) rfl
    have HK3 := Lib.hid hk3
    have HKX : Hid (Keeps (fun k => w.heap.size ≤ k) w W3) := Lib.hid (((HK1.out.trans HK2.out).mono fun _ _ h => h.elim).trans (hk3.mono fun k _ e => by rw [show k = w.heap.size from e]; exact Nat.le_refl _))
    clear hk3 bA
    obtain ⟨zh, zr, zm⟩ := blk_row bZ (n := 6) rfl
    have hmay := may_beside bY (b := w.heap.size + 1 + 1) (by omega) hzl
    have HZX := Lib.hid bZ
    have HYX := Lib.hid bY
    clear bZ bY
    go_wp2_with fail
    obtain ⟨b1, b2, b3⟩ := both_laid (w := w) (X := W3) (zs := [.slice ta r.2.n tc, .slice ua r.2.p.length uc, .bool r.2.dead, .int .i64 r.2.left, .int .i64 r.2.fails, .int .i64 r.2.ops]) HZX.out HYX.out rfl (by omega) hzl HKX.out (by omega) (by omega)
    refine bodyPost_ret (v := .tuple #[.agg #[.slice ta r.2.n tc, .slice ua r.2.p.length uc, .bool r.2.dead, .int .i64 r.2.left, .int .i64 r.2.fails, .int .i64 r.2.ops], .agg (bk zb).toArray, .int .i64 r.1]) (result43_27_38 rfl rfl rfl rfl rfl b1 hzl b2) rfl ?_
    refine ⟨_, _, rfl, ?_, Old.trans (Old.refl _ _) HO1.out HK1.out.size, Old.trans (Old.refl _ _) HO2.out HK1.out.size, b3⟩
    have hks := ((setCells_keeps (w.heap.size + 1 + 1) [.slice ta r.2.n tc, .slice ua r.2.p.length uc, .bool r.2.dead, .int .i64 r.2.left, .int .i64 r.2.fails, .int .i64 r.2.ops] 0 W3).mono (S' := fun k => k = w.heap.size ∨ k = w.heap.size + 1 + 1 ∨ k = w.heap.size + 1 + 1 + 1) fun k _ e => .inr (.inl e)).trans ((setCells_keeps (w.heap.size + 1 + 1 + 1) (bk zb) 0 _).mono fun k _ e => .inr (.inr e))
    have hkA := (HK3.out.mono (S' := fun k => k = w.heap.size ∨ k = w.heap.size + 1 + 1 ∨ k = w.heap.size + 1 + 1 + 1) fun k _ e => .inl e).trans hks
    refine HR.out.keep hkA (fun g hg e => ?_) (fun g hg e => ?_)
    · have hne := fun b cs t (hb : Blk w2 b t cs) (ht : 27 ≠ t) => own_ne_blk hb HR.out.safe ht
      rcases e with e | e | e
      · exact hne _ _ _ HA2.out (by decide) (by rw [← show g = w.heap.size from e]; exact hg)
      · exact hne _ _ _ HZ2.out (by decide) (by rw [← show g = w.heap.size + 1 + 1 from e]; exact hg)
      · rcases HO1.out g hg with h1 | h1
        · have := HLT.out.1 g h1
          have e' : g = w.heap.size + 1 + 1 + 1 := e
          omega
        · have e' : g = w.heap.size + 1 + 1 + 1 := e
          omega
    · have hne := fun b cs t (hb : Blk w2 b t cs) (ht : 101 ≠ t) => own_ne_blk hb HR.out.pend ht
      rcases e with e | e | e
      · exact hne _ _ _ HA2.out (by decide) (by rw [← show g = w.heap.size from e]; exact hg)
      · exact hne _ _ _ HZ2.out (by decide) (by rw [← show g = w.heap.size + 1 + 1 from e]; exact hg)
      · exact hne _ _ _ HY2.out (by decide) (by rw [← show g = w.heap.size + 1 + 1 + 1 from e]; exact hg)
end Go.Proofs.Ytjiammhmeliogaa
