/- LruDoes: lists do as the document says, number by number. -/
import Derived.Test.YthnagihgjenimaaAgree
import Derived.Test.YthnagihgjenimaaOps
namespace Go.Proofs.Ythnagihgjenimaa
open Go.RowKit
set_option linter.unusedVariables false

theorem rpush_step (k : LK) (base : Nat) (w : World) (v : Value) (ls ls' : Nat → List Nat) (i x c : Int) (h : RefAt base w v k.N k.n ls) (ho : LsOk k ls) (hbase : base ≤ w.heap.size) (hS : PushS k ls i x c ls') :
    Calls Try.prog 22 #[v, .int .i64 i, .int .i64 x] w (RPost k base c ls' w) := by
  rcases hS with ⟨h1, rfl, rfl⟩ | ⟨i', x', j, rfl, rfl, hi, hj, hx, rfl, rfl⟩ | ⟨i', x', rfl, rfl, hi, hx, hf, rfl, rfl⟩
  · exact rpush_bad k base w v _ h ho i x h1
  · exact rpush_there k base w v _ h ho hbase i' x' hi (ho.lt j x' hj hx) j hj hx
  · exact rpush_new k base w v _ h ho hbase i' x' hi hx hf

theorem rtouch_step (k : LK) (base : Nat) (w : World) (v : Value) (ls ls' : Nat → List Nat) (x c : Int) (h : RefAt base w v k.N k.n ls) (ho : LsOk k ls) (hbase : base ≤ w.heap.size) (hS : TouchS k ls x c ls') :
    Calls Try.prog 23 #[v, .int .i64 x] w (RPost k base c ls' w) := by
  rcases hS with ⟨h1, rfl, rfl⟩ | ⟨x', rfl, hx, hf, rfl, rfl⟩ | ⟨x', j, xs, ys, rfl, hj, hl, rfl, rfl⟩
  · exact rtouch_bad k base w v _ h ho hbase x h1
  · exact rtouch_none k base w v _ h ho hbase x' hx hf
  · exact rtouch_ok k base w v _ h ho hbase x' (ho.lt j x' hj (by rw [hl]; simp)) j xs ys hj hl

theorem rremove_step (k : LK) (base : Nat) (w : World) (v : Value) (ls ls' : Nat → List Nat) (x c : Int) (h : RefAt base w v k.N k.n ls) (ho : LsOk k ls) (hbase : base ≤ w.heap.size) (hS : RemoveS k ls x c ls') :
    Calls Try.prog 24 #[v, .int .i64 x] w (RPost k base c ls' w) := by
  rcases hS with ⟨h1, rfl, rfl⟩ | ⟨x', rfl, hx, hf, rfl, rfl⟩ | ⟨x', j, xs, ys, rfl, hj, hl, rfl, rfl⟩
  · exact rremove_bad k base w v _ h ho hbase x h1
  · exact rremove_none k base w v _ h ho hbase x' hx hf
  · exact rremove_ok k base w v _ h ho hbase x' (ho.lt j x' hj (by rw [hl]; simp)) j xs ys hj hl

/-- Behind each op: the lists and the document's lists hold the same. -/
structure DoS (w0 : World) (k : LK) (base yb : Nat) (ls : Nat → List Nat) (ov : Value) (wr : World) : Prop where
  has : k.Has wr ls
  ref : RefAt base wr (.agg #[.int .i64 (k.N : Int), ov]) k.N k.n ls
  box : Blk wr yb 50 [.int .i64 (k.N : Int), ov]
  below : Below w0.heap.size w0 wr
  le : base ≤ wr.heap.size

/-- Which blocks are the lists' own, which the document's. -/
structure DoB (w0 : World) (k : LK) (base yb : Nat) : Prop where
  kB : k.B < base
  own : ∀ b, k.own b → b < base
  ge : ∀ b, k.own b → w0.heap.size ≤ b
  yb : base ≤ yb
  wb : w0.heap.size ≤ base

theorem DoS.quiet {w0 : World} {k : LK} {base yb : Nat} {ls : Nat → List Nat} {ov : Value} {wr w2 : World} (h : DoS w0 k base yb ls ov wr) (hk : Keeps (fun _ => False) wr w2) : DoS w0 k base yb ls ov w2 :=
  ⟨h.has.quiet hk, h.ref.quiet hk, hk.blk h.box id, Keeps.thenQ h.below hk h.below.size, Nat.le_trans h.le hk.size⟩

/-- A call on the lists: the document's stay. -/
theorem DoS.ref_own {w0 : World} {k : LK} {base yb : Nat} {ls : Nat → List Nat} {ov : Value} {wr w2 : World} (hB : DoB w0 k base yb) (h : DoS w0 k base yb ls ov wr) (hk : Keeps k.own wr w2) :
    RefAt base w2 (.agg #[.int .i64 (k.N : Int), ov]) k.N k.n ls ∧ Blk w2 yb 50 [.int .i64 (k.N : Int), ov] ∧ Below w0.heap.size w0 w2 ∧ base ≤ w2.heap.size :=
  ⟨h.ref.keep hk fun g _ _ hg _ _ ho => by have := hB.own g ho; omega, hk.blk h.box fun ho => by have := hB.own _ ho; have := hB.yb; omega,
    Keeps.thenB h.below hk hB.ge h.below.size, Nat.le_trans h.le hk.size⟩

/-- The document's lists are put into their box. -/
theorem DoS.put {w0 : World} {k : LK} {base yb : Nat} {ls : Nat → List Nat} {ov ov' : Value} {w2 : World} (hB : DoB w0 k base yb) (h1 : k.Has w2 ls) (h2 : RefAt base w2 (.agg #[.int .i64 (k.N : Int), ov']) k.N k.n ls)
    (h3 : Blk w2 yb 50 [.int .i64 (k.N : Int), ov]) (h4 : Below w0.heap.size w0 w2) (h5 : base ≤ w2.heap.size) :
    DoS w0 k base yb ls ov' ((w2.setCell ⟨yb, 0, none⟩ (.int .i64 (k.N : Int))).setCell ⟨yb, 1, none⟩ ov') := by
  have hs : Keeps (fun b => b = yb) w2 ((w2.setCell ⟨yb, 0, none⟩ (.int .i64 (k.N : Int))).setCell ⟨yb, 1, none⟩ ov') :=
    ((Keeps.refl (fun b => b = yb) w2).store (p := ⟨yb, 0, none⟩) (.inl rfl) _).store (p := ⟨yb, 1, none⟩) (.inl rfl) _
  have ny : ∀ b, k.own b → ¬ b = yb := fun b ho e => by have := hB.own b ho; have := hB.yb; omega
  refine ⟨h1.keep hs (fun e => by have := hB.kB; have := hB.yb; have e' : k.B = yb := e; omega) (ny _ (.inl rfl)) (ny _ (.inr (.inl rfl))) (ny _ (.inr (.inr (.inl rfl)))) (ny _ (.inr (.inr (.inr rfl)))),
    h2.keep hs fun g cur t _ ht hc e => ?_, (h3.store 0 _).store 1 _, ?_, Nat.le_trans h5 hs.size⟩
  · rw [show g = yb from e] at hc
    have := blk_not_own h3 hc
    rcases ht with rfl | rfl <;> cases this
  · exact (h4.setCell (p := ⟨yb, 0, none⟩) (Nat.le_trans hB.wb hB.yb) _).setCell (p := ⟨yb, 1, none⟩) (Nat.le_trans hB.wb hB.yb) _

theorem RefAt.agg {base : Nat} {w : World} {v : Value} {N n : Nat} {ls : Nat → List Nat} (h : RefAt base w v N n ls) : ∃ a m c, v = .agg #[.int .i64 (N : Int), .slice a m c] := by
  obtain ⟨ov, rvs, rfl, ho, _⟩ := h
  obtain ⟨_, a, c, rfl, _⟩ := own_read ho
  exact ⟨a, n, c, rfl⟩

theorem small_num (z : Int) (m : Nat) (hm : 1 ≤ m) (hm2 : m ≤ 100) : ∃ N : Nat, wrap64 (1 + wrap64 ((IntKind.u64.wrap z).tmod m)) = (N : Int) ∧ 1 ≤ N ∧ N ≤ m := by
  have hur : 0 ≤ IntKind.u64.wrap z := by rw [IntKind.wrap_u64]; omega
  rw [Int.tmod_eq_emod_of_nonneg hur]
  have h1 := Int.emod_nonneg (IntKind.u64.wrap z) (show (m : Int) ≠ 0 by omega)
  have h2 := Int.emod_lt_of_pos (IntKind.u64.wrap z) (show (0 : Int) < m by omega)
  generalize (IntKind.u64.wrap z) % (m : Int) = r at h1 h2
  refine ⟨(1 + r).toNat, ?_, by omega, by omega⟩
  unfold wrap64
  omega

def DoT (w0 : World) (k : LK) (base yb : Nat) (wr : World) : Prop := ∃ ls a m c, DoS w0 k base yb ls (.slice a m c) wr

set_option maxRecDepth 100000 in
set_option maxHeartbeats 4000000 in
theorem does_law (nu li : Int) (a : Option Addr) (n c : Nat) (l : List Op3) (w : World) (hnu : (Lit.int .i64 nu).wf = true) (hli : (Lit.int .i64 li).wf = true) (hR : OpRow w a n l)
    (hwf : ∀ o ∈ l, (Lit.int .i64 o.kind).wf = true ∧ (Lit.int .i64 o.list).wf = true ∧ (Lit.int .i64 o.num).wf = true) (hnc : n ≤ c) (hc : c ≤ 140737488355328) :
    Calls Try.prog 6 #[.int .i64 nu, .int .i64 li, .slice a n c] w fun e w' => e = .returned (.bool true) ∧ Below w.heap.size w w' := by
  have HR := Lib.hid (hR.take (min n 200) (by omega))
  have HWF := Lib.hid hwf
  obtain ⟨nn, hnn⟩ : ∃ nn, nn = min n 200 := ⟨_, rfl⟩
  have hnn1 : nn ≤ 200 := by omega
  have hnn2 : nn ≤ n := by omega
  rw [← hnn] at HR
  have HNN := Lib.hid hnn
  clear hR hwf hnn
  go_enter Try.func6, Try.ntmps6
  go_wp2_with (go_at_call 8; refine (wakes_yes _).mono ?_; rintro e w0 ⟨rfl, hb0⟩)
  obtain ⟨N, hv0, hN1, hN2⟩ := small_num nu 12 (by omega) (by omega)
  obtain ⟨M, hv1, hM1, hM2⟩ := small_num li 4 (by omega) (by omega)
  rw [show (((12 : Nat) : Int)) = 12 from rfl] at hv0
  rw [show (((4 : Nat) : Int)) = 4 from rfl] at hv1
  rw [hv0, hv1]
  clear hv0 hv1
  refine (new_ok N M w0 (by omega) (by omega) (by omega) (by omega)).mono ?_
  rintro e w1 ⟨k, rfl, hN, hn, hHas, hkB, hown, hb1⟩
  have hbw := hb0.trans (hb1.mono hb0.size)
  obtain rfl := hN
  obtain rfl := hn
  have HOK := Lib.hid hHas.ok
  have hlt := hHas.lt
  have hge : ∀ b, k.own b → w.heap.size ≤ b := fun b hb => Nat.le_trans hb0.size (hown b hb)
  have HLT := Lib.hid hlt
  have HGE := Lib.hid hge
  have HHas := Lib.hid hHas
  have HBW := Lib.hid hbw
  have hsz1 := hbw.size
  clear hlt hge hHas hbw hb0 hb1 hown hkB
  unfold LK.ptr at *
  go_wp2_with fail
  refine (rnew_any w1 k.N k.n hM1 (by omega)).mono ?_
  rintro e w2 ⟨v2, rfl, hr2, hk2⟩
  obtain ⟨ova, ovm, ovc, rfl⟩ := hr2.agg
  have hsz2 := hk2.size
  have HR2 := Lib.hid hr2
  have HK2 := Lib.hid hk2
  clear hr2 hk2
  go_wp2_with (go_at_call 15; refine (few_any _ _ _ _ hnc hc).mono ?_; rw [← HNN.out]; rintro e w' ⟨rfl, rfl⟩)
  have HDB : Hid (DoB w k w1.heap.size w2.heap.size) := Lib.hid ⟨HLT.out.1, HLT.out.2, HGE.out, hsz2, hsz1⟩
  have hS0 : DoS w k w1.heap.size w2.heap.size (fun _ => []) (.slice ova ovm ovc) (w2.alloc (.cells #[.int .i64 (k.N : Int), .slice ova ovm ovc] 50)) := by
    have hka : Keeps (fun _ => False) w2 (w2.alloc (.cells #[.int .i64 (k.N : Int), .slice ova ovm ovc] 50)) := (Keeps.refl _ _).alloc _
    exact ⟨(HHas.out.quiet HK2.out).quiet hka, HR2.out.quiet hka, Blk.new w2 50 [.int .i64 (k.N : Int), .slice ova ovm ovc], Keeps.thenQ (Keeps.thenQ HBW.out HK2.out hsz1) hka (by omega), by simp; omega⟩
  have HT : Hid (DoT w k w1.heap.size w2.heap.size (w2.alloc (.cells #[.int .i64 (k.N : Int), .slice ova ovm ovc] 50))) := Lib.hid ⟨_, _, _, _, hS0⟩
  clear hS0
  go_loopw [44] (fun i wr => ∃ t : Nat, t ≤ nn ∧ i = .int .i64 t ∧ DoT w k w1.heap.size w2.heap.size wr) (fun i _ => nn - (intOf i).toNat)
  case atStart => exact ⟨0, Nat.zero_le _, rfl, HT.out⟩
  case round =>
    obtain ⟨t, ht, rfl, hs⟩ := hrel
    by_cases hlt : t < nn
    · obtain ⟨ls, ya, ym, yc, hs⟩ := hs
      obtain ⟨o, ho⟩ : ∃ o, (l.take nn)[t]? = some o := ⟨_, List.getElem?_eq_getElem (by rw [HR.out.1]; exact hlt)⟩
      obtain ⟨ab, ao, hadd, hal, g1, g2, g3⟩ := (HR.out.below hs.below).2 t o ho
      subst hadd
      have hom : o ∈ l := List.mem_of_mem_take (List.mem_of_getElem? ho)
      obtain ⟨wk, wl, wn⟩ := HWF.out o hom
      have hkc : kindOf o.kind = 0 ∨ kindOf o.kind = 1 ∨ kindOf o.kind = 2 := by unfold kindOf; omega
      have HKI := Lib.hid (fun W => kind_any o.kind o.list o.num W wk)
      have Q1 := ((Keeps.refl (fun _ => False) wr).alloc (.cells #[.int .i64 o.kind, .int .i64 o.list, .int .i64 o.num] 35)).alloc (.cells #[.int .i64 o.kind, .int .i64 o.list, .int .i64 o.num] 35)
      have hO1 := (Blk.new wr 35 [.int .i64 o.kind, .int .i64 o.list, .int .i64 o.num]).alloc (.cells #[.int .i64 o.kind, .int .i64 o.list, .int .i64 o.num] 35)
      have HS1 := Lib.hid (hs.quiet Q1)
      have HH1 := Lib.hid (hs.quiet Q1).has
      have HOK1 := Lib.hid hs.has.ok
      have hoo : ¬ k.own wr.heap.size := fun h => by have := hs.has.lt.2 _ h; omega
      have HOO := Lib.hid hoo
      have HYL := Lib.hid hs.box.lt
      have hf1 := hO1.cell (i := 1) (v := .int .i64 o.list) rfl
      have hf2 := hO1.cell (i := 2) (v := .int .i64 o.num) rfl
      have hobw := hO1.lt
      have F1 := Lib.hid hf1
      have F2 := Lib.hid hf2
      have FB := Lib.hid hobw
      clear ho hom wk wl wn hs Q1 hoo hf1 hf2 hobw hO1
      go_wp2_with fail
      refine (HKI.out _).mono ?_
      rintro e w' ⟨rfl, rfl⟩
      clear g1 g2 g3
      generalize (wr.alloc (.cells #[.int .i64 o.kind, .int .i64 o.list, .int .i64 o.num] 35)).alloc (.cells #[.int .i64 o.kind, .int .i64 o.list, .int .i64 o.num] 35) = wz at F1 F2 FB HH1 HS1 ⊢
      have f1 := F1.out
      have f2 := F2.out
      rcases hkc with kc | kc | kc
      · rw [kc]
        clear kc
        go_wp2_with fail
        refine (push_step k wz ls HH1.out o.list o.num).mono ?_
        rintro e w3 ⟨c2, ls2, hS, rfl, hH2, hk2⟩
        obtain ⟨r1, r2, r3, r4⟩ := DoS.ref_own HDB.out HS1.out hk2
        have hf1 : w3.cell? ⟨wr.heap.size, 1, none⟩ = some (.int .i64 o.list) := by rw [hk2.cell FB.out HOO.out]; exact f1
        have hf2 : w3.cell? ⟨wr.heap.size, 2, none⟩ = some (.int .i64 o.num) := by rw [hk2.cell FB.out HOO.out]; exact f2
        have e0 := r2.cell (i := 0) rfl
        have e1 := r2.cell (i := 1) rfl
        have hlt3 : wr.heap.size < w3.heap.size := Nat.lt_of_lt_of_le FB.out hk2.size
        have HRC := Lib.hid (rpush_step k w1.heap.size w3 _ ls ls2 o.list o.num c2 r1 HOK1.out r4 hS)
        have H2 := Lib.hid hH2
        have R2 := Lib.hid r2
        have R3 := Lib.hid r3
        have R4 := Lib.hid r4
        have F1' := Lib.hid hf1
        have F2' := Lib.hid hf2
        have FL := Lib.hid hlt3
        clear r1 r2 r3 r4 hS hH2 hk2 f1 f2
        unfold LK.ptr at *
        go_wp2_with fail
        refine HRC.out.mono ?_
        rintro e w4 ⟨v4, rfl, hr4, hk4⟩
        obtain ⟨a4, m4, c4, rfl⟩ := hr4.agg
        have b4 := hk4.blk R2.out id
        have g1 := (hk4.cell (p := ⟨wr.heap.size, 1, none⟩) FL.out id).trans F1'.out
        have g2 := (hk4.cell (p := ⟨wr.heap.size, 2, none⟩) FL.out id).trans F2'.out
        have g0 := b4.cell (i := 0) rfl
        have g3 := b4.cell (i := 1) rfl
        have g4 := b4.free 0
        have g5 := b4.free 1
        have hyn : w2.heap.size ≠ wr.heap.size := Nat.ne_of_lt HYL.out
        have HS4 := Lib.hid (DoS.put HDB.out (H2.out.quiet hk4) hr4 b4 (Keeps.thenQ R3.out hk4 R3.out.size) (Nat.le_trans R4.out hk4.size))
        have HB4 := Lib.hid b4
        clear hr4 hk4 e0 e1 hf1 hf2 b4
        go_wp2_with fail
        generalize hw5 : ((w4.setCell ⟨w2.heap.size, 0, none⟩ (.int .i64 (k.N : Int))).setCell ⟨w2.heap.size, 1, none⟩ (.slice a4 m4 c4)) = w5 at HS4 ⊢
        have HAG := Lib.hid (agree_yes k _ w5 _ ls2 HS4.out.has HS4.out.ref o.list o.num)
        clear hw5
        unfold LK.ptr at *
        go_wp2_with fail
        refine HAG.out.mono ?_
        rintro e w6 ⟨rfl, hk6⟩
        have HT6 : Hid (DoT w k w1.heap.size w2.heap.size w6) := Lib.hid ⟨ls2, _, _, _, HS4.out.quiet hk6⟩
        clear hk6
        go_wp2_with fail
        go_roundw
        case rel => exact ⟨t + 1, by omega, by go_num, HT6.out⟩
        case measure => simp [intOf]; omega
      · rw [kc]
        clear kc
        go_wp2_with fail
        refine (touch_step k wz ls HH1.out o.num).mono ?_
        rintro e w3 ⟨c2, ls2, hS, rfl, hH2, hk2⟩
        obtain ⟨r1, r2, r3, r4⟩ := DoS.ref_own HDB.out HS1.out hk2
        have hf1 : w3.cell? ⟨wr.heap.size, 1, none⟩ = some (.int .i64 o.list) := by rw [hk2.cell FB.out HOO.out]; exact f1
        have hf2 : w3.cell? ⟨wr.heap.size, 2, none⟩ = some (.int .i64 o.num) := by rw [hk2.cell FB.out HOO.out]; exact f2
        have e0 := r2.cell (i := 0) rfl
        have e1 := r2.cell (i := 1) rfl
        have hlt3 : wr.heap.size < w3.heap.size := Nat.lt_of_lt_of_le FB.out hk2.size
        have HRC := Lib.hid (rtouch_step k w1.heap.size w3 _ ls ls2 o.num c2 r1 HOK1.out r4 hS)
        have H2 := Lib.hid hH2
        have R2 := Lib.hid r2
        have R3 := Lib.hid r3
        have R4 := Lib.hid r4
        have F1' := Lib.hid hf1
        have F2' := Lib.hid hf2
        have FL := Lib.hid hlt3
        clear r1 r2 r3 r4 hS hH2 hk2 f1 f2
        unfold LK.ptr at *
        go_wp2_with fail
        refine HRC.out.mono ?_
        rintro e w4 ⟨v4, rfl, hr4, hk4⟩
        obtain ⟨a4, m4, c4, rfl⟩ := hr4.agg
        have b4 := hk4.blk R2.out id
        have g1 := (hk4.cell (p := ⟨wr.heap.size, 1, none⟩) FL.out id).trans F1'.out
        have g2 := (hk4.cell (p := ⟨wr.heap.size, 2, none⟩) FL.out id).trans F2'.out
        have g0 := b4.cell (i := 0) rfl
        have g3 := b4.cell (i := 1) rfl
        have g4 := b4.free 0
        have g5 := b4.free 1
        have hyn : w2.heap.size ≠ wr.heap.size := Nat.ne_of_lt HYL.out
        have HS4 := Lib.hid (DoS.put HDB.out (H2.out.quiet hk4) hr4 b4 (Keeps.thenQ R3.out hk4 R3.out.size) (Nat.le_trans R4.out hk4.size))
        have HB4 := Lib.hid b4
        clear hr4 hk4 e0 e1 hf1 hf2 b4
        go_wp2_with fail
        generalize hw5 : ((w4.setCell ⟨w2.heap.size, 0, none⟩ (.int .i64 (k.N : Int))).setCell ⟨w2.heap.size, 1, none⟩ (.slice a4 m4 c4)) = w5 at HS4 ⊢
        have HAG := Lib.hid (agree_yes k _ w5 _ ls2 HS4.out.has HS4.out.ref o.list o.num)
        clear hw5
        unfold LK.ptr at *
        go_wp2_with fail
        refine HAG.out.mono ?_
        rintro e w6 ⟨rfl, hk6⟩
        have HT6 : Hid (DoT w k w1.heap.size w2.heap.size w6) := Lib.hid ⟨ls2, _, _, _, HS4.out.quiet hk6⟩
        clear hk6
        go_wp2_with fail
        go_roundw
        case rel => exact ⟨t + 1, by omega, by go_num, HT6.out⟩
        case measure => simp [intOf]; omega
      · rw [kc]
        clear kc
        go_wp2_with fail
        refine (remove_step k wz ls HH1.out o.num).mono ?_
        rintro e w3 ⟨c2, ls2, hS, rfl, hH2, hk2⟩
        obtain ⟨r1, r2, r3, r4⟩ := DoS.ref_own HDB.out HS1.out hk2
        have hf1 : w3.cell? ⟨wr.heap.size, 1, none⟩ = some (.int .i64 o.list) := by rw [hk2.cell FB.out HOO.out]; exact f1
        have hf2 : w3.cell? ⟨wr.heap.size, 2, none⟩ = some (.int .i64 o.num) := by rw [hk2.cell FB.out HOO.out]; exact f2
        have e0 := r2.cell (i := 0) rfl
        have e1 := r2.cell (i := 1) rfl
        have hlt3 : wr.heap.size < w3.heap.size := Nat.lt_of_lt_of_le FB.out hk2.size
        have HRC := Lib.hid (rremove_step k w1.heap.size w3 _ ls ls2 o.num c2 r1 HOK1.out r4 hS)
        have H2 := Lib.hid hH2
        have R2 := Lib.hid r2
        have R3 := Lib.hid r3
        have R4 := Lib.hid r4
        have F1' := Lib.hid hf1
        have F2' := Lib.hid hf2
        have FL := Lib.hid hlt3
        clear r1 r2 r3 r4 hS hH2 hk2 f1 f2
        unfold LK.ptr at *
        go_wp2_with fail
        refine HRC.out.mono ?_
        rintro e w4 ⟨v4, rfl, hr4, hk4⟩
        obtain ⟨a4, m4, c4, rfl⟩ := hr4.agg
        have b4 := hk4.blk R2.out id
        have g1 := (hk4.cell (p := ⟨wr.heap.size, 1, none⟩) FL.out id).trans F1'.out
        have g2 := (hk4.cell (p := ⟨wr.heap.size, 2, none⟩) FL.out id).trans F2'.out
        have g0 := b4.cell (i := 0) rfl
        have g3 := b4.cell (i := 1) rfl
        have g4 := b4.free 0
        have g5 := b4.free 1
        have hyn : w2.heap.size ≠ wr.heap.size := Nat.ne_of_lt HYL.out
        have HS4 := Lib.hid (DoS.put HDB.out (H2.out.quiet hk4) hr4 b4 (Keeps.thenQ R3.out hk4 R3.out.size) (Nat.le_trans R4.out hk4.size))
        have HB4 := Lib.hid b4
        clear hr4 hk4 e0 e1 hf1 hf2 b4
        go_wp2_with fail
        generalize hw5 : ((w4.setCell ⟨w2.heap.size, 0, none⟩ (.int .i64 (k.N : Int))).setCell ⟨w2.heap.size, 1, none⟩ (.slice a4 m4 c4)) = w5 at HS4 ⊢
        have HAG := Lib.hid (agree_yes k _ w5 _ ls2 HS4.out.has HS4.out.ref o.list o.num)
        clear hw5
        unfold LK.ptr at *
        go_wp2_with fail
        refine HAG.out.mono ?_
        rintro e w6 ⟨rfl, hk6⟩
        have HT6 : Hid (DoT w k w1.heap.size w2.heap.size w6) := Lib.hid ⟨ls2, _, _, _, HS4.out.quiet hk6⟩
        clear hk6
        go_wp2_with fail
        go_roundw
        case rel => exact ⟨t + 1, by omega, by go_num, HT6.out⟩
        case measure => simp [intOf]; omega
    · obtain rfl : t = nn := by omega
      obtain ⟨ls, ya, ym, yc, hs⟩ := hs
      have HS := Lib.hid hs
      clear hs
      go_wp2_with fail
      go_loopw [106] (fun i wx => ∃ t : Nat, t ≤ k.n ∧ i = .int .i64 t ∧ DoS w k w1.heap.size w2.heap.size ls (.slice ya ym yc) wx) (fun i _ => k.n - (intOf i).toNat)
      case atStart => exact ⟨0, Nat.zero_le _, rfl, HS.out⟩
      case round =>
        obtain ⟨q, hq, rfl, hs⟩ := hrel
        by_cases hlt2 : q < k.n
        · have e0 := hs.box.cell (i := 0) rfl
          have e1 := hs.box.cell (i := 1) rfl
          have HS2 := Lib.hid hs
          have HAG := Lib.hid (agree_yes k _ wr _ ls hs.has hs.ref (q : Int) (q : Int))
          clear hs
          unfold LK.ptr at *
          go_wp2_with fail
          refine HAG.out.mono ?_
          rintro e w6 ⟨rfl, hk6⟩
          have HS6 := Lib.hid (HS2.out.quiet hk6)
          clear hk6 e0 e1
          go_wp2_with fail
          go_roundw
          case rel => exact ⟨q + 1, by omega, by go_num, HS6.out⟩
          case measure => simp [intOf]; omega
        · obtain rfl : q = k.n := by omega
          go_wp2_with fail
          go_ret
          exact ⟨rfl, hs.below⟩
end Go.Proofs.Ythnagihgjenimaa
