/- LruDrains: whoever takes the oldest again and again gets all, in the order in which they were used last. -/
import Derived.Test.YthnagihgjenimaaOps
import Derived.Test.YthnagihgjenimaaSteps
import Derived.Test.YthnagihgjenimaaIntMap
import Derived.Test.YthnagihgjenimaaArrEq
namespace Go.Proofs.Ythnagihgjenimaa
open Go.RowKit
set_option linter.unusedVariables false

/-- The state behind t ops. -/
def DrS (w0 : World) (k : LK) (bm : Nat) (t : Nat) (wr : World) : Prop :=
  ∃ (ls : Nat → List Nat) (u : Int → Int) (m : Nat), k.Has wr ls ∧ IMap wr bm m u ∧ m ≤ t ∧ Used k ls u t ∧ Below w0.heap.size w0 wr

theorem drs_store {w0 w2 w3 : World} {k : LK} {bm m t : Nat} {ls : Nat → List Nat} {u : Int → Int} (hL : k.B < bm ∧ ∀ b, k.own b → b < bm) (hb : w0.heap.size ≤ bm) (hH : k.Has w2 ls) (hI : IMap w3 bm (m + 1) u) (hg : w2.grownBy w3 (some bm))
    (hm : m ≤ t) (hU : Used k ls u ((t : Int) + 1)) (hB : Below w0.heap.size w0 w2) : DrS w0 k bm (t + 1) w3 := by
  have hne : ∀ b, b < bm → ¬ (some bm = some b) := fun b h e => by injection e with e; omega
  exact ⟨ls, u, m + 1, hH.keep (Keeps.of_grown hg) (hne _ hL.1) (hne _ (hL.2 _ (.inl rfl))) (hne _ (hL.2 _ (.inr (.inl rfl)))) (hne _ (hL.2 _ (.inr (.inr (.inl rfl))))) (hne _ (hL.2 _ (.inr (.inr (.inr rfl))))),
    hI, by omega, hU, hB.grown hg hB.size (fun g e => by injection e with e; omega)⟩

theorem used_touch {k : LK} {w : World} {ls : Nat → List Nat} {u : Int → Int} {t : Int} (hH : k.Has w ls) (h : Used k ls u t) (ht : 0 ≤ t) {j x : Nat} {xs ys : List Nat} (hj : j < k.n) (hl : ls j = xs ++ x :: ys) :
    Used k (upd ls j (x :: (xs ++ ys))) (fun z => if z = (x : Int) then t + 1 else u z) (t + 1) := by
  have h1 := used_push (used_remove h hj hl) ht (i := j) (x := x) hj (not_in_upd hH hj hl)
  rw [upd_same, upd_upd] at h1
  exact h1

theorem below_drawn {w w2 : World} {d : Nat} (h : Below w.heap.size w w2) : Below w.heap.size w (w2.drewN d) := ⟨h.os, h.tape, h.output, h.size, h.block⟩

theorem eq38 (a b : Int) (w : World) : (Op.equalIn 10000 38 (.agg #[.int .i64 a, .int .i64 b]) (.agg #[.int .i64 a, .int .i64 b])).run Try.prog w = .ok true w := by
  obtain ⟨i, hi, _⟩ := info_parts info3
  have h := run_eq_ints (P := Try.prog) (n := 2) 9998 Try.underlying38 Try.underlying3 (by kernel_rfl) hi (by kernel_rfl) [a, b] [a, b] rfl rfl w
  simpa using h

theorem len_left (k : LK) (w : World) (ls : Nat → List Nat) (h : k.Has w ls) (i : Nat) (hi : i < k.n) :
    Calls Try.prog 12 #[.pointer (some ⟨k.B, 0, none⟩), .int .i64 i] w fun e w' => e = .returned (.int .i64 ((ls i).length : Int)) ∧ w' = w :=
  (len_ok k w ls h i hi).mono fun _ _ ⟨a, b⟩ => ⟨a, b.symm⟩

theorem upd_self (ls : Nat → List Nat) (i : Nat) : upd ls i (ls i) = ls := by
  funext j; unfold upd; split <;> simp_all

/-- The state behind r rounds of taking the oldest of list q. -/
def DrL (w0 : World) (k : LK) (bm : Nat) (ls : Nat → List Nat) (u : Int → Int) (m q oa n1 n2 r : Nat) (last : Int) (wr : World) : Prop :=
  k.Has wr (upd ls q ((ls q).take ((ls q).length - r))) ∧ IMap wr bm m u ∧ Blk wr oa 38 [.int .i64 (n1 : Int), .int .i64 (n2 : Int)] ∧
    (∀ x ∈ (ls q).take ((ls q).length - r), last < u (x : Int)) ∧ Below w0.heap.size w0 wr

set_option maxRecDepth 100000 in
set_option maxHeartbeats 4000000 in
theorem drains_law (a : Option Addr) (n c : Nat) (l : List Op3) (li : Int) (w : World) (hR : OpRow w a n l) (hwf : ∀ o ∈ l, (Lit.int .i64 o.kind).wf = true ∧ (Lit.int .i64 o.list).wf = true ∧ (Lit.int .i64 o.num).wf = true) (hnc : n ≤ c) (hc : c ≤ 140737488355328) (hli : (Lit.int .i64 li).wf = true) :
    Calls Try.prog 4 #[.slice a n c, .int .i64 li] w fun e w' => e = .returned (.bool true) ∧ Below w.heap.size w w' := by
  have HR := Lib.hid (hR.take (min n 200) (by omega))
  have HWF := Lib.hid hwf
  have hmm := @run_makeMap Try.prog
  obtain ⟨nn, hnn⟩ : ∃ nn, nn = min n 200 := ⟨_, rfl⟩
  have hnn1 : nn ≤ 200 := by omega
  have hnn2 : nn ≤ n := by omega
  rw [← hnn] at HR
  have HNN := Lib.hid hnn
  clear hR hwf hnn
  go_enter Try.func4, Try.ntmps4
  go_wp2_with (go_at_call 8; refine (wakes_yes _).mono ?_; rintro e w0 ⟨rfl, hb0⟩)
  refine (new_ok 30 3 w0 (by omega) (by omega) (by omega) (by omega)).mono ?_
  rintro e w1 ⟨k, rfl, hN, hn, hHas, hkB, hown, hb1⟩
  have hbw := hb0.trans (hb1.mono hb0.size)
  have HN := Lib.hid hN
  have HM := Lib.hid hn
  have HO := Lib.hid (fun b hb => Nat.le_trans hb0.size (hown b hb))
  have HHas := Lib.hid hHas
  clear hN hn hown hHas hb0 hb1 hkB
  unfold LK.ptr at *
  go_wp2_with (go_at_call 15; refine (few_any _ _ _ _ hnc hc).mono ?_; rw [← HNN.out]; rintro e w' ⟨rfl, rfl⟩)
  have hst : DrS w k w1.heap.size 0 (w1.alloc (.map #[] 0)) :=
    ⟨fun _ => [], fun _ => 0, 0, HHas.out.quiet ((Keeps.refl _ _).alloc _), IMap.made w1, Nat.le_refl _, fun i hi => ⟨List.Pairwise.nil, fun x hx => by cases hx⟩, hbw.alloc hbw.size _⟩
  have HS := Lib.hid hst
  have hmap1 : w.heap.size ≤ w1.heap.size := hbw.size
  have HMO : Hid (¬ k.own w1.heap.size) := Lib.hid (fun h => by have := HHas.out.lt.2 _ h; omega)
  have HLT := Lib.hid HHas.out.lt
  clear hst hbw
  go_loopw [8, 9, 29] (fun _ _ i wr => ∃ t : Nat, t ≤ nn ∧ i = .int .i64 t ∧ DrS w k w1.heap.size t wr) (fun _ _ i _ => nn - (intOf i).toNat)
  case atStart => exact ⟨0, Nat.zero_le _, rfl, HS.out⟩
  case round =>
    obtain ⟨t, ht, rfl, hs⟩ := hrel
    obtain ⟨ls, u, m, hH, hI, hmt, hU, hB⟩ := hs
    by_cases hlt : t < nn
    · obtain ⟨o, ho⟩ : ∃ o, (l.take nn)[t]? = some o := ⟨_, List.getElem?_eq_getElem (by rw [HR.out.1]; exact hlt)⟩
      obtain ⟨ab, ao, hadd, hal, g1, g2, g3⟩ := (HR.out.below hB).2 t o ho
      subst hadd
      have hom : o ∈ l := List.mem_of_mem_take (List.mem_of_getElem? ho)
      obtain ⟨wk, wl, wn⟩ := HWF.out o hom
      have hkc : kindOf o.kind = 0 ∨ kindOf o.kind = 1 ∨ kindOf o.kind = 2 := by unfold kindOf; omega
      have HKI := Lib.hid (fun W => kind_any o.kind o.list o.num W wk)
      have HU := Lib.hid hU
      have wt : (Lit.int .i64 ((t : Int) + 1)).wf = true := WalkArith.wf_i64 (by omega)
      have HWT := Lib.hid wt
      have HWN := Lib.hid wn
      have Q1 := ((Keeps.refl (fun _ => False) wr).alloc (.cells #[.int .i64 o.kind, .int .i64 o.list, .int .i64 o.num] 35)).alloc (.cells #[.int .i64 o.kind, .int .i64 o.list, .int .i64 o.num] 35)
      have hH1 := hH.quiet Q1
      have hI1 := hI.keep Q1 id
      have hO1 := (Blk.new wr 35 [.int .i64 o.kind, .int .i64 o.list, .int .i64 o.num]).alloc (.cells #[.int .i64 o.kind, .int .i64 o.list, .int .i64 o.num] 35)
      have hB1 := Keeps.thenQ hB Q1 hB.size
      have hob : w.heap.size ≤ wr.heap.size := hB.size
      have hoo : ¬ k.own wr.heap.size := fun h => by have := hH.lt.2 _ h; omega
      have HOO := Lib.hid hoo
      have hf1 := hO1.cell (i := 1) (v := .int .i64 o.list) rfl
      have hf2 := hO1.cell (i := 2) (v := .int .i64 o.num) rfl
      have hobw := hO1.lt
      have F1 := Lib.hid hf1
      have F2 := Lib.hid hf2
      have FB := Lib.hid hobw
      have HH1 := Lib.hid hH1
      have HI1 := Lib.hid hI1
      have HB1 := Lib.hid hB1
      have hmt' : m < maxLen := by unfold maxLen; omega
      clear ho hom wk wl wn wt hU hH hI hB Q1 hoo hf1 hf2 hobw hO1 hH1 hI1 hB1
      go_wp2_with fail
      refine (HKI.out _).mono ?_
      rintro e w' ⟨rfl, rfl⟩
      clear g1 g2 g3
      generalize (wr.alloc (.cells #[.int .i64 o.kind, .int .i64 o.list, .int .i64 o.num] 35)).alloc (.cells #[.int .i64 o.kind, .int .i64 o.list, .int .i64 o.num] 35) = wz at F1 F2 FB HH1 HI1 HB1 ⊢
      have f1 := F1.out
      have f2 := F2.out
      rcases hkc with kc | kc | kc
      · rw [kc]
        clear kc
        go_wp2_with fail
        refine (push_step k wz ls HH1.out o.list o.num).mono ?_
        rintro e w2 ⟨c2, ls2, hS, rfl, hH2, hk2⟩
        have hI2 := HI1.out.keep hk2 HMO.out
        have hB2 := Keeps.thenB HB1.out hk2 HO.out HB1.out.size
        have hf2 : w2.cell? ⟨wr.heap.size, 2, none⟩ = some (.int .i64 o.num) := by rw [hk2.cell FB.out HOO.out]; exact f2
        rcases hS with ⟨_, rfl, rfl⟩ | ⟨_, _, _, _, _, _, _, _, rfl, rfl⟩ | ⟨i', x', e1, e2, hi', hx', hnot, rfl, rfl⟩
        · have HE : Hid (DrS w k w1.heap.size (t + 1) w2) := Lib.hid ⟨ls2, u, m, hH2, hI2, by omega, HU.out.later, hB2⟩
          clear hH2 hI2 hB2 hk2 hf2
          go_wp2_with fail
          go_roundw
          case rel => exact ⟨t + 1, by omega, by go_num, HE.out⟩
          case measure => simp [intOf]; omega
        · have HE : Hid (DrS w k w1.heap.size (t + 1) w2) := Lib.hid ⟨ls2, u, m, hH2, hI2, by omega, HU.out.later, hB2⟩
          clear hH2 hI2 hB2 hk2 hf2
          go_wp2_with fail
          go_roundw
          case rel => exact ⟨t + 1, by omega, by go_num, HE.out⟩
          case measure => simp [intOf]; omega
        · have HH2 := Lib.hid hH2
          have HI2 := Lib.hid hI2
          have HB2 := Lib.hid hB2
          have HU2 := Lib.hid (used_push HU.out (by omega) hi' hnot)
          rw [← e2] at HU2
          have HX := Lib.hid e2
          clear hH2 hI2 hB2 hk2 e1 e2 hnot
          go_wp2_with (at_mapUpdate; refine wpList_imap_store _ rfl (.tmp 49) (.tmp 51) (.tmp 53) 32 rfl Try.underlying32 w1.heap.size m u rfl HI2.out hmt' o.num ((t : Int) + 1) rfl rfl HWN.out HWT.out ?_)
          intro w3 hI3 hg3
          have HE : Hid (DrS w k w1.heap.size (t + 1) w3) := Lib.hid (drs_store HLT.out hmap1 HH2.out hI3 hg3 hmt HU2.out HB2.out)
          clear hI3 hg3
          go_wp2_with fail
          go_roundw
          case rel => exact ⟨t + 1, by omega, by go_num, HE.out⟩
          case measure => simp [intOf]; omega
      · rw [kc]
        clear kc
        go_wp2_with fail
        refine (touch_step k wz ls HH1.out o.num).mono ?_
        rintro e w2 ⟨c2, ls2, hS, rfl, hH2, hk2⟩
        have hI2 := HI1.out.keep hk2 HMO.out
        have hB2 := Keeps.thenB HB1.out hk2 HO.out HB1.out.size
        have hf2 : w2.cell? ⟨wr.heap.size, 2, none⟩ = some (.int .i64 o.num) := by rw [hk2.cell FB.out HOO.out]; exact f2
        rcases hS with ⟨_, rfl, rfl⟩ | ⟨_, _, _, _, rfl, rfl⟩ | ⟨x', j, xs, ys, e2, hj, hlj, rfl, rfl⟩
        · have HE : Hid (DrS w k w1.heap.size (t + 1) w2) := Lib.hid ⟨ls2, u, m, hH2, hI2, by omega, HU.out.later, hB2⟩
          clear hH2 hI2 hB2 hk2 hf2
          go_wp2_with fail
          go_roundw
          case rel => exact ⟨t + 1, by omega, by go_num, HE.out⟩
          case measure => simp [intOf]; omega
        · have HE : Hid (DrS w k w1.heap.size (t + 1) w2) := Lib.hid ⟨ls2, u, m, hH2, hI2, by omega, HU.out.later, hB2⟩
          clear hH2 hI2 hB2 hk2 hf2
          go_wp2_with fail
          go_roundw
          case rel => exact ⟨t + 1, by omega, by go_num, HE.out⟩
          case measure => simp [intOf]; omega
        · have HH2 := Lib.hid hH2
          have HI2 := Lib.hid hI2
          have HB2 := Lib.hid hB2
          have HU2 := Lib.hid (used_touch HH1.out HU.out (by omega) hj hlj)
          rw [← e2] at HU2
          clear hH2 hI2 hB2 hk2 e2 hlj
          go_wp2_with (at_mapUpdate; refine wpList_imap_store _ rfl (.tmp 61) (.tmp 63) (.tmp 65) 32 rfl Try.underlying32 w1.heap.size m u rfl HI2.out hmt' o.num ((t : Int) + 1) rfl rfl HWN.out HWT.out ?_)
          intro w3 hI3 hg3
          have HE : Hid (DrS w k w1.heap.size (t + 1) w3) := Lib.hid (drs_store HLT.out hmap1 HH2.out hI3 hg3 hmt HU2.out HB2.out)
          clear hI3 hg3
          go_wp2_with fail
          go_roundw
          case rel => exact ⟨t + 1, by omega, by go_num, HE.out⟩
          case measure => simp [intOf]; omega
      · rw [kc]
        clear kc
        go_wp2_with fail
        refine (remove_step k wz ls HH1.out o.num).mono ?_
        rintro e w2 ⟨c2, ls2, hS, rfl, hH2, hk2⟩
        have hI2 := HI1.out.keep hk2 HMO.out
        have hB2 := Keeps.thenB HB1.out hk2 HO.out HB1.out.size
        have hU2 : Used k ls2 u ((t : Int) + 1) := by
          rcases hS with ⟨_, _, rfl⟩ | ⟨_, _, _, _, _, rfl⟩ | ⟨x', j, xs, ys, e2, hj, hlj, _, rfl⟩
          · exact HU.out.later
          · exact HU.out.later
          · exact (used_remove HU.out hj hlj).later
        have HE : Hid (DrS w k w1.heap.size (t + 1) w2) := Lib.hid ⟨ls2, u, m, hH2, hI2, by omega, hU2, hB2⟩
        clear hH2 hI2 hB2 hk2 hS hU2
        go_wp2_with fail
        go_roundw
        case rel => exact ⟨t + 1, by omega, by go_num, HE.out⟩
        case measure => simp [intOf]; omega
    · obtain rfl : t = nn := by omega
      have HH := Lib.hid hH
      have HI := Lib.hid hI
      have HU := Lib.hid hU
      have HB := Lib.hid hB
      clear hH hI hU hB
      obtain ⟨q, hq, hq3⟩ : ∃ q : Nat, (IntKind.u64.wrap li).tmod 3 = (q : Int) ∧ q < 3 := by
        refine ⟨(IntKind.u64.wrap li % 3).toNat, ?_, by omega⟩
        have : 0 ≤ IntKind.u64.wrap li := by rw [IntKind.wrap_u64]; omega
        rw [Int.tmod_eq_emod_of_nonneg this]; omega
      have hq1 : ((q : Int) + 1) % 3 = (((q + 1) % 3 : Nat) : Int) := by omega
      have hq2 : ((q : Int) + 2) % 3 = (((q + 2) % 3 : Nat) : Int) := by omega
      obtain ⟨q1, hq1d⟩ : ∃ q1, q1 = (q + 1) % 3 := ⟨_, rfl⟩
      obtain ⟨q2, hq2d⟩ : ∃ q2, q2 = (q + 2) % 3 := ⟨_, rfl⟩
      rw [← hq1d] at hq1
      rw [← hq2d] at hq2
      have hne1 : Hid (q1 ≠ q) := Lib.hid (by omega)
      have hne2 : Hid (q2 ≠ q) := Lib.hid (by omega)
      have hb1 : q1 < 3 := by omega
      have hb2 : q2 < 3 := by omega
      have HMq : Hid (q < k.n ∧ q1 < k.n ∧ q2 < k.n) := Lib.hid (by rw [HM.out]; exact ⟨hq3, hb1, hb2⟩)
      clear hq1d hq2d
      go_wp2_with fail
      refine (len_ok k wr ls HH.out q1 HMq.out.2.1).mono ?_
      rintro e w2 ⟨rfl, rfl⟩
      go_wp2_with fail
      refine (len_ok k wr ls HH.out q2 HMq.out.2.2).mono ?_
      rintro e w2 ⟨rfl, rfl⟩
      obtain ⟨n1, hn1⟩ : ∃ n1, n1 = (ls q1).length := ⟨_, rfl⟩
      obtain ⟨n2, hn2⟩ : ∃ n2, n2 = (ls q2).length := ⟨_, rfl⟩
      rw [← hn1, ← hn2]
      have HN1 := Lib.hid hn1
      have HN2 := Lib.hid hn2
      clear hn1 hn2
      go_wp2_with fail
      have Q := (Keeps.refl (fun _ => False) wr).alloc (.cells #[.int .i64 (n1 : Int), .int .i64 (n2 : Int)] 38)
      have HHo := Lib.hid (HH.out.quiet Q)
      have HIo := Lib.hid (HI.out.keep Q id)
      have HBo := Lib.hid (Keeps.thenQ HB.out Q HB.out.size)
      have HA : Hid (Blk (wr.alloc (.cells #[.int .i64 (n1 : Int), .int .i64 (n2 : Int)] 38)) wr.heap.size 38 [.int .i64 (n1 : Int), .int .i64 (n2 : Int)]) := Lib.hid (Blk.new wr 38 [.int .i64 (n1 : Int), .int .i64 (n2 : Int)])
      have HOA : Hid (¬ k.own wr.heap.size ∧ wr.heap.size ≠ k.B) := Lib.hid ⟨fun h => by have := HH.out.lt.2 _ h; omega, fun h => by have := HH.out.lt.1; omega⟩
      have hwr := HB.out.size
      clear Q
      obtain ⟨oa, hoa⟩ : ∃ oa, oa = wr.heap.size := ⟨_, rfl⟩
      rw [← hoa] at HA HOA hwr ⊢
      clear hoa
      generalize wr.alloc (.cells #[.int .i64 (n1 : Int), .int .i64 (n2 : Int)] 38) = ws at HHo HIo HBo HA ⊢
      refine (len_ok k ws ls HHo.out q HMq.out.1).mono ?_
      rintro e w2 ⟨rfl, rfl⟩
      obtain ⟨len, hlen⟩ : ∃ len, len = (ls q).length := ⟨_, rfl⟩
      rw [← hlen]
      have HLEN := Lib.hid hlen
      have hlen2 : len ≤ 65536 := by rw [hlen]; exact Nat.le_trans (HHo.out.len_le HMq.out.1) HHo.out.bounds.2.1
      clear hlen
      have hst2 : DrL w k w1.heap.size ls u m q oa n1 n2 0 0 ws := ⟨by rw [List.take_of_length_le (by rw [Nat.sub_zero]; exact Nat.le_refl _), upd_self]; exact HHo.out, HIo.out, HA.out, fun x hx => by have := ((HU.out q HMq.out.1).2 x (List.mem_of_mem_take hx)).1; omega, HBo.out⟩
      have HS2 := Lib.hid hst2
      clear hst2
      go_wp2_with fail
      go_loopw [12, 13, 14, 15, 16, 86] (fun la _ _ _ _ i wr => ∃ (r : Nat) (last : Int), r ≤ len ∧ i = .int .i64 r ∧ la = .int .i64 last ∧ DrL w k w1.heap.size ls u m q oa n1 n2 r last wr) (fun _ _ _ _ _ i _ => len - (intOf i).toNat)
      case atStart => exact ⟨0, 0, Nat.zero_le _, rfl, rfl, HS2.out⟩
      case round =>
        obtain ⟨r, last, hr, rfl, rfl, hs⟩ := hrel
        obtain ⟨hH, hI, hA, hlast, hB⟩ := hs
        by_cases hlt : r < len
        · have hpos : 0 < (ls q).length - r := by rw [← HLEN.out]; omega
          obtain ⟨xs, x, hxs⟩ : ∃ xs x, (ls q).take ((ls q).length - r) = xs ++ [x] := by
            have hne : (ls q).take ((ls q).length - r) ≠ [] := by
              intro e
              have := congrArg List.length e
              simp at this
              omega
            exact ⟨_, _, (List.dropLast_concat_getLast hne).symm⟩
          have hxs2 : xs = (ls q).take ((ls q).length - (r + 1)) := by
            have h1 := congrArg List.dropLast hxs
            rw [List.dropLast_concat, List.dropLast_eq_take, List.length_take, List.take_take] at h1
            rw [← h1]
            congr 1
            omega
          have hxin : x ∈ ls q := List.mem_of_mem_take (by rw [hxs]; simp)
          have hpw : ∀ z ∈ xs, u (x : Int) < u (z : Int) := by
            have h1 := ((HU.out q HMq.out.1).1).sublist (List.take_sublist ((ls q).length - r) (ls q))
            rw [hxs, List.pairwise_append] at h1
            exact fun z hz => h1.2.2 z hz x (by simp)
          have hxl := hlast x (by rw [hxs]; simp)
          rw [hxs] at hH
          have hwx : (Lit.int .i64 (x : Int)).wf = true := WalkArith.wf_i64 (by have := HH.out.mem_lt HMq.out.1 hxin; have := HN.out; omega)
          have hlk := fun W (h : IMap W w1.heap.size m u) => h.lookup (x : Int) hwx Try.underlying32
          have hod := Lib.hid (oldest_ok k wr _ hH q x HMq.out.1 (by rw [upd_same]; simp))
          have HHr := Lib.hid hH
          have HIr := Lib.hid hI
          have HAr := Lib.hid hA
          have HBr := Lib.hid hB
          have HX2 := Lib.hid hxs2
          have HPW := Lib.hid hpw
          have HLK := Lib.hid hlk
          clear hH hI hA hB hlast hxs hxs2 hpw hpos hwx hlk
          unfold LK.ptr at *
          go_wp2_with fail
          refine hod.out.mono ?_
          unfold two
          rintro e w2 ⟨rfl, hk2⟩
          have HH2 := Lib.hid (HHr.out.quiet hk2)
          have HI2 := Lib.hid (HIr.out.keep hk2 id)
          have HA2 := Lib.hid (hk2.blk HAr.out id)
          have HB2 := Lib.hid (Keeps.thenQ HBr.out hk2 HBr.out.size)
          clear hk2 hod
          go_wp2_with fail
          refine (where_in k w2 _ HH2.out x q HMq.out.1 (by rw [upd_same]; simp)).mono ?_
          unfold two
          rintro e w3 ⟨rfl, rfl⟩
          have hlk2 := HLK.out _ HI2.out
          have hdl : decide (u (x : Int) ≤ last) = false := by simp; exact hxl
          go_wp2_with fail
          refine (remove_ok k w2 _ HH2.out x q xs [] HMq.out.1 (by rw [upd_same])).mono ?_
          rintro e w4 ⟨rfl, hH4, hk4⟩
          rw [upd_upd, List.append_nil] at hH4
          have HH4 := Lib.hid hH4
          have HI4 := Lib.hid (HI2.out.keep hk4 HMO.out)
          have HA4 := Lib.hid (hk4.blk HA2.out HOA.out.1)
          have HB4 := Lib.hid (Keeps.thenB HB2.out hk4 HO.out HB2.out.size)
          have HNI : Hid (∀ j, j < k.n → x ∉ upd ls q xs j) := Lib.hid (by
            have h1 := not_in_upd HH2.out (x := x) (j := q) (xs := xs) (ys := []) HMq.out.1 (by rw [upd_same])
            rw [upd_upd, List.append_nil] at h1
            exact h1)
          have HXN : Hid (x < k.N) := Lib.hid (HH.out.mem_lt HMq.out.1 hxin)
          clear hlk2 hdl hk4 hH4 hxin
          go_wp2_with fail
          refine (remove_none k w4 _ HH4.out x HXN.out HNI.out).mono ?_
          rintro e w5 ⟨rfl, rfl⟩
          have hlk4 := HLK.out _ HI4.out
          go_wp2_with fail
          go_roundw
          case rel => exact ⟨r + 1, u (x : Int), by omega, by go_num, rfl, by rw [← HX2.out]; exact HH4.out, HI4.out, HA4.out, by rw [← HX2.out]; exact HPW.out, HB4.out⟩
          case measure => simp [intOf]; omega
        · obtain rfl : r = len := by omega
          have hnil : upd ls q ((ls q).take ((ls q).length - r)) q = [] := by rw [upd_same, ← HLEN.out, Nat.sub_self]; rfl
          have hl1 : upd ls q ((ls q).take ((ls q).length - r)) q1 = ls q1 := upd_ne _ _ hne1.out
          have hl2 : upd ls q ((ls q).take ((ls q).length - r)) q2 = ls q2 := upd_ne _ _ hne2.out
          have hod := Lib.hid (oldest_none k wr _ hH q HMq.out.1 hnil)
          have HHr := Lib.hid hH
          have HAr := Lib.hid hA
          have HBr := Lib.hid hB
          have HNIL := Lib.hid hnil
          have HL1 := Lib.hid hl1
          have HL2 := Lib.hid hl2
          clear hH hI hA hB hlast hnil hl1 hl2
          unfold LK.ptr at *
          go_wp2_with fail
          refine hod.out.mono ?_
          unfold two
          rintro e w2 ⟨rfl, hk2⟩
          have HH2 := Lib.hid (HHr.out.quiet hk2)
          have HA2 := Lib.hid (hk2.blk HAr.out id)
          have HB2 := Lib.hid (Keeps.thenQ HBr.out hk2 HBr.out.size)
          clear hk2 hod
          obtain ⟨lz, hlz⟩ : ∃ lz, lz = upd ls q ((ls q).take ((ls q).length - r)) := ⟨_, rfl⟩
          rw [← hlz] at HH2 HNIL HL1 HL2
          have hc0 := HA2.out.cell (i := 0) (v := .int .i64 (n1 : Int)) rfl
          have hc1 := HA2.out.cell (i := 1) (v := .int .i64 (n2 : Int)) rfl
          have hs0 : (lz q).length = 0 := by rw [HNIL.out]; rfl
          have hs1 : (lz q1).length = n1 := by rw [HL1.out, HN1.out]
          have hs2 : (lz q2).length = n2 := by rw [HL2.out, HN2.out]
          have hlen3 := fun (d : Nat) (i : Nat) (hi : i < k.n) => len_left k (w2.drewN d) lz (HH2.out.quiet ((Keeps.refl _ w2).drewN d)) i hi
          have HL3 := Lib.hid hlen3
          have HK := Lib.hid HMq.out
          clear hlz hlen3
          unfold LK.ptr at *
          go_wp2_with fail
          have hw1 : IntKind.i64.wrap ((q : Int) + 1) = (q : Int) + 1 := by rw [IntKind.wrap_i64]; omega
          have hw2 : IntKind.i64.wrap ((q : Int) + 2) = (q : Int) + 2 := by rw [IntKind.wrap_i64]; omega
          have ht1 : ((q : Int) + 1).tmod 3 = (q1 : Int) := by rw [Int.tmod_eq_emod_of_nonneg (by omega)]; exact hq1
          have ht2 : ((q : Int) + 2).tmod 3 = (q2 : Int) := by rw [Int.tmod_eq_emod_of_nonneg (by omega)]; exact hq2
          have hv1 : IntKind.i64.wrap (q1 : Int) = (q1 : Int) := by rw [IntKind.wrap_i64]; omega
          have hv2 : IntKind.i64.wrap (q2 : Int) = (q2 : Int) := by rw [IntKind.wrap_i64]; omega
          have heq := fun W => eq38 (n1 : Int) (n2 : Int) W
          go_quiet ((go_at_call 12; refine Calls.quiet_of_same (HL3.out _ _ ?_); first | exact HK.out.1 | exact HK.out.2.1 | exact HK.out.2.2))
          go_wp2_with fail
          go_ret
          exact ⟨rfl, below_drawn HB2.out⟩
end Go.Proofs.Ythnagihgjenimaa
