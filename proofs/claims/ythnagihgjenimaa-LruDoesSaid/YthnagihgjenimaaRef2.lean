/- icehouseref12: the lists without a number; with a number ahead. -/
import Derived.Test.YthnagihgjenimaaRef
namespace Go.Proofs.Ythnagihgjenimaa
open Go.RowKit
set_option linter.unusedVariables false

theorem info43 : (Try.prog.info? 43).map (fun i => (i.zero, i.size, i.bytes)) = some (some (.slice none 0 0), 1, 24) := by kernel_rfl

/-- The lists without a number. -/
def wo (ls : Nat → List Nat) (x : Nat) (i : Nat) : List Nat := (ls i).filter fun z => z != x

theorem own_base {w : World} {base base' size : Nat} {e : TypeId} {v : Value} {n : Nat} {xs : List Value} (h : w.ownsRow base' e size v n xs) (hb : base ≤ base') : w.ownsRow base e size v n xs := by
  obtain ⟨h1, h2⟩ := h
  refine ⟨h1, ?_⟩
  rcases h2 with h2 | ⟨g, cap, cur, e1, h2, r⟩
  · exact .inl h2
  · exact .inr ⟨g, cap, cur, e1, Nat.le_trans hb h2, r⟩

theorem RefAt.base {w : World} {base base' : Nat} {v : Value} {N n : Nat} {ls : Nat → List Nat} (h : RefAt base' w v N n ls) (hb : base ≤ base') : RefAt base w v N n ls := by
  obtain ⟨ov, rvs, e, ho, hr⟩ := h
  refine ⟨ov, rvs, e, own_base ho hb, fun i hi => ?_⟩
  obtain ⟨rv, h1, h2⟩ := hr i hi
  exact ⟨rv, h1, own_base h2 hb⟩

theorem own_below {w w' : World} {B base size : Nat} {e : TypeId} {v : Value} {n : Nat} {xs : List Value} (h : w.ownsRow base e size v n xs) (hb : Below B w w') (hB : w.heap.size ≤ B) : w'.ownsRow base e size v n xs :=
  (Keeps.of_below hb).own h fun g hg => by
    obtain ⟨_, h2, _⟩ := own_heap h hg
    show ¬ B ≤ g
    omega

theorem own_grown {w w' : World} {row : Option Nat} {base size : Nat} {e : TypeId} {v : Value} {n : Nat} {xs : List Value} (h : w.ownsRow base e size v n xs) (hg : w.grownBy w' row) (hne : ∀ g, row = some g → v.ownBlock ≠ some g) : w'.ownsRow base e size v n xs :=
  (Keeps.of_grown hg).own h fun g hg' => fun e' => hne g e' hg'

theorem own_type {w : World} {base base' size size' : Nat} {e e' : TypeId} {v v' : Value} {n n' : Nat} {xs xs' : List Value} (h : w.ownsRow base e size v n xs) (h' : w.ownsRow base' e' size' v' n' xs') (hne : e ≠ e') : ∀ g, v'.ownBlock = some g → v.ownBlock ≠ some g := by
  intro g hg hg'
  obtain ⟨_, _, c, hc⟩ := own_heap h hg'
  obtain ⟨_, _, c', hc'⟩ := own_heap h' hg
  rw [hc] at hc'
  injection hc' with hc'
  injection hc' with _ ht
  exact hne ht

theorem grown_below {w w' : World} {row : Option Nat} {B : Nat} (hg : w.grownBy w' row) (hr : ∀ g, row = some g → B ≤ g) (hB : B ≤ w.heap.size) : Below B w w' := (Keeps.of_grown hg).below hr hB

/-- Behind t lists. -/
structure Wo (W0 wr : World) (ls : Nat → List Nat) (x t : Nat) (o : Value) : Prop where
  rows : ∃ rvs, wr.ownsRow W0.heap.size 43 1 o t rvs ∧ ∀ i, i < t → ∃ rv, rvs[i]? = some rv ∧ wr.ownsRow W0.heap.size 3 1 rv (wo ls x i).length (nats (wo ls x i))
  below : Below W0.heap.size W0 wr

theorem wo_next {W0 wr ws w3 : World} {ls : Nat → List Nat} {x t : Nat} {o y o' : Value} {rvs : List Value} {ob : Obj} (hW : Wo W0 wr ls x t o) (hrv : wr.ownsRow W0.heap.size 43 1 o t rvs)
    (hrr : ∀ i, i < t → ∃ rv, rvs[i]? = some rv ∧ wr.ownsRow W0.heap.size 3 1 rv (wo ls x i).length (nats (wo ls x i)))
    (hy : ws.ownsRow wr.heap.size 3 1 y (wo ls x t).length (nats (wo ls x t))) (hb : Below wr.heap.size wr ws)
    (ho : w3.ownsRow W0.heap.size 43 1 o' (t + 1) (rvs ++ [y])) (hg : (ws.alloc ob).grownBy w3 o.ownBlock) : Wo W0 w3 ls x (t + 1) o' := by
  have hsz := hW.below.size
  have hrv2 := own_below hrv hb (Nat.le_refl _)
  have ha : ∀ {e : TypeId} {v : Value} {n : Nat} {xs : List Value} {base : Nat}, ws.ownsRow base e 1 v n xs → (ws.alloc ob).ownsRow base e 1 v n xs := fun h => h.alloc _
  refine ⟨⟨_, ho, fun i hi => ?_⟩, ?_⟩
  · have hlen : rvs.length = t := by have := hrv.1; simpa using this
    by_cases e : i = t
    · subst e
      refine ⟨y, by simp [← hlen], ?_⟩
      exact own_base (own_grown (ha hy) hg (own_type (ha hy) (ha hrv2) (by decide))) hsz
    · obtain ⟨rv, h1, h2⟩ := hrr i (by omega)
      refine ⟨rv, by rw [List.getElem?_append_left (by omega)]; exact h1, ?_⟩
      have h2' := own_below h2 hb (Nat.le_refl _)
      exact own_grown (ha h2') hg (own_type (ha h2') (ha hrv2) (by decide))
  · have h1 := hW.below.trans (hb.mono hsz)
    have h2 := h1.alloc (Nat.le_trans hsz hb.size) ob
    refine h2.trans (grown_below hg (fun g hgg => (own_heap hrv hgg).1) ?_)
    have := hb.size
    simp
    omega

theorem nats_snoc (l : List Nat) (x : Nat) : nats (l ++ [x]) = nats l ++ [.int .i64 (x : Int)] := by simp [nats]

theorem filter_take_succ {l : List Nat} {q x : Nat} (hq : q < l.length) : (l.take (q + 1)).filter (fun z => z != x) = (l.take q).filter (fun z => z != x) ++ (if l.getD q 0 = x then [] else [l.getD q 0]) := by
  rw [List.take_succ_eq_append_getElem hq, List.filter_append]
  have e : l.getD q 0 = l[q] := by rw [List.getD_eq_getElem?_getD, List.getElem?_eq_getElem hq]; rfl
  rw [e]
  by_cases h : l[q] = x <;> simp [h]

set_option maxRecDepth 100000 in
set_option maxHeartbeats 2000000 in
theorem without_any (base : Nat) (w : World) (v : Value) (N n : Nat) (ls : Nat → List Nat) (h : RefAt base w v N n ls) (hn : 1 ≤ n) (hn2 : n ≤ 64) (hls : ∀ i, i < n → (ls i).length ≤ 65536) (hbase : base ≤ w.heap.size) (x : Nat) :
    Calls Try.prog 37 #[v, .int .i64 x] w fun e w' => ∃ v', e = .returned v' ∧ RefAt w.heap.size w' v' N n (wo ls x) ∧ Keeps (fun _ => False) w w' := by
  obtain ⟨g, cap, rfl, hcap, hmx, hg, hrow⟩ := h.form hn
  unfold maxLen at hmx
  have HROW := Lib.hid hrow
  have HLS := Lib.hid hls
  obtain ⟨i0, hi1, hz0, hz1, hz2⟩ := info_parts info3
  obtain ⟨j0, hj1, hy0, hy1, hy2⟩ := info_parts info43
  clear hrow h hls
  obtain ⟨W0, hW0⟩ : ∃ W0, W0 = (w.alloc (.cells #[.int .i64 (N : Int), .slice (some ⟨g, 0, none⟩) n cap] 50)).alloc (.cells #[.int .i64 0, .slice none 0 0] 50) := ⟨_, rfl⟩
  have hs0 : W0.heap.size = w.heap.size + 2 := by subst hW0; simp
  have hk0 : Keeps (fun _ => False) w W0 := by subst hW0; exact ((Keeps.refl _ w).alloc _).alloc _
  have b1 : Blk W0 w.heap.size 50 [.int .i64 (N : Int), .slice (some ⟨g, 0, none⟩) n cap] := by subst hW0; exact (Blk.new w 50 [.int .i64 (N : Int), .slice (some ⟨g, 0, none⟩) n cap]).alloc _
  have b2 : Blk W0 (w.heap.size + 1) 50 [.int .i64 0, .slice none 0 0] := by
    subst hW0
    have := Blk.new (w.alloc (.cells #[.int .i64 (N : Int), .slice (some ⟨g, 0, none⟩) n cap] 50)) 50 [.int .i64 0, .slice none 0 0]
    rwa [World.size_alloc] at this
  have HK0 := Lib.hid hk0
  have HB1 := Lib.hid b1
  have HB2 := Lib.hid b2
  have HS0 := Lib.hid hs0
  clear hk0 b1 b2
  have HWO : Hid (Wo W0 W0 ls x 0 (.slice none 0 0)) := Lib.hid ⟨⟨[], World.ownsRow_nil _ _ _ _, fun i hi => absurd hi (by omega)⟩, Below.refl _ _⟩
  have hsl : w.heap.size + 2 ≤ W0.heap.size := by omega
  clear hs0
  go_enter Try.func37, Try.ntmps37
  go_wp2
  rw [← hW0]
  clear hW0
  have c1 := HB1.out.cell (i := 1) rfl
  go_wp2
  go_loopw [5, 14] (fun o i wr => ∃ t : Nat, t ≤ n ∧ i = .int .i64 t ∧ Wo W0 wr ls x t o) (fun _ i _ => n - (intOf i).toNat)
  case atStart => exact ⟨0, Nat.zero_le _, rfl, HWO.out⟩
  case round =>
    obtain ⟨t, ht, rfl, hwo⟩ := hrel
    obtain ⟨wo1, rfl⟩ : ∃ wo1 : World, wo1 = wr := ⟨_, rfl⟩
    have hbel := hwo.below
    have hbsz := hbel.size
    obtain ⟨rvs, hrvs, hrr⟩ := hwo.rows
    have HW := Lib.hid hwo
    have HRR := Lib.hid hrr
    have HBEL := Lib.hid hbel
    clear hwo hrr hbel
    by_cases hlt : t < n
    · obtain ⟨rv, hc, hr⟩ := HROW.out t hlt
      obtain ⟨a, cp, rfl, hcp, hcell⟩ := own_nats hr
      have hll := HLS.out t hlt
      have hc' : wo1.cell? ⟨g, t, none⟩ = some (.slice a (ls t).length cp) := (HBEL.out.cell (p := ⟨g, t, none⟩) (by show g < _; omega)).trans ((HK0.out.cell (p := ⟨g, t, none⟩) hg id).trans hc)
      obtain ⟨l, hl⟩ : ∃ l, l = ls t := ⟨_, rfl⟩
      rw [← hl] at hc' hcell hcp hll
      have HL := Lib.hid hl
      have HC := Lib.hid hcell
      clear hl hr hcell hc
      have hnil : Hid (wo1.ownsRow wo1.heap.size 3 1 (.slice none 0 0) 0 []) := Lib.hid (World.ownsRow_nil _ _ _ _)
      go_wp2_with fail
      go_loopw [8, 20] (fun y j wr => ∃ q : Nat, q ≤ l.length ∧ j = .int .i64 q ∧ wr.ownsRow wo1.heap.size 3 1 y ((l.take q).filter fun z => z != x).length (nats ((l.take q).filter fun z => z != x)) ∧ Below wo1.heap.size wo1 wr) (fun _ j _ => l.length - (intOf j).toNat)
      case atStart => exact ⟨0, Nat.zero_le _, rfl, by simpa [nats] using hnil.out, Below.refl _ _⟩
      case round =>
        obtain ⟨q, hq, rfl, hown, hbw⟩ := hrel
        have hbwz := hbw.size
        by_cases hql : q < l.length
        · obtain ⟨g2, rfl, _, hg2, hc2⟩ := HC.out q hql
          have hc3 := (hbw.cell (p := ⟨g2, q, none⟩) (by show g2 < _; omega)).trans ((HBEL.out.cell (p := ⟨g2, q, none⟩) (by show g2 < _; omega)).trans ((HK0.out.cell (p := ⟨g2, q, none⟩) hg2 id).trans hc2))
          have hfs := filter_take_succ (l := l) (x := x) hql
          have hfl := List.length_filter_le (fun z => z != x) (l.take q)
          rw [List.length_take] at hfl
          obtain ⟨z, hz⟩ : ∃ z, z = l.getD q 0 := ⟨_, rfl⟩
          rw [← hz] at hc3 hfs
          obtain ⟨F, hF⟩ : ∃ F, F = (l.take q).filter fun z => z != x := ⟨_, rfl⟩
          rw [← hF] at hfs hfl hown
          have HFS := Lib.hid hfs
          have HBW := Lib.hid hbw
          have HOWN := Lib.hid hown
          clear hz hfs hbw hown hF hc2 hc'
          by_cases hzx : z = x
          · have HE : Hid (((l.take (q + 1)).filter fun z => z != x) = F) := Lib.hid (by rw [HFS.out, if_pos hzx, List.append_nil])
            have hb : ((z : Int) != (x : Int)) = false := by simp [hzx]
            go_wp2_with fail
            go_roundw
            case rel => exact ⟨q + 1, by omega, by go_num, by rw [HE.out]; exact HOWN.out, HBW.out⟩
            case measure => simp [intOf]; omega
          · have HE : Hid (((l.take (q + 1)).filter fun z => z != x) = F ++ [z]) := Lib.hid (by rw [HFS.out, if_neg hzx])
            have hb : ((z : Int) != (x : Int)) = true := by rw [bne_iff_ne]; omega
            go_wp2_with (at_builtin; refine wpList_append_own _ rfl _ _ 43 rfl wo1.heap.size 3 i0 (.int .i64 0) 1 8 Try.underlying43 hi1 hz0 hz1 hz2 rfl (by decide) _ _ _ rfl (HOWN.out.alloc _) ⟨wr.heap.size, 0, none⟩ 1 1 [.int .i64 (z : Int)] rfl rfl (cell_one_new _ _ _) (by simp [Value.oneCell']) (by unfold maxLen; omega) (by omega) (by simp; omega) ?_)
            intro v' w3 hown' hgrow _
            have HO3 := Lib.hid hown'
            have HB3 : Hid (Below wo1.heap.size wo1 w3) := Lib.hid ((HBW.out.alloc hbwz _).trans (grown_below hgrow (fun g hgg => (own_heap HOWN.out hgg).1) (by simp; omega)))
            clear hown' hgrow
            go_wp2_with fail
            go_roundw
            case rel => exact ⟨q + 1, by omega, by go_num, by rw [HE.out, nats_snoc, List.length_append]; exact HO3.out, HB3.out⟩
            case measure => simp [intOf]; omega
        · obtain rfl : q = l.length := by omega
          have hwot : Hid (wo ls x t = (l.take l.length).filter fun z => z != x) := Lib.hid (by unfold wo; rw [← HL.out, List.take_length])
          obtain ⟨F, hF⟩ : ∃ F, F = (l.take l.length).filter fun z => z != x := ⟨_, rfl⟩
          rw [← hF] at hwot hown
          have HBW := Lib.hid hbw
          have HOWN := Lib.hid hown
          have HRV := Lib.hid (own_below hrvs hbw (Nat.le_refl _))
          have HRV0 := Lib.hid hrvs
          clear hbw hown hF hrvs
          obtain ⟨_, ya, ycap, rfl, _⟩ := own_read HOWN.out
          go_wp2_with (at_builtin; refine wpList_append_own _ rfl _ _ 48 rfl W0.heap.size 43 j0 (.slice none 0 0) 1 24 Try.underlying48 hj1 hy0 hy1 hy2 rfl (by decide) _ _ _ rfl (HRV.out.alloc _) ⟨wr.heap.size, 0, none⟩ 1 1 [.slice ya F.length ycap] rfl rfl (cell_one_new _ _ _) (by simp [Value.oneCell']) (by unfold maxLen; omega) (by omega) (by simp; omega) ?_)
          intro o' w4 hown' hgrow _
          have HW4 := Lib.hid (wo_next HW.out HRV0.out HRR.out (by rw [hwot.out]; exact HOWN.out) HBW.out hown' hgrow)
          clear hown' hgrow
          go_wp2_with fail
          go_roundw
          case rel => exact ⟨t + 1, by omega, by go_num, HW4.out⟩
          case measure => simp [intOf]; omega
    · obtain rfl : t = n := by omega
      have q0 := (HBEL.out.cell (p := ⟨w.heap.size, 0, none⟩) (by show w.heap.size < _; omega)).trans (HB1.out.cell (i := 0) rfl)
      have q1 := (HBEL.out.cell (p := ⟨w.heap.size, 1, none⟩) (by show w.heap.size < _; omega)).trans (HB1.out.cell (i := 1) rfl)
      have q2 := (HBEL.out.frozen (p := ⟨w.heap.size, 1, none⟩) (by show w.heap.size < _; omega)).trans (HB1.out.free 1)
      have r0 := (HBEL.out.cell (p := ⟨w.heap.size + 1, 0, none⟩) (by show w.heap.size + 1 < _; omega)).trans (HB2.out.cell (i := 0) rfl)
      have r1 := (HBEL.out.cell (p := ⟨w.heap.size + 1, 1, none⟩) (by show w.heap.size + 1 < _; omega)).trans (HB2.out.cell (i := 1) rfl)
      have r2 := (HBEL.out.frozen (p := ⟨w.heap.size + 1, 0, none⟩) (by show w.heap.size + 1 < _; omega)).trans (HB2.out.free 0)
      have r3 := (HBEL.out.frozen (p := ⟨w.heap.size + 1, 1, none⟩) (by show w.heap.size + 1 < _; omega)).trans (HB2.out.free 1)
      obtain ⟨_, oa, ocap, rfl, _⟩ := own_read hrvs
      have HRV := Lib.hid hrvs
      clear hrvs
      have hbk : Blk wo1 (w.heap.size + 1) 50 [.int .i64 0, .slice none 0 0] := HB2.out.kept (HBEL.out.block _ (by omega))
      have hbk2 := (hbk.other (p := ⟨w.heap.size, 1, none⟩) (by simp) (.slice oa t ocap)).store 0 (.int .i64 (N : Int))
      have e0 := hbk2.cell (i := 0) rfl
      have e1 := (hbk2.store 1 (.slice oa t ocap)).cell (i := 1) rfl
      have E0 := Lib.hid e0
      have E1 := Lib.hid e1
      clear hbk hbk2 e0 e1
      go_wp2_with fail
      refine bodyPost_ret (v := .agg #[.int .i64 (N : Int), .slice oa t ocap]) (by simp [results, Try.f37, go_sem, E0.out, E1.out]) rfl ⟨_, rfl, ?_, ?_⟩
      · have hkS : Keeps (fun k => k = w.heap.size ∨ k = w.heap.size + 1) wo1 (((wo1.setCell ⟨w.heap.size, 1, none⟩ (.slice oa t ocap)).setCell ⟨w.heap.size + 1, 0, none⟩ (.int .i64 (N : Int))).setCell ⟨w.heap.size + 1, 1, none⟩ (.slice oa t ocap)) :=
          (((Keeps.refl _ wo1).store (p := ⟨w.heap.size, 1, none⟩) (.inl (.inl rfl)) _).store (p := ⟨w.heap.size + 1, 0, none⟩) (.inl (.inr rfl)) _).store (p := ⟨w.heap.size + 1, 1, none⟩) (.inl (.inr rfl)) _
        have hS : ∀ {e : TypeId} {v : Value} {n : Nat} {xs : List Value}, wo1.ownsRow W0.heap.size e 1 v n xs → ∀ g, v.ownBlock = some g → ¬ (g = w.heap.size ∨ g = w.heap.size + 1) := fun h g hg => by
          have := (own_heap h hg).1
          omega
        refine ⟨_, rvs, rfl, own_base (hkS.own HRV.out (hS HRV.out)) (by omega), fun i hi => ?_⟩
        obtain ⟨rv, h1, h2⟩ := HRR.out i hi
        exact ⟨rv, h1, own_base (hkS.own h2 (hS h2)) (by omega)⟩
      · have hkS : Keeps (fun k => w.heap.size ≤ k) wo1 (((wo1.setCell ⟨w.heap.size, 1, none⟩ (.slice oa t ocap)).setCell ⟨w.heap.size + 1, 0, none⟩ (.int .i64 (N : Int))).setCell ⟨w.heap.size + 1, 1, none⟩ (.slice oa t ocap)) :=
          (((Keeps.refl _ wo1).store (p := ⟨w.heap.size, 1, none⟩) (.inl (Nat.le_refl _)) _).store (p := ⟨w.heap.size + 1, 0, none⟩) (.inl (Nat.le_succ _)) _).store (p := ⟨w.heap.size + 1, 1, none⟩) (.inl (Nat.le_succ _)) _
        have h1 : Keeps (fun k => w.heap.size ≤ k) w W0 := HK0.out.mono fun _ _ h => h.elim
        have h2 : Keeps (fun k => w.heap.size ≤ k) W0 wo1 := (Keeps.of_below HBEL.out).mono fun k _ h => by
          have h' : W0.heap.size ≤ k := h
          show w.heap.size ≤ k
          omega
        exact ((h1.trans h2).trans hkS).mono fun k hk h => absurd h (Nat.not_le.2 hk)
end Go.Proofs.Ythnagihgjenimaa
