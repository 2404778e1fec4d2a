/- DiskFails, walked. -/
import Derived.Test.YtjiammhmeliogaaTwo
namespace Go.Proofs.Ytjiammhmeliogaa
open Go.RowKit
set_option linter.unusedVariables false
set_option linter.unusedSimpArgs false
attribute [local go_sem ↓] exec_load27 exec_new27 exec_alloc27 exec_build27 zeroValue27
attribute [local go_sem] padr_some rowAt_drew hasRow_drew mayRow_drew run_cells27 eq27_self

/-- What the failure's count is when q ops were asked. -/
def failAt (n q : Nat) : Int := if q ≤ n then (n : Int) + 1 - q else 0

theorem fresh_fail {y : Nat} (hy : y < 40) : (DD.fresh 6).fail (y : Int) = (0, (DD.fresh 6).failing (failAt y 0)) := by
  unfold DD.fail DD.failing failAt
  have h1 : (0 : Int) ≤ (y : Int) ∧ (y : Int) < 4611686018427387904 := by omega
  simp only [DD.fresh, h1, and_self, if_true, Bool.false_eq_true, if_false, Nat.zero_le]
  simp
theorem failing_fail {t : Nat} {D : DD} (h : Calm t D) (k : Int) : (D.failing k).fail (-1) = (0, D) := by
  unfold DD.fail DD.failing
  simp only [h.dead, Bool.false_eq_true, if_false]
  rw [if_neg (by omega)]
  have h1 := h.fails
  have h3 := h.dead
  cases D
  simp only at h1 h3
  subst h1 h3
  rfl

theorem failAt_does {t : Nat} {D : DD} (h : Calm t D) {y s : Nat} (hs : s ≠ y) {o : OpT} (ho : asks o) : (D.failing (failAt y s)).does o = ((D.does o).1, (D.does o).2.1, (D.does o).2.2.failing (failAt y (s + 1))) := by
  have hc := calm_does h o ho.1
  by_cases hlt : s < y
  · have e1 : failAt y s = (y : Int) + 1 - s := if_pos (by omega)
    have e2 : failAt y (s + 1) = (y : Int) + 1 - s - 1 := by
      unfold failAt
      rw [if_pos (by omega)]
      omega
    rw [e1, e2]
    exact failing_does h (by omega) ho
  · have e1 : failAt y s = 0 := if_neg (by omega)
    have e2 : failAt y (s + 1) = 0 := if_neg (by omega)
    rw [e1, e2, failing_zero h, failing_zero hc]
theorem failAt_now (y : Nat) : failAt y y = 1 := by
  unfold failAt
  rw [if_pos (Nat.le_refl _)]
  omega
theorem failAt_next (y : Nat) : failAt y (y + 1) = 0 := if_neg (by omega)
theorem failing_ok {t : Nat} {D : DD} (h : Calm t D) (k : Int) : (D.failing k).ok := by
  intro h'
  have h2 := h.armed
  have h3 : (D.failing k).armed = D.armed := rfl
  rw [h3, h2] at h'
  cases h'

set_option maxRecDepth 100000 in
set_option maxHeartbeats 4000000 in
theorem fails_law (a : Option Addr) (n c : Nat) (os : List OpT) (x : Int) (w : World) (hr : OpRow w.heap.size w a n os) (hn : n ≤ c) (hc : c ≤ maxLen) (hx : 0 ≤ x) : Calls Try.prog 6 #[.slice a n c, .int .i64 x] w fun e w' => e = .returned (.bool true) ∧ Keeps (fun _ => False) w w' := by
  have HR := Lib.hid hr
  have HF := Lib.hid (fun w => few_any a n c w hn hc)
  have hlen := hr.1
  have HWO := Lib.hid (fun w => worn_any none 0 0 [] w (OpRow.nil _ _) (Nat.le_refl _) (by unfold maxLen; omega))
  obtain ⟨y, hy, hy40⟩ : ∃ y : Nat, x % 40 = (y : Int) ∧ y < 40 := ⟨(x % 40).toNat, by omega, by omega⟩
  clear hr hn hc
  go_enter Try.func6, Try.ntmps6
  go_wp2_with fail
  refine (wakes_any w).mono ?_
  rintro e w1 ⟨rfl, hk1⟩
  have HK1 := Lib.hid hk1
  clear hk1
  go_wp2_with fail
  refine (HWO.out w1).mono ?_
  rintro e w2 ⟨La, rfl, hda, hoa, hka⟩
  have HPA := Lib.hid (show La.ptr = .pointer (some ⟨La.B, 0, none⟩) from rfl)
  obtain ⟨A, hA⟩ : ∃ A, A = La.B := ⟨_, rfl⟩
  rw [HPA.out, ← hA]
  have HDA := Lib.hid hda
  have HOA := Lib.hid hoa
  have HKA := Lib.hid hka
  rw [← hA] at HPA
  clear hda hoa hka hA
  go_wp2_with fail
  refine (HWO.out w2).mono ?_
  rintro e w3 ⟨Lb, rfl, hdb, hob, hkb⟩
  have HPB := Lib.hid (show Lb.ptr = .pointer (some ⟨Lb.B, 0, none⟩) from rfl)
  obtain ⟨B, hB⟩ : ∃ B, B = Lb.B := ⟨_, rfl⟩
  rw [HPB.out, ← hB]
  rw [← hB] at HPB
  have htwo := two_start HDA.out HOA.out HKA.out hdb hob hkb
  have hfa := fail_any La (DD.fresh 6) w3 htwo.a (y : Int)
  rw [fresh_fail hy40, HPA.out] at hfa
  have HFA := Lib.hid hfa
  have HTW := Lib.hid htwo
  clear hdb hob hkb hB htwo hfa
  go_wp2_with fail
  refine HFA.out.mono ?_
  rintro e w4 ⟨rfl, hd4, hk4⟩
  have HT4 := Lib.hid (HTW.out.step hd4 hk4)
  clear hd4 hk4
  go_wp2_with fail
  refine (HF.out _).mono ?_
  rintro e w5 ⟨rfl, rfl⟩
  obtain ⟨m, hm⟩ : ∃ m, m = min n 120 := ⟨_, rfl⟩
  rw [← hm]
  have hml : m ≤ n := by omega
  have hm120 : m ≤ 120 := by omega
  clear hm
  go_wp2_with fail
  go_loopw [7, 39] (fun q i wr => ∃ t : Nat, t ≤ m ∧ i = .int .i64 t ∧ ∃ s : Nat, s ≤ t ∧ q = .int .i64 s ∧ ∃ (La Lb : DL) (D : DD), La.ptr = .pointer (some ⟨A, 0, none⟩) ∧ Lb.ptr = .pointer (some ⟨B, 0, none⟩) ∧ Two w1 wr La (D.failing (failAt y s)) Lb D ∧ Calm t D) (fun _ i _ => m - (intOf i).toNat)
  case atStart => exact ⟨0, Nat.zero_le _, rfl, 0, Nat.zero_le _, rfl, La, Lb, DD.fresh 6, HPA.out, HPB.out, HT4.out, fresh_calm⟩
  case round =>
    obtain ⟨t, ht, rfl, s, hst, rfl, La', Lb', D, hpa, hpb, htw, hca⟩ := hrel
    have HPA' := Lib.hid hpa
    have HPB' := Lib.hid hpb
    have HT := Lib.hid htw
    have HC := Lib.hid hca
    by_cases hlt : t < m
    · obtain ⟨o, ho⟩ : ∃ o, os[t]? = some o := ⟨_, List.getElem?_eq_getElem (by omega)⟩
      obtain ⟨b, off, rfl, hbb, hrow⟩ := HR.out.2 t o ho
      have hkw : Keeps (fun _ => False) w wr := HK1.out.trans htw.k
      have hrow' : wr.rangeAt b (off + t * 4) (opc o) := fun j v hv => (hkw.cell (p := ⟨b, off + t * 4 + j, none⟩) hbb id).trans (hrow j v hv)
      have g0 := hrow' 0 _ rfl
      have g1 := hrow' 1 _ rfl
      have g2 := hrow' 2 _ rfl
      have g3 := hrow' 3 _ rfl
      rw [Nat.add_zero] at g0
      have hlt' : (t : Int) < (m : Int) := by omega
      have hwr := htw.k.size
      clear hpa hpb htw hca hkw hrow hrow' ho
      go_wp2_with fail
      refine (kind_any o.k o.a o.f (.slice o.va o.vn o.vc) _).mono ?_
      rintro e w6 ⟨rfl, hw6⟩
      have hq : Keeps (fun _ => False) wr w6 := by rw [hw6]; exact ((Keeps.refl _ _).alloc _).alloc _
      have hob : Blk w6 wr.heap.size 32 [.int .i64 o.k, .int .i64 o.a, .int .u8 o.f, .slice o.va o.vn o.vc] := by rw [hw6]; exact (Blk.new wr 32 _).alloc _
      have u0 := hob.cell (i := 0) rfl
      have u1 := hob.cell (i := 1) rfl
      have u2 := hob.cell (i := 2) rfl
      have u3 := hob.cell (i := 3) rfl
      have HQ := Lib.hid hq
      have HOB := Lib.hid hob
      clear hq hob hw6
      by_cases h3 : 2 < opk o.k
      · go_wp2_with fail
        go_roundw
        case rel => exact ⟨t + 1, by omega, by go_num, s, by omega, rfl, La', Lb', D, HPA'.out, HPB'.out, HT.out.quiet HQ.out, HC.out.more⟩
        case measure => simp [intOf]; omega
      · go_wp2_with fail
        refine (kind_any o.k o.a o.f (.slice o.va o.vn o.vc) _).mono ?_
        rintro e w7 ⟨rfl, hw7⟩
        have hq7 : Keeps (fun _ => False) wr w7 := by rw [hw7]; exact HQ.out.alloc _
        have hob7 : Blk w7 wr.heap.size 32 [.int .i64 o.k, .int .i64 o.a, .int .u8 o.f, .slice o.va o.vn o.vc] := by rw [hw7]; exact HOB.out.alloc _
        have HQ7 := Lib.hid hq7
        have HO7 := Lib.hid hob7
        have v0 := hob7.cell (i := 0) rfl
        have v1 := hob7.cell (i := 1) rfl
        have v2 := hob7.cell (i := 2) rfl
        have v3 := hob7.cell (i := 3) rfl
        clear hq7 hob7 hw7 u0 u1 u2 u3
        have hcase : (opk o.k < 2 ∧ o.a < 0) ∨ (opk o.k < 2 ∧ ¬ o.a < 0 ∧ 6 ≤ o.a) ∨ (asks o ∧ ((opk o.k < 2 ∧ ¬ o.a < 0 ∧ ¬ 6 ≤ o.a) ∨ ¬ opk o.k < 2)) := by
          unfold asks
          omega
        rcases hcase with ⟨k1, k2⟩ | ⟨k1, k2, k3⟩ | ⟨has, hin⟩
        · go_wp2_with fail
          go_roundw
          case rel => exact ⟨t + 1, by omega, by go_num, s, by omega, rfl, La', Lb', D, HPA'.out, HPB'.out, HT.out.quiet HQ7.out, HC.out.more⟩
          case measure => simp [intOf]; omega
        · go_wp2_with fail
          go_roundw
          case rel => exact ⟨t + 1, by omega, by go_num, s, by omega, rfl, La', Lb', D, HPA'.out, HPB'.out, HT.out.quiet HQ7.out, HC.out.more⟩
          case measure => simp [intOf]; omega
        · have HAS := Lib.hid has
          have HT7 := Lib.hid (HT.out.quiet HQ7.out)
          have h5 := HC.out.ops
          have h6 := HC.out.p
          have hok := failing_ok HC.out (failAt y s)
          clear has
          by_cases hs : s = y
          · subst hs
            rw [failAt_now] at HT7 hok
            have hop := ops_any La' _ w7 HT7.out.a
            have hds := HT7.out.does hok (by show D.ops < _; omega) (by show D.p.length < _; omega) o HAS.out.1 HPA'.out
            rw [failing_does1 HC.out HAS.out] at hds
            rw [HPA'.out, show (D.failing 1).ops = D.ops from rfl] at hop
            have HOP := Lib.hid hop
            have HDS := Lib.hid hds
            clear hop hds hok
            rcases hin with ⟨k1, k2, k3⟩ | k1
            all_goals
              go_wp2_with fail
              refine HOP.out.mono ?_
              rintro e w8 ⟨rfl, rfl⟩
              go_wp2_with fail
              refine HDS.out.mono ?_
              rintro e w9 ⟨rfl, La2, e1, htw2, hkx⟩
              have hzl : (bk zb).length = 64 := by rw [bk_len, zb_len]
              have hzl2 := zb_len
              have hone : oneAll (bk zb).toArray = true := all_oneCell_toArray bk_one
              obtain ⟨q1, q2⟩ := held_new (W := w9) hzl
              have htw3 := htw2.quiet ((Keeps.refl _ w9).alloc (.cells (bk zb).toArray 27))
              have hde := dead_any La2 D _ htw3.a
              have hoq := ops_any La2 D _ htw3.a
              have hpq := pending_any La2 D _ htw3.a
              have hpr := fun W (hk : Keeps (fun _ => False) (w9.alloc (.cells (bk zb).toArray 27)) W) => pending_any Lb' D W (htw3.quiet hk).b
              rw [e1] at hde hoq hpq
              rw [HPB'.out] at hpr
              rw [HC.out.dead] at hde
              have HDE := Lib.hid hde
              have HOQ := Lib.hid hoq
              have HPQ := Lib.hid hpq
              have HPR := Lib.hid hpr
              have HT3 := Lib.hid htw3
              have HE1 := Lib.hid e1
              clear hde hoq hpq hpr htw2 htw3 e1 hkx
              go_wp2_with fail
              refine HDE.out.mono ?_
              rintro e wa ⟨rfl, rfl⟩
              go_wp2_with fail
              refine HOQ.out.mono ?_
              rintro e wa ⟨rfl, rfl⟩
              go_wp2_with fail
              refine HPQ.out.mono ?_
              rintro e wb ⟨rv, rfl, hrow1, hkb⟩
              obtain ⟨ra, rc, rfl, _⟩ := own_slice hrow1
              have HKB := Lib.hid hkb
              clear hrow1 hkb
              go_wp2_with fail
              refine (HPR.out _ HKB.out).mono ?_
              rintro e wd ⟨rv, rfl, hrow1, hkd⟩
              obtain ⟨ra2, rc2, rfl, _⟩ := own_slice hrow1
              have HKD := Lib.hid hkd
              clear hrow1 hkd
              go_wp2_with fail
              go_roundw
              case rel => exact ⟨t + 1, by omega, by go_num, s + 1, by omega, by go_num, La2, Lb', D, HE1.out, HPB'.out, by rw [failAt_next, failing_zero HC.out]; exact HT3.out.quiet (HKB.out.trans HKD.out), HC.out.more⟩
              case measure => simp [intOf]; omega
          · have hds := HT7.out.does hok (by show D.ops < _; omega) (by show D.p.length < _; omega) o HAS.out.1 HPA'.out
            rw [failAt_does HC.out hs HAS.out] at hds
            have HDS := Lib.hid hds
            have hlx := does_len HT7.out.b o
            have hsy : ((s : Int) == (y : Int)) = false := by rw [beq_eq_false_iff_ne]; omega
            clear hds hok
            rcases hin with ⟨k1, k2, k3⟩ | k1
            all_goals
              go_wp2_with fail
              refine HDS.out.mono ?_
              rintro e w9 ⟨rfl, La2, e1, htw2, hkx⟩
              have hzl : (bk zb).length = 64 := by rw [bk_len, zb_len]
              have hl : (bk (D.does o).1).length = 64 := by rw [bk_len, hlx]
              have hone : oneAll (bk (D.does o).1).toArray = true := all_oneCell_toArray bk_one
              obtain ⟨q1, q2⟩ := held_new (W := w9) hl
              have b9 := Blk.new w9 27 (bk (D.does o).1)
              have hq9 : Keeps (fun _ => False) w9 (w9.alloc (.cells (bk (D.does o).1).toArray 27)) := (Keeps.refl _ w9).alloc _
              have htw3 := htw2.quiet hq9
              have hob9 := (hkx.blk HO7.out fun e => absurd (HT.out.a.lt _ e) (Nat.lt_irrefl _)).alloc (.cells (bk (D.does o).1).toArray 27)
              have y0 := hob9.cell (i := 0) rfl
              have y1 := hob9.cell (i := 1) rfl
              have y2 := hob9.cell (i := 2) rfl
              have y3 := hob9.cell (i := 3) rfl
              have hdb := htw3.symm.does (fun h => by rw [HC.out.armed] at h; cases h) (by omega) (by omega) o HAS.out.1 HPB'.out
              have HDB := Lib.hid hdb
              have HE1 := Lib.hid e1
              have HB9 := Lib.hid b9
              have HT3 := Lib.hid htw3
              have hl3 := b9.lt
              have HL9 := Lib.hid htw2.b.lt
              clear htw2 htw3 e1 hkx hob9 hdb b9 hq9
              go_wp2_with fail
              refine HDB.out.mono ?_
              rintro e wb ⟨rfl, Lb2, e1, htw4, hkx⟩
              have hb9 := (hkx.blk HB9.out fun e => absurd (HL9.out _ e) (Nat.lt_irrefl _)).alloc (.cells (bk (D.does o).1).toArray 27)
              have hr9 : (wb.alloc (.cells (bk (D.does o).1).toArray 27)).rangeAt w9.heap.size 0 (bk (D.does o).1) := fun j v hv => by rw [Nat.zero_add]; exact hb9.cell hv
              have z1 := hasRow_of hr9 hl
              have z2 := rowAt_of hr9 hl
              obtain ⟨z3, z4⟩ := held_new (W := wb) hl
              have HEND : Hid (Two w1 (wb.alloc (.cells (bk (D.does o).1).toArray 27)) La2 ((D.does o).2.2.failing (failAt y (s + 1))) Lb2 (D.does o).2.2) := Lib.hid (htw4.symm.quiet ((Keeps.refl _ _).alloc _))
              have HE2 := Lib.hid e1
              clear hb9 hr9 htw4 hkx e1
              go_wp2_with fail
              go_roundw
              case rel => exact ⟨t + 1, by omega, by go_num, s + 1, by omega, by go_num, La2, Lb2, _, HE1.out, HE2.out, HEND.out, calm_does HC.out o HAS.out.1⟩
              case measure => simp [intOf]; omega
    · obtain rfl : t = m := by omega
      have hle : (s : Int) ≤ (y : Int) ∨ ¬ (s : Int) ≤ (y : Int) := by omega
      clear hpa hpb htw hca
      have HEND : ∀ wz, Two w1 wz La' D Lb' D → Hid (Calls Try.prog 20 #[.pointer (some ⟨A, 0, none⟩)] wz (HeldP La' D wz)) := fun wz h => Lib.hid (by
        have := held_any La' D wz h.a ⟨HC.out.dead, HC.out.fails⟩ (by have := HC.out.ops; omega)
        rwa [HPA'.out] at this)
      have HENB : ∀ wz (D' : DD), Two w1 wz La' D' Lb' D → Hid (Calls Try.prog 20 #[.pointer (some ⟨B, 0, none⟩)] wz (HeldP Lb' D wz)) := fun wz D' h => Lib.hid (by
        have := held_any Lb' D wz h.b ⟨HC.out.dead, HC.out.fails⟩ (by have := HC.out.ops; omega)
        rwa [HPB'.out] at this)
      have HOPS : ∀ wz (Lc : DL) (D' : DD) (X : Nat), Lc.ptr = .pointer (some ⟨X, 0, none⟩) → DkAt wz Lc D' → Hid (Calls Try.prog 36 #[.pointer (some ⟨X, 0, none⟩)] wz fun e w' => e = .returned (.int .i64 D'.ops) ∧ wz = w') := fun wz Lc D' X h1 h2 => Lib.hid (by
        have := ops_any Lc D' wz h2
        rwa [h1] at this)
      rcases hle with hle | hle
      · have hfa := fail_any La' _ wr HT.out.a (-1)
        rw [failing_fail HC.out, HPA'.out] at hfa
        have HFA2 := Lib.hid hfa
        clear hfa
        go_wp2_with fail
        refine HFA2.out.mono ?_
        rintro e wf ⟨rfl, hdf, hkf⟩
        have HTF := Lib.hid (HT.out.step hdf hkf)
        clear hdf hkf
        go_wp2_with fail
        refine (HEND wf HTF.out).out.mono ?_
        rintro e w8 ⟨rv1, rfl, hrow1, hd1, hkk1⟩
        have htw1 := HTF.out.step hd1 hkk1
        have HRO1 := Lib.hid hrow1
        have HTW1 := Lib.hid htw1
        clear hrow1 hd1 hkk1 htw1
        go_wp2_with fail
        refine (HENB w8 _ HTW1.out).out.mono ?_
        rintro e w9 ⟨rv2, rfl, hrow2, hd2, hkk2⟩
        have htw2 := (HTW1.out.symm.step hd2 hkk2).symm
        have hr1 := hkk2.own HRO1.out fun g hg e => by
          have h1 := (own_heap HRO1.out hg).1
          have h2 := HTF.out.b.lt _ (.inl rfl)
          have e' : g = Lb'.B := e
          omega
        have hsm := same_any _ _ rv1 rv2 D.n D.holds D.holds w9 hr1 hrow2 (fun i hi => holds_len HTF.out.b hi) (fun _ _ => rfl)
        have HSM := Lib.hid hsm
        have HTW2 := Lib.hid htw2
        clear hrow2 hd2 hkk2 htw2 hr1 hsm
        go_wp2_with fail
        refine HSM.out.mono ?_
        rintro e w10 ⟨rfl, hk10⟩
        have HTX := Lib.hid (HTW2.out.quiet hk10)
        clear hk10
        go_wp2_with fail
        refine (HOPS w10 _ _ A HPA'.out HTX.out.a).out.mono ?_
        rintro e w11 ⟨rfl, rfl⟩
        go_wp2_with fail
        refine (HOPS w10 _ _ B HPB'.out HTX.out.b).out.mono ?_
        rintro e w11 ⟨rfl, rfl⟩
        go_wp2_with fail
        go_ret
        exact ⟨rfl, HK1.out.trans HTX.out.k⟩
      · obtain ⟨wf, rfl⟩ : ∃ wf : World, wf = wr := ⟨_, rfl⟩
        have HTF : Hid (Two w1 wf La' D Lb' D) := Lib.hid (by
          have h := HT.out
          rwa [show failAt y s = 0 from if_neg (by omega), failing_zero HC.out] at h)
        go_wp2_with fail
        refine (HEND wf HTF.out).out.mono ?_
        rintro e w8 ⟨rv1, rfl, hrow1, hd1, hkk1⟩
        have htw1 := HTF.out.step hd1 hkk1
        have HRO1 := Lib.hid hrow1
        have HTW1 := Lib.hid htw1
        clear hrow1 hd1 hkk1 htw1
        go_wp2_with fail
        refine (HENB w8 _ HTW1.out).out.mono ?_
        rintro e w9 ⟨rv2, rfl, hrow2, hd2, hkk2⟩
        have htw2 := (HTW1.out.symm.step hd2 hkk2).symm
        have hr1 := hkk2.own HRO1.out fun g hg e => by
          have h1 := (own_heap HRO1.out hg).1
          have h2 := HTF.out.b.lt _ (.inl rfl)
          have e' : g = Lb'.B := e
          omega
        have hsm := same_any _ _ rv1 rv2 D.n D.holds D.holds w9 hr1 hrow2 (fun i hi => holds_len HTF.out.b hi) (fun _ _ => rfl)
        have HSM := Lib.hid hsm
        have HTW2 := Lib.hid htw2
        clear hrow2 hd2 hkk2 htw2 hr1 hsm
        go_wp2_with fail
        refine HSM.out.mono ?_
        rintro e w10 ⟨rfl, hk10⟩
        have HTX := Lib.hid (HTW2.out.quiet hk10)
        clear hk10
        go_wp2_with fail
        refine (HOPS w10 _ _ A HPA'.out HTX.out.a).out.mono ?_
        rintro e w11 ⟨rfl, rfl⟩
        go_wp2_with fail
        refine (HOPS w10 _ _ B HPB'.out HTX.out.b).out.mono ?_
        rintro e w11 ⟨rfl, rfl⟩
        go_wp2_with fail
        go_ret
        exact ⟨rfl, HK1.out.trans HTX.out.k⟩
end Go.Proofs.Ytjiammhmeliogaa
