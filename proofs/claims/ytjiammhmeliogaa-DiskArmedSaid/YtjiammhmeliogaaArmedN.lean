/- DiskArmed, walked where the number is negative. -/
import Derived.Test.YtjiammhmeliogaaArmed
namespace Go.Proofs.Ytjiammhmeliogaa
open Go.RowKit
set_option linter.unusedVariables false
set_option linter.unusedSimpArgs false
attribute [local go_sem ↓] exec_load27 exec_new27 exec_alloc27 exec_build27 zeroValue27
attribute [local go_sem] padr_some rowAt_drew hasRow_drew mayRow_drew run_cells27 eq27_self

set_option maxRecDepth 100000 in
set_option maxHeartbeats 4000000 in
theorem armed_neg (a : Option Addr) (n c : Nat) (os : List OpT) (x : Int) (w : World) (hr : OpRow w.heap.size w a n os) (hn : n ≤ c) (hc : c ≤ maxLen) (hx : x < 0) : Calls Try.prog 5 #[.slice a n c, .int .i64 x] w fun e w' => e = .returned (.bool true) ∧ Keeps (fun _ => False) w w' := by
  have HR := Lib.hid hr
  have HF := Lib.hid (fun w => few_any a n c w hn hc)
  have hlen := hr.1
  have HWO := Lib.hid (fun w => worn_any none 0 0 [] w (OpRow.nil _ _) (Nat.le_refl _) (by unfold maxLen; omega))
  obtain ⟨y, hy0⟩ : ∃ y : Nat, y = 0 := ⟨0, rfl⟩
  have hy40 : y < 40 := by omega
  have h0 : Value.int .i64 0 = Value.int .i64 (y : Int) := by rw [hy0]; rfl
  have H0 := Lib.hid h0
  have hx' : ¬ 0 ≤ x := by omega
  clear hr hn hc hy0 h0
  go_enter Try.func5, Try.ntmps5
  go_wp2_with fail
  refine (wakes_any w).mono ?_
  rintro e w1 ⟨rfl, hk1⟩
  have HK1 := Lib.hid hk1
  clear hk1
  go_wp2_with fail
  refine (HWO.out w1).mono ?_
  rintro e w2 ⟨La, rfl, hda, hoa, hka⟩
  dsimp only
  rw (occs := .pos [1, 2, 3]) [H0.out]
  have HPA := Lib.hid (show La.ptr = .pointer (some ⟨La.B, 0, none⟩) from rfl)
  obtain ⟨A, hA⟩ : ∃ A, A = La.B := ⟨_, rfl⟩
  rw [HPA.out, ← hA]
  have HDA := Lib.hid hda
  have HOA := Lib.hid hoa
  have HKA := Lib.hid hka
  rw [← hA] at HPA
  clear hda hoa hka hA
  go_wp2_with fail
  refine (HWO.out w2).mono ?_
  rintro e w3 ⟨Lb, rfl, hdb, hob, hkb⟩
  have HPB := Lib.hid (show Lb.ptr = .pointer (some ⟨Lb.B, 0, none⟩) from rfl)
  obtain ⟨B, hB⟩ : ∃ B, B = Lb.B := ⟨_, rfl⟩
  rw [HPB.out, ← hB]
  rw [← hB] at HPB
  have htwo := two_start HDA.out HOA.out HKA.out hdb hob hkb
  have hfa := arm_any La (DD.fresh 6) w3 htwo.a (y : Int) (by simp [Lit.wf, IntKind.min, IntKind.max, IntKind.signed, IntKind.bits]; omega)
  rw [fresh_arm, HPA.out] at hfa
  have HFA := Lib.hid hfa
  have HTW := Lib.hid htwo
  clear hdb hob hkb hB htwo hfa
  go_wp2_with fail
  refine HFA.out.mono ?_
  rintro e w4 ⟨rfl, hd4, hk4⟩
  have HT4 := Lib.hid (HTW.out.step hd4 hk4)
  clear hd4 hk4
  go_wp2_with fail
  refine (HF.out _).mono ?_
  rintro e w5 ⟨rfl, rfl⟩
  obtain ⟨m, hm⟩ : ∃ m, m = min n 120 := ⟨_, rfl⟩
  rw [← hm]
  have hml : m ≤ n := by omega
  have hm120 : m ≤ 120 := by omega
  clear hm
  go_wp2_with fail
  go_loopw [7, 43] (fun q i wr => ∃ t : Nat, t ≤ m ∧ i = .int .i64 t ∧ ∃ s : Nat, (s ≤ t ∧ s ≤ y) ∧ q = .int .i64 s ∧ ∃ (La Lb : DL) (D : DD), La.ptr = .pointer (some ⟨A, 0, none⟩) ∧ Lb.ptr = .pointer (some ⟨B, 0, none⟩) ∧ Two w1 wr La (D.arming ((y : Int) - s)) Lb D ∧ Calm t D) (fun _ i _ => m - (intOf i).toNat)
  case atStart => exact ⟨0, Nat.zero_le _, rfl, 0, ⟨Nat.zero_le _, Nat.zero_le _⟩, rfl, La, Lb, DD.fresh 6, HPA.out, HPB.out, by simpa using HT4.out, fresh_calm⟩
  case round =>
    obtain ⟨t, ht, rfl, s, ⟨hst, hsy0⟩, rfl, La', Lb', D, hpa, hpb, htw, hca⟩ := hrel
    have HPA' := Lib.hid hpa
    have HPB' := Lib.hid hpb
    have HT := Lib.hid htw
    have HC := Lib.hid hca
    by_cases hlt : t < m
    · obtain ⟨o, ho⟩ : ∃ o, os[t]? = some o := ⟨_, List.getElem?_eq_getElem (by omega)⟩
      obtain ⟨b, off, rfl, hbb, hrow⟩ := HR.out.2 t o ho
      have hkw : Keeps (fun _ => False) w wr := HK1.out.trans htw.k
      have hrow' : wr.rangeAt b (off + t * 4) (opc o) := fun j v hv => (hkw.cell (p := ⟨b, off + t * 4 + j, none⟩) hbb id).trans (hrow j v hv)
      have g0 := hrow' 0 _ rfl
      have g1 := hrow' 1 _ rfl
      have g2 := hrow' 2 _ rfl
      have g3 := hrow' 3 _ rfl
      rw [Nat.add_zero] at g0
      have hlt' : (t : Int) < (m : Int) := by omega
      have hwr := htw.k.size
      clear hpa hpb htw hca hkw hrow hrow' ho
      go_wp2_with fail
      refine (kind_any o.k o.a o.f (.slice o.va o.vn o.vc) _).mono ?_
      rintro e w6 ⟨rfl, hw6⟩
      have hq : Keeps (fun _ => False) wr w6 := by rw [hw6]; exact ((Keeps.refl _ _).alloc _).alloc _
      have hob : Blk w6 wr.heap.size 32 [.int .i64 o.k, .int .i64 o.a, .int .u8 o.f, .slice o.va o.vn o.vc] := by rw [hw6]; exact (Blk.new wr 32 _).alloc _
      have u0 := hob.cell (i := 0) rfl
      have u1 := hob.cell (i := 1) rfl
      have u2 := hob.cell (i := 2) rfl
      have u3 := hob.cell (i := 3) rfl
      have HQ := Lib.hid hq
      have HOB := Lib.hid hob
      clear hq hob hw6
      by_cases h3 : 2 < opk o.k
      · go_wp2_with fail
        go_roundw
        case rel => exact ⟨t + 1, by omega, by go_num, s, ⟨by omega, hsy0⟩, rfl, La', Lb', D, HPA'.out, HPB'.out, HT.out.quiet HQ.out, HC.out.more⟩
        case measure => simp [intOf]; omega
      · have hlow : opk o.k < 3 := by omega
        have h0k := opk_lo o.k
        by_cases hs : s = y
        · have hsq : ((s : Int) == (y : Int)) = true := by rw [hs]; exact beq_self_eq_true _
          by_cases hnw : works o
          · have hk0 : 0 < opk o.k := hnw.1
            have hzz : (y : Int) - s = 0 := by omega
            rw [hzz] at HT
            obtain ⟨q, hqk, hqc⟩ : ∃ q, opk o.k = q ∧ ((q = 1 ∧ 0 ≤ o.a ∧ o.a < 6) ∨ q = 2) := ⟨_, rfl, by unfold works at hnw; omega⟩
            have HNW := Lib.hid hnw
            clear hnw hzz
            have HWI := Lib.hid (show (Lit.int .i64 5).wf = true from by decide)
            rcases hqc with ⟨rfl, ha0, ha6⟩ | rfl
            all_goals
              rw [hqk]
              go_wp2_with fail
              refine (kind_any o.k o.a o.f (.slice o.va o.vn o.vc) _).mono ?_
              rintro e w7 ⟨rfl, hww7⟩
              have hqw7 : Keeps (fun _ => False) wr w7 := by rw [hww7]; exact HQ.out.alloc _
              have hobw7 : Blk w7 wr.heap.size 32 [.int .i64 o.k, .int .i64 o.a, .int .u8 o.f, .slice o.va o.vn o.vc] := by rw [hww7]; exact HOB.out.alloc _
              have HQw7 := Lib.hid hqw7
              have HOw7 := Lib.hid hobw7
              have v0w7 := hobw7.cell (i := 0) rfl
              have v1w7 := hobw7.cell (i := 1) rfl
              have v2w7 := hobw7.cell (i := 2) rfl
              have v3w7 := hobw7.cell (i := 3) rfl
              clear hqw7 hobw7 hww7
              rw [hqk]
              go_wp2_with fail
              refine (kind_any o.k o.a o.f (.slice o.va o.vn o.vc) _).mono ?_
              rintro e w8 ⟨rfl, hww8⟩
              have hqw8 : Keeps (fun _ => False) wr w8 := by rw [hww8]; exact HQw7.out.alloc _
              have hobw8 : Blk w8 wr.heap.size 32 [.int .i64 o.k, .int .i64 o.a, .int .u8 o.f, .slice o.va o.vn o.vc] := by rw [hww8]; exact HOw7.out.alloc _
              have HQw8 := Lib.hid hqw8
              have v0w8 := hobw8.cell (i := 0) rfl
              have v1w8 := hobw8.cell (i := 1) rfl
              have v2w8 := hobw8.cell (i := 2) rfl
              have v3w8 := hobw8.cell (i := 3) rfl
              clear hqw8 hobw8 hww8
              rw [hqk]
              have HT7 := Lib.hid (HT.out.quiet HQw8.out)
              have h5 := HC.out.ops
              have h6 := HC.out.p
              have hds := HT7.out.does (fun _ => by show (0 : Int) ≤ 0; omega) (by show D.ops < _; omega) (by show D.p.length < _; omega) o hlow HPA'.out
              rw [arming_cut HC.out hlow HNW.out] at hds
              have HDS := Lib.hid hds
              clear hds
              go_wp2_with fail
              refine HDS.out.mono ?_
              rintro e w9 ⟨rfl, La2, e1, htw2, hkx⟩
              have hzl : (bk zb).length = 64 := by rw [bk_len, zb_len]
              have hzl2 := zb_len
              have hone : oneAll (bk zb).toArray = true := all_oneCell_toArray bk_one
              obtain ⟨q1, q2⟩ := held_new (W := w9) hzl
              have htw3 := htw2.quiet ((Keeps.refl _ w9).alloc (.cells (bk zb).toArray 27))
              have hde := htw3.deadc e1
              have hre := htw3.readc (by omega) 0 e1
              have HDE := Lib.hid hde
              have HRE := Lib.hid hre
              have HE1 := Lib.hid e1
              clear hde hre htw2 htw3 e1 hkx
              go_wp2_with fail
              refine HDE.out.mono ?_
              rintro e wa ⟨rfl, rfl⟩
              rw [show D.cut.dead = true from rfl]
              go_wp2_with fail
              refine HRE.out.mono ?_
              rintro e wa ⟨rfl, htw4⟩
              obtain ⟨q3, q4⟩ := held_new (W := wa) hzl
              have htw5 := htw4.quiet ((Keeps.refl _ wa).alloc (.cells (bk zb).toArray 27))
              have har := htw5.armc 5 HWI.out HE1.out
              have HAR := Lib.hid har
              clear htw4 htw5 har
              go_wp2_with fail
              refine HAR.out.mono ?_
              rintro e wb ⟨rfl, htw6⟩
              have hsy := htw6.syncc (by omega) HE1.out
              have HSY := Lib.hid hsy
              clear htw6 hsy
              go_wp2_with fail
              refine HSY.out.mono ?_
              rintro e wc ⟨rfl, La3, e2, htw7⟩
              have hfl := htw7.failc 1 e2
              have HFL := Lib.hid hfl
              clear htw7 hfl
              go_wp2_with fail
              refine HFL.out.mono ?_
              rintro e wd ⟨rfl, htw8⟩
              have hpe := htw8.pendc e2
              have HPE := Lib.hid hpe
              have HE2 := Lib.hid e2
              clear htw8 hpe e2
              go_wp2_with fail
              refine HPE.out.mono ?_
              rintro e wf ⟨ra, rc, rfl, htw9⟩
              rw [show D.cut.p = D.p from rfl]
              have HT9 := Lib.hid htw9
              obtain ⟨pn, hpn⟩ : ∃ pn, pn = D.p.length := ⟨_, rfl⟩
              rw [← hpn]
              have hpn9 : pn ≤ 1000 := by omega
              have HPN := Lib.hid hpn
              have HLA := Lib.hid HT9.out.a.lt
              have HLB := Lib.hid HT9.out.b.lt
              obtain ⟨g, hg⟩ : ∃ g, g = wf.heap.size := ⟨_, rfl⟩
              have hbk := Blk.new wf 4 (yes 0 pn)
              rw [← hg] at hbk HLA HLB
              have HBK := Lib.hid hbk
              have HSZ := Lib.hid (show w1.heap.size ≤ g from by rw [hg]; exact HT9.out.k.size)
              have HG := Lib.hid hg
              have hmk := make30 pn (by omega) wf
              clear htw9 hpn hbk
              rw [← hg] at hmk
              clear hg
              obtain ⟨wo, rfl⟩ : ∃ wo : World, wo = wr := ⟨_, rfl⟩
              go_wp2_with fail
              go_loopw [16, 115] (fun _ i wz => ∃ k : Nat, k ≤ pn ∧ i = .int .i64 k ∧ Blk wz g 4 (yes k pn) ∧ Two w1 wz La3 D.cut Lb' D) (fun _ i _ => pn - (intOf i).toNat)
              case atStart => exact ⟨0, Nat.zero_le _, rfl, HBK.out, HT9.out.quiet ((Keeps.refl _ _).alloc _)⟩
              case round =>
                obtain ⟨k, hk, rfl, hbz, htz⟩ := hrel
                have HTZ := Lib.hid htz
                have HBZ := Lib.hid hbz
                by_cases hlk : k < pn
                · have hlk' : (k : Int) < (pn : Int) := by omega
                  have c0 := hbz.cell (yes_cell hlk hk)
                  have c1 := hbz.free k
                  clear hbz htz
                  have HST : Hid (∀ W, W = wr.setCell ⟨g, k, none⟩ (.bool true) → Blk W g 4 (yes (k + 1) pn) ∧ Two w1 W La3 D.cut Lb' D) := Lib.hid (by
                    rintro W rfl
                    refine ⟨?_, HTZ.out.other (S := fun k => k = g) ((Keeps.refl (fun k => k = g) wr).store (p := ⟨g, k, none⟩) (.inl rfl) _) (fun k h1 e => ?_) (fun k h1 e => ?_) (fun k e => by rw [e]; exact HSZ.out)⟩
                    · have := HBZ.out.store k (.bool true)
                      rwa [yes_next hlk] at this
                    · have := HLA.out k h1
                      have e' : k = g := e
                      omega
                    · have := HLB.out k h1
                      have e' : k = g := e
                      omega)
                  go_wp2_with fail
                  go_roundw
                  case rel => exact ⟨k + 1, by omega, by go_num, HST.out _ rfl⟩
                  case measure => simp [intOf]; omega
                · obtain rfl : k = pn := by omega
                  obtain ⟨wy, rfl⟩ : ∃ wy : World, wy = wr := ⟨_, rfl⟩
                  have hcr := htz.crashc (some ⟨g, 0, none⟩) k k (List.replicate k true) (yes_row hbz) (fun b off e h1 => by
                    have := HLA.out b h1
                    injection e with e
                    injection e with e
                    omega) (by omega) HE2.out
                  have HCR := Lib.hid hcr
                  clear hbz htz hcr
                  go_wp2_with fail
                  refine HCR.out.mono ?_
                  rintro e wz ⟨rfl, La4, e4, htw10⟩
                  have hcl := crash_live D.cut (List.replicate k true)
                  have hhe := htw10.heldc hcl (by show D.ops < _; omega) e4
                  have HHE := Lib.hid hhe
                  have HLZ := Lib.hid htw10.b.lt
                  clear htw10 hhe hcl
                  go_wp2_with fail
                  refine HHE.out.mono ?_
                  rintro e wh ⟨rv1, rfl, hr1, htw11, hk1⟩
                  have hhb := htw11.symm.heldc ⟨HC.out.dead, HC.out.fails⟩ (by omega) HPB'.out
                  have HHB := Lib.hid hhb
                  have HR1 := Lib.hid hr1
                  have HLC := Lib.hid htw11.b.lt
                  clear hhb hr1 htw11 hk1
                  go_wp2_with fail
                  refine HHB.out.mono ?_
                  rintro e wi ⟨rv2, rfl, hr2, htw12, hk2⟩
                  have hce : (D.cut.crash (List.replicate k true)).holds = D.holds := by rw [HPN.out]; exact crash_all D.cut
                  have hr1 := hk2.own HR1.out fun g hg e => by
                    have h1 := (own_heap HR1.out hg).1
                    have h2 := HLZ.out _ (.inl rfl)
                    have e' : g = Lb'.B := e
                    omega
                  rw [hce] at hr1
                  have hsm := same_any _ _ rv1 rv2 D.n D.holds D.holds wi hr1 hr2 (fun i hi => holds_len HT9.out.b hi) (fun _ _ => rfl)
                  have HSM := Lib.hid hsm
                  have HTW := Lib.hid htw12.k
                  clear hce hr1 hr2 htw12 hk2 hsm
                  go_wp2_with fail
                  refine HSM.out.mono ?_
                  rintro e wj ⟨rfl, hk10⟩
                  have HK10 := Lib.hid hk10
                  clear hk10
                  go_wp2_with fail
                  go_ret
                  exact ⟨rfl, HK1.out.trans (HTW.out.trans HK10.out)⟩
          · by_cases hk0 : 0 < opk o.k
            · have h1k : opk o.k = 1 := by unfold works at hnw; omega
              have h1n : ¬ (0 ≤ o.a ∧ o.a < 6) := by unfold works at hnw; omega
              rw [h1k]
              go_wp2_with fail
              refine (kind_any o.k o.a o.f (.slice o.va o.vn o.vc) _).mono ?_
              rintro e w7 ⟨rfl, hww7⟩
              have hqw7 : Keeps (fun _ => False) wr w7 := by rw [hww7]; exact HQ.out.alloc _
              have hobw7 : Blk w7 wr.heap.size 32 [.int .i64 o.k, .int .i64 o.a, .int .u8 o.f, .slice o.va o.vn o.vc] := by rw [hww7]; exact HOB.out.alloc _
              have HQw7 := Lib.hid hqw7
              have HOw7 := Lib.hid hobw7
              have v0w7 := hobw7.cell (i := 0) rfl
              have v1w7 := hobw7.cell (i := 1) rfl
              have v2w7 := hobw7.cell (i := 2) rfl
              have v3w7 := hobw7.cell (i := 3) rfl
              clear hqw7 hobw7 hww7
              rw [h1k]
              go_wp2_with fail
              refine (kind_any o.k o.a o.f (.slice o.va o.vn o.vc) _).mono ?_
              rintro e w8 ⟨rfl, hww8⟩
              have hqw8 : Keeps (fun _ => False) wr w8 := by rw [hww8]; exact HQw7.out.alloc _
              have hobw8 : Blk w8 wr.heap.size 32 [.int .i64 o.k, .int .i64 o.a, .int .u8 o.f, .slice o.va o.vn o.vc] := by rw [hww8]; exact HOw7.out.alloc _
              have HQw8 := Lib.hid hqw8
              have HOw8 := Lib.hid hobw8
              have v0w8 := hobw8.cell (i := 0) rfl
              have v1w8 := hobw8.cell (i := 1) rfl
              have v2w8 := hobw8.cell (i := 2) rfl
              have v3w8 := hobw8.cell (i := 3) rfl
              clear hqw8 hobw8 hww8
              rw [h1k]
              by_cases ha0 : 0 ≤ o.a
              · have ha6 : ¬ o.a < 6 := by omega
                have HT7 := Lib.hid (HT.out.quiet HQw8.out)
                have h5 := HC.out.ops
                have h6 := HC.out.p
                have hds := HT7.out.does (fun _ => by show (0 : Int) ≤ (y : Int) - s; omega) (by show D.ops < _; omega) (by show D.p.length < _; omega) o hlow HPA'.out
                rw [arming_does HC.out hlow (fun h => absurd h hnw)] at hds
                have HDS := Lib.hid hds
                clear hds
                have hlx := does_len HT7.out.b o
                go_wp2_with fail
                refine HDS.out.mono ?_
                rintro e w9 ⟨rfl, La2, e1, htw2, hkx⟩
                have hzl : (bk zb).length = 64 := by rw [bk_len, zb_len]
                have hl : (bk (D.does o).1).length = 64 := by rw [bk_len, hlx]
                have hone : oneAll (bk (D.does o).1).toArray = true := all_oneCell_toArray bk_one
                obtain ⟨q1, q2⟩ := held_new (W := w9) hl
                have b9 := Blk.new w9 27 (bk (D.does o).1)
                have htw3 := htw2.quiet ((Keeps.refl _ w9).alloc (.cells (bk (D.does o).1).toArray 27))
                have hob9 := (hkx.blk HOw8.out fun e => absurd (HT.out.a.lt _ e) (Nat.lt_irrefl _)).alloc (.cells (bk (D.does o).1).toArray 27)
                have y0 := hob9.cell (i := 0) rfl
                have y1 := hob9.cell (i := 1) rfl
                have y2 := hob9.cell (i := 2) rfl
                have y3 := hob9.cell (i := 3) rfl
                have hdb := htw3.symm.does (fun h => by rw [HC.out.armed] at h; cases h) (by omega) (by omega) o hlow HPB'.out
                have HDB := Lib.hid hdb
                have HE1 := Lib.hid e1
                have HB9 := Lib.hid b9
                have HO9 := Lib.hid hob9
                have HL9 := Lib.hid htw2.b.lt
                have hl3 := b9.lt
                clear htw2 htw3 e1 hkx hob9 hdb b9
                go_wp2_with fail
                refine HDB.out.mono ?_
                rintro e wb ⟨rfl, Lb2, e1, htw4, hkx⟩
                have hb9 := (hkx.blk HB9.out fun e => absurd (HL9.out _ e) (Nat.lt_irrefl _)).alloc (.cells (bk (D.does o).1).toArray 27)
                have hr9 : (wb.alloc (.cells (bk (D.does o).1).toArray 27)).rangeAt w9.heap.size 0 (bk (D.does o).1) := fun j v hv => by rw [Nat.zero_add]; exact hb9.cell hv
                have z1 := hasRow_of hr9 hl
                have z2 := rowAt_of hr9 hl
                obtain ⟨z3, z4⟩ := held_new (W := wb) hl
                have hobz := (hkx.blk HO9.out fun e => absurd (HT.out.b.lt _ e) (Nat.lt_irrefl _)).alloc (.cells (bk (D.does o).1).toArray 27)
                have x0 := hobz.cell (i := 0) rfl
                have x1 := hobz.cell (i := 1) rfl
                have x2 := hobz.cell (i := 2) rfl
                have x3 := hobz.cell (i := 3) rfl
                have hend := htw4.symm.quiet ((Keeps.refl _ wb).alloc (.cells (bk (D.does o).1).toArray 27))
                have hca2 := calm_does HC.out o hlow
                have hde := dead_any La2 _ _ hend.a
                rw [show ((D.does o).2.2.arming (if works o then (y : Int) - s - 1 else (y : Int) - s)).dead = false from hca2.dead, HE1.out] at hde
                have HDE := Lib.hid hde
                have HEND := Lib.hid hend
                have HCA2 := Lib.hid hca2
                have HE2 := Lib.hid e1
                have HCODE := Lib.hid (does_code HC.out hlow)
                clear hb9 hr9 htw4 hkx e1 hobz hend hca2 hde
                go_wp2_with fail
                refine HDE.out.mono ?_
                rintro e wz ⟨rfl, rfl⟩
                go_wp2_with fail
                refine (kind_any o.k o.a o.f (.slice o.va o.vn o.vc) _).mono ?_
                rintro e wk ⟨rfl, hwk⟩
                have HKK : Hid (Keeps (fun _ => False) (wb.alloc (.cells (bk (D.does o).1).toArray 27)) wk) := Lib.hid (by rw [hwk]; exact (Keeps.refl _ _).alloc _)
                clear hwk
                rw [if_neg hnw] at HEND
                have hcz := HCODE.out hk0
                rw [decide_eq_false hnw] at hcz
                clear hnw
                go_wp2_with fail
                go_roundw
                case rel => exact ⟨t + 1, by omega, by go_num, s, ⟨by omega, by omega⟩, (by first | rfl | rw [hs]), La2, Lb2, _, HE1.out, HE2.out, HEND.out.quiet HKK.out, HCA2.out⟩
                case measure => simp [intOf]; omega
              · have HT7 := Lib.hid (HT.out.quiet HQw8.out)
                have h5 := HC.out.ops
                have h6 := HC.out.p
                have hds := HT7.out.does (fun _ => by show (0 : Int) ≤ (y : Int) - s; omega) (by show D.ops < _; omega) (by show D.p.length < _; omega) o hlow HPA'.out
                rw [arming_does HC.out hlow (fun h => absurd h hnw)] at hds
                have HDS := Lib.hid hds
                clear hds
                have hlx := does_len HT7.out.b o
                go_wp2_with fail
                refine HDS.out.mono ?_
                rintro e w9 ⟨rfl, La2, e1, htw2, hkx⟩
                have hzl : (bk zb).length = 64 := by rw [bk_len, zb_len]
                have hl : (bk (D.does o).1).length = 64 := by rw [bk_len, hlx]
                have hone : oneAll (bk (D.does o).1).toArray = true := all_oneCell_toArray bk_one
                obtain ⟨q1, q2⟩ := held_new (W := w9) hl
                have b9 := Blk.new w9 27 (bk (D.does o).1)
                have htw3 := htw2.quiet ((Keeps.refl _ w9).alloc (.cells (bk (D.does o).1).toArray 27))
                have hob9 := (hkx.blk HOw8.out fun e => absurd (HT.out.a.lt _ e) (Nat.lt_irrefl _)).alloc (.cells (bk (D.does o).1).toArray 27)
                have y0 := hob9.cell (i := 0) rfl
                have y1 := hob9.cell (i := 1) rfl
                have y2 := hob9.cell (i := 2) rfl
                have y3 := hob9.cell (i := 3) rfl
                have hdb := htw3.symm.does (fun h => by rw [HC.out.armed] at h; cases h) (by omega) (by omega) o hlow HPB'.out
                have HDB := Lib.hid hdb
                have HE1 := Lib.hid e1
                have HB9 := Lib.hid b9
                have HO9 := Lib.hid hob9
                have HL9 := Lib.hid htw2.b.lt
                have hl3 := b9.lt
                clear htw2 htw3 e1 hkx hob9 hdb b9
                go_wp2_with fail
                refine HDB.out.mono ?_
                rintro e wb ⟨rfl, Lb2, e1, htw4, hkx⟩
                have hb9 := (hkx.blk HB9.out fun e => absurd (HL9.out _ e) (Nat.lt_irrefl _)).alloc (.cells (bk (D.does o).1).toArray 27)
                have hr9 : (wb.alloc (.cells (bk (D.does o).1).toArray 27)).rangeAt w9.heap.size 0 (bk (D.does o).1) := fun j v hv => by rw [Nat.zero_add]; exact hb9.cell hv
                have z1 := hasRow_of hr9 hl
                have z2 := rowAt_of hr9 hl
                obtain ⟨z3, z4⟩ := held_new (W := wb) hl
                have hobz := (hkx.blk HO9.out fun e => absurd (HT.out.b.lt _ e) (Nat.lt_irrefl _)).alloc (.cells (bk (D.does o).1).toArray 27)
                have x0 := hobz.cell (i := 0) rfl
                have x1 := hobz.cell (i := 1) rfl
                have x2 := hobz.cell (i := 2) rfl
                have x3 := hobz.cell (i := 3) rfl
                have hend := htw4.symm.quiet ((Keeps.refl _ wb).alloc (.cells (bk (D.does o).1).toArray 27))
                have hca2 := calm_does HC.out o hlow
                have hde := dead_any La2 _ _ hend.a
                rw [show ((D.does o).2.2.arming (if works o then (y : Int) - s - 1 else (y : Int) - s)).dead = false from hca2.dead, HE1.out] at hde
                have HDE := Lib.hid hde
                have HEND := Lib.hid hend
                have HCA2 := Lib.hid hca2
                have HE2 := Lib.hid e1
                have HCODE := Lib.hid (does_code HC.out hlow)
                clear hb9 hr9 htw4 hkx e1 hobz hend hca2 hde
                go_wp2_with fail
                refine HDE.out.mono ?_
                rintro e wz ⟨rfl, rfl⟩
                go_wp2_with fail
                refine (kind_any o.k o.a o.f (.slice o.va o.vn o.vc) _).mono ?_
                rintro e wk ⟨rfl, hwk⟩
                have HKK : Hid (Keeps (fun _ => False) (wb.alloc (.cells (bk (D.does o).1).toArray 27)) wk) := Lib.hid (by rw [hwk]; exact (Keeps.refl _ _).alloc _)
                clear hwk
                rw [if_neg hnw] at HEND
                have hcz := HCODE.out hk0
                rw [decide_eq_false hnw] at hcz
                clear hnw
                go_wp2_with fail
                go_roundw
                case rel => exact ⟨t + 1, by omega, by go_num, s, ⟨by omega, by omega⟩, (by first | rfl | rw [hs]), La2, Lb2, _, HE1.out, HE2.out, HEND.out.quiet HKK.out, HCA2.out⟩
                case measure => simp [intOf]; omega
            · go_wp2_with fail
              refine (kind_any o.k o.a o.f (.slice o.va o.vn o.vc) _).mono ?_
              rintro e w7 ⟨rfl, hww7⟩
              have hqw7 : Keeps (fun _ => False) wr w7 := by rw [hww7]; exact HQ.out.alloc _
              have hobw7 : Blk w7 wr.heap.size 32 [.int .i64 o.k, .int .i64 o.a, .int .u8 o.f, .slice o.va o.vn o.vc] := by rw [hww7]; exact HOB.out.alloc _
              have HQw7 := Lib.hid hqw7
              have HOw7 := Lib.hid hobw7
              have v0w7 := hobw7.cell (i := 0) rfl
              have v1w7 := hobw7.cell (i := 1) rfl
              have v2w7 := hobw7.cell (i := 2) rfl
              have v3w7 := hobw7.cell (i := 3) rfl
              clear hqw7 hobw7 hww7
              have HT7 := Lib.hid (HT.out.quiet HQw7.out)
              have h5 := HC.out.ops
              have h6 := HC.out.p
              have hds := HT7.out.does (fun _ => by show (0 : Int) ≤ (y : Int) - s; omega) (by show D.ops < _; omega) (by show D.p.length < _; omega) o hlow HPA'.out
              rw [arming_does HC.out hlow (fun h => absurd h hnw)] at hds
              have HDS := Lib.hid hds
              clear hds
              have hlx := does_len HT7.out.b o
              go_wp2_with fail
              refine HDS.out.mono ?_
              rintro e w9 ⟨rfl, La2, e1, htw2, hkx⟩
              have hzl : (bk zb).length = 64 := by rw [bk_len, zb_len]
              have hl : (bk (D.does o).1).length = 64 := by rw [bk_len, hlx]
              have hone : oneAll (bk (D.does o).1).toArray = true := all_oneCell_toArray bk_one
              obtain ⟨q1, q2⟩ := held_new (W := w9) hl
              have b9 := Blk.new w9 27 (bk (D.does o).1)
              have htw3 := htw2.quiet ((Keeps.refl _ w9).alloc (.cells (bk (D.does o).1).toArray 27))
              have hob9 := (hkx.blk HOw7.out fun e => absurd (HT.out.a.lt _ e) (Nat.lt_irrefl _)).alloc (.cells (bk (D.does o).1).toArray 27)
              have y0 := hob9.cell (i := 0) rfl
              have y1 := hob9.cell (i := 1) rfl
              have y2 := hob9.cell (i := 2) rfl
              have y3 := hob9.cell (i := 3) rfl
              have hdb := htw3.symm.does (fun h => by rw [HC.out.armed] at h; cases h) (by omega) (by omega) o hlow HPB'.out
              have HDB := Lib.hid hdb
              have HE1 := Lib.hid e1
              have HB9 := Lib.hid b9
              have HO9 := Lib.hid hob9
              have HL9 := Lib.hid htw2.b.lt
              have hl3 := b9.lt
              clear htw2 htw3 e1 hkx hob9 hdb b9
              go_wp2_with fail
              refine HDB.out.mono ?_
              rintro e wb ⟨rfl, Lb2, e1, htw4, hkx⟩
              have hb9 := (hkx.blk HB9.out fun e => absurd (HL9.out _ e) (Nat.lt_irrefl _)).alloc (.cells (bk (D.does o).1).toArray 27)
              have hr9 : (wb.alloc (.cells (bk (D.does o).1).toArray 27)).rangeAt w9.heap.size 0 (bk (D.does o).1) := fun j v hv => by rw [Nat.zero_add]; exact hb9.cell hv
              have z1 := hasRow_of hr9 hl
              have z2 := rowAt_of hr9 hl
              obtain ⟨z3, z4⟩ := held_new (W := wb) hl
              have hobz := (hkx.blk HO9.out fun e => absurd (HT.out.b.lt _ e) (Nat.lt_irrefl _)).alloc (.cells (bk (D.does o).1).toArray 27)
              have x0 := hobz.cell (i := 0) rfl
              have x1 := hobz.cell (i := 1) rfl
              have x2 := hobz.cell (i := 2) rfl
              have x3 := hobz.cell (i := 3) rfl
              have hend := htw4.symm.quiet ((Keeps.refl _ wb).alloc (.cells (bk (D.does o).1).toArray 27))
              have hca2 := calm_does HC.out o hlow
              have hde := dead_any La2 _ _ hend.a
              rw [show ((D.does o).2.2.arming (if works o then (y : Int) - s - 1 else (y : Int) - s)).dead = false from hca2.dead, HE1.out] at hde
              have HDE := Lib.hid hde
              have HEND := Lib.hid hend
              have HCA2 := Lib.hid hca2
              have HE2 := Lib.hid e1
              have HCODE := Lib.hid (does_code HC.out hlow)
              clear hb9 hr9 htw4 hkx e1 hobz hend hca2 hde
              go_wp2_with fail
              refine HDE.out.mono ?_
              rintro e wz ⟨rfl, rfl⟩
              go_wp2_with fail
              refine (kind_any o.k o.a o.f (.slice o.va o.vn o.vc) _).mono ?_
              rintro e wk ⟨rfl, hwk⟩
              have HKK : Hid (Keeps (fun _ => False) (wb.alloc (.cells (bk (D.does o).1).toArray 27)) wk) := Lib.hid (by rw [hwk]; exact (Keeps.refl _ _).alloc _)
              clear hwk
              rw [if_neg hnw] at HEND
              clear hnw
              go_wp2_with fail
              go_roundw
              case rel => exact ⟨t + 1, by omega, by go_num, s, ⟨by omega, by omega⟩, (by first | rfl | rw [hs]), La2, Lb2, _, HE1.out, HE2.out, HEND.out.quiet HKK.out, HCA2.out⟩
              case measure => simp [intOf]; omega
        · have hsy : ((s : Int) == (y : Int)) = false := by rw [beq_eq_false_iff_ne]; omega
          have HT7 := Lib.hid (HT.out.quiet HQ.out)
          have h5 := HC.out.ops
          have h6 := HC.out.p
          have hds := HT7.out.does (fun _ => by show (0 : Int) ≤ (y : Int) - s; omega) (by show D.ops < _; omega) (by show D.p.length < _; omega) o hlow HPA'.out
          rw [arming_does HC.out hlow (fun _ => by omega)] at hds
          have HDS := Lib.hid hds
          clear hds
          have hlx := does_len HT7.out.b o
          go_wp2_with fail
          refine HDS.out.mono ?_
          rintro e w9 ⟨rfl, La2, e1, htw2, hkx⟩
          have hzl : (bk zb).length = 64 := by rw [bk_len, zb_len]
          have hl : (bk (D.does o).1).length = 64 := by rw [bk_len, hlx]
          have hone : oneAll (bk (D.does o).1).toArray = true := all_oneCell_toArray bk_one
          obtain ⟨q1, q2⟩ := held_new (W := w9) hl
          have b9 := Blk.new w9 27 (bk (D.does o).1)
          have htw3 := htw2.quiet ((Keeps.refl _ w9).alloc (.cells (bk (D.does o).1).toArray 27))
          have hob9 := (hkx.blk HOB.out fun e => absurd (HT.out.a.lt _ e) (Nat.lt_irrefl _)).alloc (.cells (bk (D.does o).1).toArray 27)
          have y0 := hob9.cell (i := 0) rfl
          have y1 := hob9.cell (i := 1) rfl
          have y2 := hob9.cell (i := 2) rfl
          have y3 := hob9.cell (i := 3) rfl
          have hdb := htw3.symm.does (fun h => by rw [HC.out.armed] at h; cases h) (by omega) (by omega) o hlow HPB'.out
          have HDB := Lib.hid hdb
          have HE1 := Lib.hid e1
          have HB9 := Lib.hid b9
          have HO9 := Lib.hid hob9
          have HL9 := Lib.hid htw2.b.lt
          have hl3 := b9.lt
          clear htw2 htw3 e1 hkx hob9 hdb b9
          go_wp2_with fail
          refine HDB.out.mono ?_
          rintro e wb ⟨rfl, Lb2, e1, htw4, hkx⟩
          have hb9 := (hkx.blk HB9.out fun e => absurd (HL9.out _ e) (Nat.lt_irrefl _)).alloc (.cells (bk (D.does o).1).toArray 27)
          have hr9 : (wb.alloc (.cells (bk (D.does o).1).toArray 27)).rangeAt w9.heap.size 0 (bk (D.does o).1) := fun j v hv => by rw [Nat.zero_add]; exact hb9.cell hv
          have z1 := hasRow_of hr9 hl
          have z2 := rowAt_of hr9 hl
          obtain ⟨z3, z4⟩ := held_new (W := wb) hl
          have hobz := (hkx.blk HO9.out fun e => absurd (HT.out.b.lt _ e) (Nat.lt_irrefl _)).alloc (.cells (bk (D.does o).1).toArray 27)
          have x0 := hobz.cell (i := 0) rfl
          have x1 := hobz.cell (i := 1) rfl
          have x2 := hobz.cell (i := 2) rfl
          have x3 := hobz.cell (i := 3) rfl
          have hend := htw4.symm.quiet ((Keeps.refl _ wb).alloc (.cells (bk (D.does o).1).toArray 27))
          have hca2 := calm_does HC.out o hlow
          have hde := dead_any La2 _ _ hend.a
          rw [show ((D.does o).2.2.arming (if works o then (y : Int) - s - 1 else (y : Int) - s)).dead = false from hca2.dead, HE1.out] at hde
          have HDE := Lib.hid hde
          have HEND := Lib.hid hend
          have HCA2 := Lib.hid hca2
          have HE2 := Lib.hid e1
          have HCODE := Lib.hid (does_code HC.out hlow)
          clear hb9 hr9 htw4 hkx e1 hobz hend hca2 hde
          go_wp2_with fail
          refine HDE.out.mono ?_
          rintro e wz ⟨rfl, rfl⟩
          go_wp2_with fail
          refine (kind_any o.k o.a o.f (.slice o.va o.vn o.vc) _).mono ?_
          rintro e wk ⟨rfl, hwk⟩
          have HKK : Hid (Keeps (fun _ => False) (wb.alloc (.cells (bk (D.does o).1).toArray 27)) wk) := Lib.hid (by rw [hwk]; exact (Keeps.refl _ _).alloc _)
          clear hwk
          by_cases hw : works o
          · have hk0 : 0 < opk o.k := hw.1
            have hcz := HCODE.out hk0
            rw [decide_eq_true hw] at hcz
            rw [if_pos hw] at HEND
            clear hw
            go_wp2_with fail
            go_roundw
            case rel => exact ⟨t + 1, by omega, by go_num, s + 1, ⟨by omega, by omega⟩, by go_num, La2, Lb2, _, HE1.out, HE2.out, by have := HEND.out.quiet HKK.out; rwa [show (y : Int) - s - 1 = (y : Int) - (s + 1 : Nat) by omega] at this, HCA2.out⟩
            case measure => simp [intOf]; omega
          · rw [if_neg hw] at HEND
            by_cases hk0 : 0 < opk o.k
            · have hcz := HCODE.out hk0
              rw [decide_eq_false hw] at hcz
              clear hw
              go_wp2_with fail
              go_roundw
              case rel => exact ⟨t + 1, by omega, by go_num, s, ⟨by omega, by omega⟩, (by first | rfl | rw [hs]), La2, Lb2, _, HE1.out, HE2.out, HEND.out.quiet HKK.out, HCA2.out⟩
              case measure => simp [intOf]; omega
            · clear hw
              go_wp2_with fail
              go_roundw
              case rel => exact ⟨t + 1, by omega, by go_num, s, ⟨by omega, by omega⟩, (by first | rfl | rw [hs]), La2, Lb2, _, HE1.out, HE2.out, HEND.out.quiet HKK.out, HCA2.out⟩
              case measure => simp [intOf]; omega
    · obtain rfl : t = m := by omega
      clear hpa hpb htw hca
      obtain ⟨wf, rfl⟩ : ∃ wf : World, wf = wr := ⟨_, rfl⟩
      have HTF := HT
      have hend := held_any La' (D.arming ((y : Int) - s)) wf HT.out.a ⟨HC.out.dead, HC.out.fails⟩ (by have := HC.out.ops; show D.ops < _; omega)
      rw [HPA'.out] at hend
      have HEND := Lib.hid hend
      have HENB : ∀ wz (D' : DD), Two w1 wz La' D' Lb' D → Hid (Calls Try.prog 20 #[.pointer (some ⟨B, 0, none⟩)] wz (HeldP Lb' D wz)) := fun wz D' h => Lib.hid (by
        have := held_any Lb' D wz h.b ⟨HC.out.dead, HC.out.fails⟩ (by have := HC.out.ops; omega)
        rwa [HPB'.out] at this)
      have HOPS : ∀ wz (Lc : DL) (D' : DD) (X : Nat), Lc.ptr = .pointer (some ⟨X, 0, none⟩) → DkAt wz Lc D' → Hid (Calls Try.prog 36 #[.pointer (some ⟨X, 0, none⟩)] wz fun e w' => e = .returned (.int .i64 D'.ops) ∧ wz = w') := fun wz Lc D' X h1 h2 => Lib.hid (by
        have := ops_any Lc D' wz h2
        rwa [h1] at this)
      clear hend
      have eo : (D.arming ((y : Int) - s)).ops = D.ops := rfl
      have en : (D.arming ((y : Int) - s)).n = D.n := rfl
      go_wp2_with fail
      refine HEND.out.mono ?_
      rintro e w8 ⟨rv1, rfl, hrow1, hd1, hkk1⟩
      have htw1 := HTF.out.step hd1 hkk1
      have HRO1 := Lib.hid hrow1
      have HTW1 := Lib.hid htw1
      clear hrow1 hd1 hkk1 htw1
      go_wp2_with fail
      refine (HENB w8 _ HTW1.out).out.mono ?_
      rintro e w9 ⟨rv2, rfl, hrow2, hd2, hkk2⟩
      have htw2 := (HTW1.out.symm.step hd2 hkk2).symm
      have hr1 := hkk2.own HRO1.out fun g hg e => by
        have h1 := (own_heap HRO1.out hg).1
        have h2 := HTF.out.b.lt _ (.inl rfl)
        have e' : g = Lb'.B := e
        omega
      have hsm := same_any _ _ rv1 rv2 D.n D.holds D.holds w9 hr1 hrow2 (fun i hi => holds_len HTF.out.b hi) (fun _ _ => rfl)
      have HSM := Lib.hid hsm
      have HTW2 := Lib.hid htw2
      clear hrow2 hd2 hkk2 htw2 hr1 hsm
      go_wp2_with fail
      refine HSM.out.mono ?_
      rintro e w10 ⟨rfl, hk10⟩
      have HTX := Lib.hid (HTW2.out.quiet hk10)
      clear hk10
      go_wp2_with fail
      refine (HOPS w10 _ _ A HPA'.out HTX.out.a).out.mono ?_
      rintro e w11 ⟨rfl, rfl⟩
      go_wp2_with fail
      refine (HOPS w10 _ _ B HPB'.out HTX.out.b).out.mono ?_
      rintro e w11 ⟨rfl, rfl⟩
      go_wp2_with fail
      go_ret
      exact ⟨rfl, HK1.out.trans HTX.out.k⟩

theorem armed_walk (v : Value) (x : OpsIn) (y : Int) (W : World) (w0 : x.Ok v W) (w1 : (Lit.int .i64 y).wf = true) :
    Calls Try.prog 5 #[v, .int .i64 y] W fun e w' => e = .returned (.bool true) ∧ Below W.heap.size W w' := by
  obtain ⟨rfl, hr, _, hn, hc⟩ := w0
  have hcm : x.c ≤ maxLen := by unfold maxLen; omega
  have h : Calls Try.prog 5 #[.slice x.a x.n x.c, .int .i64 y] W fun e w' => e = .returned (.bool true) ∧ Keeps (fun _ => False) W w' := by
    by_cases hy : 0 ≤ y
    · exact armed_law x.a x.n x.c x.l y W hr hn hcm hy
    · exact armed_neg x.a x.n x.c x.l y W hr hn hcm (by omega)
  refine h.mono ?_
  rintro e w' ⟨rfl, hk⟩
  exact ⟨rfl, hk.below (fun _ h => h.elim) (Nat.le_refl _)⟩
end Go.Proofs.Ytjiammhmeliogaa
