/- RamDoes, walked. -/
import Derived.Test.YthnagihgjenimaaDoorRDo2
import Derived.Deep.CutBlock
namespace Go.Proofs.YthnagihgjenimaaDoor
open Go.RowKit
set_option linter.unusedVariables false
set_option linter.unusedSimpArgs false
set_option maxRecDepth 100000 in
theorem rnew_bad (n : Int) (h : n < 1 ∨ 256 < n) (w : World) : Calls Tryd.prog 32 #[.int .i64 n] w fun e w' => e = .returned (.tuple #[.pointer none, .int .i64 2]) ∧ Keeps (fun _ => False) w w' := by
  have HA := Lib.hid (anew_bad n h w)
  clear h
  go_enter Tryd.func32, Tryd.ntmps32
  go_wp2_with fail
  refine HA.out.mono ?_
  rintro e w1 ⟨rfl, rfl⟩
  go_wp2_with fail
  go_ret2
  exact ⟨rfl, Keeps.refl _ _⟩
/-- A region that draws its order, all of it quiet but for new blocks: one walk serves every order. -/
theorem wp_region_keeps {P : Program} {id : Nat} {Q : Exit → Act → World → Prop} {a : Act} {w : World} {l : List Oper} (w0 : World) (hm : P.follows .mixedOrders = true) (hB : Region.lexB .any l.toArray = true) (hw : Keeps (fun _ => False) w0 w)
    (h : wpQuiet P l.toArray (fun W => Keeps (fun _ => False) w0 W) (fun a' => ∀ w', Keeps (fun _ => False) w0 w' → Q .normal a' w') l a) : (Code.region id l.toArray true).wp P Q a w :=
  wp_region_quiet (C := fun W => Keeps (fun _ => False) w0 W) hm hB (hw.trans (Keeps.refl _ w).drew) (by simpa using h)
attribute [local go_sem] Oper.quietAt Oper.quietUpon
theorem al_keys {hs l : List HM} {k : List Int} (e : al hs = al l) (h : ∀ x ∈ l, x.it.key ≠ k) : ∀ x ∈ hs, x.it.key ≠ k := fun x hx => by
  have h1 : akey x ∈ al l := by rw [← e]; exact List.mem_map.2 ⟨x, hx, rfl⟩
  obtain ⟨y, hy, hye⟩ := List.mem_map.1 h1
  rw [← akey_it hye]
  exact h y hy
/-- At the head of the loop. -/
def RdI (w w1 : World) (N Bm B0 t : Nat) (wr : World) : Prop :=
  ∃ (L : RL) (X : RG) (v : Value) (D : AD) (hs l : List HM), L.B = B0 ∧ RAt wr L D hs ∧ (∀ k, L.own k → w1.heap.size ≤ k) ∧ DocAt w N Bm X v D l L.own wr ∧ al hs = al l ∧ D.n = N ∧ l.length ≤ t
set_option maxRecDepth 100000 in
set_option maxHeartbeats 8000000 in
theorem does_law (pages : Int) (v : Value) (a : Option Addr) (n : Nat) (l : List ROp) (w : World) (hwf : (Lit.int .i64 pages).wf = true) (hr : RopsIn w v a n l) (hT : Tab w) :
    Calls Tryd.prog 10 #[.int .i64 pages, v] w fun e w' => e = .returned (.bool true) ∧ Keeps (fun _ => False) w w' := by
  have HWK := Lib.hid (rwakes w hT hT.lt)
  have HT := Lib.hid hT
  obtain ⟨c, rfl, hnc, hcm⟩ := hr.form
  have HR := Lib.hid hr
  have hsz : -9223372036854775808 ≤ pages ∧ pages ≤ 9223372036854775807 := by simpa [Lit.wf, IntKind.min, IntKind.max, IntKind.signed, IntKind.bits] using hwf
  have HSZ := Lib.hid hsz
  clear hr hT hwf hsz
  go_enter Tryd.func10, Tryd.ntmps10
  go_wp2_with fail
  refine HWK.out.mono ?_
  rintro e w1 ⟨rfl, hk1⟩
  have HK1 := Lib.hid hk1
  clear hk1 HWK
  by_cases hbad : pages < 1 ∨ 256 < pages
  · have HN := Lib.hid (rnew_bad pages hbad w1)
    rcases hbad with hb | hb
    · clear HR
      go_wp2_with fail
      refine HN.out.mono ?_
      rintro e w2 ⟨rfl, hk2⟩
      have HK2 := Lib.hid hk2
      clear hk2 HN
      go_wp2_with fail
      go_ret
      exact ⟨rfl, HK1.out.trans HK2.out⟩
    · have hb' : ¬ (pages < 1) := by omega
      clear HR
      go_wp2_with fail
      refine HN.out.mono ?_
      rintro e w2 ⟨rfl, hk2⟩
      have HK2 := Lib.hid hk2
      clear hk2 HN
      go_wp2_with fail
      go_ret
      exact ⟨rfl, HK1.out.trans HK2.out⟩
  · obtain ⟨N, rfl⟩ : ∃ N : Nat, pages = (N : Int) := ⟨pages.toNat, by omega⟩
    have hN1 : 1 ≤ N := by omega
    have hN2 : N ≤ 256 := by omega
    have p1 : ¬ ((N : Int) < 1) := by omega
    have p2 : ¬ ((256 : Int) < (N : Int)) := by omega
    have HN := Lib.hid (rnew_ok N hN1 hN2 w1)
    unfold RNewP RL.ptr at HN
    clear hbad
    go_wp2_with fail
    refine HN.out.mono ?_
    rintro e w2 ⟨L, rfl, hr2, hlo, hk2⟩
    have HR2 := Lib.hid hr2
    have HLO := Lib.hid hlo
    have HK2 := Lib.hid (HK1.out.trans hk2)
    clear hr2 hlo HN
    by_cases h12 : 12 < N
    · have p3 : (12 : Int) < (N : Int) := by omega
      have HLN := Lib.hid (len_any' L (AD.fresh N) [] w2 HR2.out)
      unfold RL.ptr at HLN
      clear HR h12
      go_wp2_with fail
      refine HLN.out.mono ?_
      rintro e w3 ⟨rfl, rfl⟩
      go_wp2_with fail
      go_ret
      exact ⟨rfl, HK2.out⟩
    · have p3 : ¬ ((12 : Int) < (N : Int)) := by omega
      have HNW := Lib.hid (rnew13_any N hN1 (by omega) w2)
      unfold RNew13P at HNW
      go_wp2_with fail
      refine HNW.out.mono ?_
      rintro e w3 ⟨X, rfl, hx, hov, hk3⟩
      have HX := Lib.hid hx
      have HOV := Lib.hid hov
      have HK3 := Lib.hid hk3
      clear hx hov hk3 HNW
      go_upto_region 11 with fail
      obtain ⟨W4, hW4⟩ : ∃ W4, W4 = w3.alloc (.cells #[.slice (some ⟨X.O, 0, none⟩) N X.cap, .slice none 0 0] 74) := ⟨_, rfl⟩
      have hk4 : Keeps (fun _ => False) w3 W4 := by rw [hW4]; exact (Keeps.refl _ _).alloc _
      have hb4 : Blk W4 w3.heap.size 74 [.slice (some ⟨X.O, 0, none⟩) N X.cap, .slice none 0 0] := by rw [hW4]; exact Blk.new w3 74 _
      have hlt2 := HR2.out.lt.2.2.2
      have hkw4 : Keeps (fun _ => False) w W4 := HK2.out.trans (HK3.out.trans hk4)
      have HBM : Hid (w.heap.size ≤ w3.heap.size) := Lib.hid (HK2.out.trans HK3.out).size
      have HI0 : Hid (RdI w w1 N w3.heap.size L.B 0 W4) := Lib.hid ⟨L, X, .slice none 0 0, AD.fresh N, [], [], rfl, HR2.out.quiet (HK3.out.trans hk4), HLO.out, ⟨hb4, (HX.out.quiet hk4).congr (fun i hi k hk => by
        rw [gv_zero]
        show ¬ bitN 0 k = 1
        unfold bitN
        simp), fun ho => absurd (hlt2 _ ho) (Nat.not_lt.2 HOV.out.1), fun i hi ho => absurd (hlt2 _ ho) (Nat.not_lt.2 (HOV.out.2 i hi)), World.ownsRow_nil _ _ _ _, (fun h hh => nomatch hh), hkw4⟩, rfl, rfl, Nat.le_refl _⟩
      rw [← hW4]
      clear hW4 hk4 hb4 hlt2 hkw4 hk2 p1 p2 p3 h12
      have HN12 : Hid (N ≤ 12) := Lib.hid (by omega)
      go_upto_block 0 with fail
      go_cut [] (fun wx => RdI w w1 N w3.heap.size L.B 40 wx)
      case first =>
        go_wp2_with fail
        go_loopw [51] (fun s51 wr => ∃ t : Nat, t ≤ n ∧ t ≤ 40 ∧ s51 = .int .i64 (t : Int) ∧ RdI w w1 N w3.heap.size L.B t wr) (fun s51 _ => 41 - (intOf s51).toNat)
        case atStart => exact ⟨0, by omega, by omega, rfl, HI0.out⟩
        case round =>
          obtain ⟨t, ht, ht40, rfl, hI⟩ := hrel
          have HI := Lib.hid hI
          clear hI
          by_cases hlt : t < n
          · have hlt' : (t : Int) < (n : Int) := by omega
            obtain ⟨o, ho⟩ : ∃ o, l[t]? = some o := ⟨_, List.getElem?_eq_getElem (by rw [HR.out.len]; exact hlt)⟩
            obtain ⟨b, off, ha, hbl, hc⟩ := HR.out.cell t o ho
            subst ha
            obtain ⟨K, X1, v1, D, hs, lc, hB, hra, how, hda, hal, hDn, hll⟩ := HI.out
            have hkw := hda.keeps
            have hin := HR.out.good o (List.mem_of_getElem? ho)
            have HIN := Lib.hid hin.1
            have hkd : -9223372036854775808 ≤ o.kd ∧ o.kd ≤ 9223372036854775807 := by simpa [Lit.wf, IntKind.min, IntKind.max, IntKind.signed, IntKind.bits] using hin.2
            obtain ⟨r, hr5, hr, hkl, hku⟩ := kind_of o.kd hkd.1 hkd.2
            have cc : ∀ j u, o.cells[j]? = some u → wr.cell? ⟨b, off + t * 7 + j, none⟩ = some u := fun j u hu => (hkw.cell (p := ⟨b, off + t * 7 + j, none⟩) hbl id).trans (hc j u hu)
            obtain ⟨kd, it, okv, ovv⟩ := o
            obtain ⟨⟨ka, kc, hka, _⟩, ⟨va, vc, hva, _⟩⟩ := hin.1.b
            dsimp only at hka hva hkd hr hkl hku HIN
            subst hka hva
            have c0 := cc 0 _ rfl
            have c1 := cc 1 _ rfl
            have c2 := cc 2 _ rfl
            have c3 := cc 3 _ rfl
            have c4 := cc 4 _ rfl
            have c5 := cc 5 _ rfl
            have c6 := cc 6 _ rfl
            simp only [Nat.add_zero] at c0
            obtain ⟨W1, hW1⟩ : ∃ W1, W1 = wr.alloc (.cells #[.int .i64 kd, .slice ka it.key.length kc, .slice va it.val.length vc, .int .u32 it.fg, .int .u32 it.ex, .int .u64 it.sq, .bool it.dt] 77) := ⟨_, rfl⟩
            have hb1 : Blk W1 wr.heap.size 77 [.int .i64 kd, .slice ka it.key.length kc, .slice va it.val.length vc, .int .u32 it.fg, .int .u32 it.ex, .int .u64 it.sq, .bool it.dt] := by rw [hW1]; exact Blk.new wr 77 _
            have hk1 : Keeps (fun _ => False) wr W1 := by rw [hW1]; exact (Keeps.refl _ _).alloc _
            have HB := Lib.hid hB
            have HRA := Lib.hid (hra.quiet hk1)
            have HOW := Lib.hid how
            have HDA := Lib.hid (hda.quiet hk1)
            have HAL := Lib.hid hal
            have HDN := Lib.hid hDn
            have HLL := Lib.hid hll
            have HB1 := Lib.hid hb1
            have HKW := Lib.hid (hkw.trans hk1)
            have HHC := Lib.hid hc
            have hnn : -9223372036854775808 ≤ kd := hkd.1
            clear hB hra how hda hal hDn hll hk1 hkw hin hkd cc hc ho
            go_upto_region 14 with fail
            rw [← hW1]
            clear c0 c1 c2 c3 c4 c5 c6
            by_cases h40 : t = 40
            · subst h40
              have hst : RdI w w1 N w3.heap.size L.B 40 W1 := ⟨K, X1, v1, D, hs, lc, HB.out, HRA.out, HOW.out, HDA.out, HAL.out, HDN.out, HLL.out⟩
              have HST := Lib.hid hst
              clear hst hb1 hW1
              go_wp2_with fail
              go_meet
              exact HST.out
            · have h40' : ((t : Int) == 40) = false := by rw [beq_eq_false_iff_ne]; omega
              have x0 := hb1.cell (i := 0) rfl
              have x1 := hb1.cell (i := 1) rfl
              have x2 := hb1.cell (i := 2) rfl
              have x3 := hb1.cell (i := 3) rfl
              have x4 := hb1.cell (i := 4) rfl
              have x5 := hb1.cell (i := 5) rfl
              have x6 := hb1.cell (i := 6) rfl
              have HCP : Hid (Calls Tryd.prog 39 #[it.agg (.slice ka it.key.length kc) (.slice va it.val.length vc)] W1 (OwnP it W1)) := Lib.hid (copied_any it _ _ W1 (HIN.out.b.quiet HKW.out) HIN.out.kl HIN.out.vl)
              unfold OwnP at HCP
              unfold IT.agg at HCP
              clear hb1 hW1
              go_wp2_with fail
              refine HCP.out.mono ?_
              rintro e w4 ⟨kv, vv, rfl, ok, ov, hk4⟩
              obtain ⟨ka', kc', rfl⟩ := own_formQ ok
              obtain ⟨va', vc', rfl⟩ := own_formQ ov
              have HOK := Lib.hid ok
              have HOV' := Lib.hid ov
              have HK4 := Lib.hid hk4
              clear ok ov hk4 HCP x0 x1 x2 x3 x4 x5 x6
              go_upto_region 16 with fail
              obtain ⟨W5, hW5⟩ : ∃ W5, W5 = w4.alloc (.cells #[.slice ka' it.key.length kc', .slice va' it.val.length vc', .int .u32 it.fg, .int .u32 it.ex, .int .u64 it.sq, .bool it.dt] 64) := ⟨_, rfl⟩
              have hb5 : Blk W5 w4.heap.size 64 [.slice ka' it.key.length kc', .slice va' it.val.length vc', .int .u32 it.fg, .int .u32 it.ex, .int .u64 it.sq, .bool it.dt] := by rw [hW5]; exact Blk.new w4 64 _
              have hk45 : Keeps (fun _ => False) w4 W5 := by rw [hW5]; exact (Keeps.refl _ _).alloc _
              have hk15 : Keeps (fun _ => False) W1 W5 := HK4.out.trans hk45
              have HRD5 : Hid (Reads W5 it (.slice ka' it.key.length kc') (.slice va' it.val.length vc')) := Lib.hid ⟨own_low (hk45.own' HOK.out (fun _ _ => id)) (Nat.zero_le _), own_low (hk45.own' HOV'.out (fun _ _ => id)) (Nat.zero_le _)⟩
              have HRA5 := Lib.hid (HRA.out.quiet hk15)
              have HDA5 := Lib.hid (HDA.out.quiet hk15)
              have HB15 := Lib.hid (hk15.blk HB1.out id)
              have HB5 := Lib.hid hb5
              have HKW5 := Lib.hid (HKW.out.trans hk15)
              have HIV : Hid (RInv D lc) := Lib.hid (HRA.out.inv.al HAL.out)
              have HHD5 := Lib.hid (HDA5.out.hd HIV.out HDN.out (by have := HLL.out; omega))
              have hbx := HDA5.out.box
              obtain ⟨da, dc, hdv⟩ := HHD5.out.form
              subst hdv
              have HFI := Lib.hid (rfind_any (some ⟨X1.O, 0, none⟩) N X1.cap _ _ lc it.key W5 HHD5.out (HRD5.out.itb.k) HIN.out.kl)
              obtain ⟨q, hq⟩ : ∃ q, q = lc.length := ⟨_, rfl⟩
              have HQ := Lib.hid hq
              rw [← hq] at HFI hbx
              have y0 := hbx.cell (i := 0) rfl
              have y1 := hbx.cell (i := 1) rfl
              have x0 := hb5.cell (i := 0) rfl
              unfold RFindP at HFI
              rw [← hW5]
              clear hW5 hb5 hk45 hk15 hbx hq
              go_wp2_with fail
              refine HFI.out.mono ?_
              rintro e w6 ⟨z, rfl, hk6, hz⟩
              have HZ := Lib.hid hz
              obtain ⟨no, hno, hzn⟩ : ∃ no : Int, (no = 4 ∨ no = 0) ∧ ((z < 0 ∧ no = 4) ∨ (¬ (z < 0) ∧ no = 0)) := by
                by_cases h : z < 0
                · exact ⟨4, .inl rfl, .inl ⟨h, rfl⟩⟩
                · exact ⟨0, .inr rfl, .inr ⟨h, rfl⟩⟩
              have HZN := Lib.hid hzn
              have HK56 := Lib.hid hk6
              clear hz hk6 hno hzn HFI y0 y1 x0
              go_upto_if 66 with fail
              go_cut [12] (fun s12 wx => s12 = .int .i64 no ∧ wx = w6)
              case first =>
                rcases HZN.out with ⟨h1, h2⟩ | ⟨h1, h2⟩
                · subst h2
                  go_wp2_with fail
                  go_meet
                  exact ⟨rfl, rfl⟩
                · subst h2
                  go_wp2_with fail
                  go_meet
                  exact ⟨rfl, rfl⟩
              obtain ⟨rfl, hwc⟩ := hcut
              obtain rfl := hwc.symm
              have hb6 := HK56.out.blk HB15.out id
              have z0 := hb6.cell (i := 0) rfl
              clear hb6 hwc
              go_upto_region 21 with fail
              clear z0
              have HRA6 := Lib.hid (HRA5.out.quiet HK56.out)
              have HDA6 := Lib.hid (HDA5.out.quiet HK56.out)
              have HB16 := Lib.hid (HK56.out.blk HB15.out id)
              have HB6 := Lib.hid (HK56.out.blk HB5.out id)
              have HRD6 := Lib.hid (HRD5.out.keep HK56.out (fun _ _ => id) (fun _ _ => id))
              have HKW6 := Lib.hid (HKW5.out.trans HK56.out)
              clear HRA5 HDA5 HB15 HB5 HRD5 HKW5 HHD5 HK56 HRA HDA HB1 HKW HOK HK4 HI HK3 HX HOV HI0
              have hrc : r = 0 ∨ r = 1 ∨ r = 2 ∨ r = 3 ∨ r = 4 ∨ r = 5 := by omega
              have hms : ∀ (xs ys : List HM) (y : HM), lc = xs ++ y :: ys → ∃ xs' y' ys', hs = xs' ++ y' :: ys' ∧ YthnagihgjenimaaDoor.al xs' = YthnagihgjenimaaDoor.al xs ∧ akey y' = akey y ∧ YthnagihgjenimaaDoor.al ys' = YthnagihgjenimaaDoor.al ys := fun _ _ _ e => al_split (by rw [HAL.out, e])
              have HMS := Lib.hid hms
              clear hms hr hkl hku hnn
              rcases hrc with rfl | rfl | rfl | rfl | rfl | rfl
              · as_aux_lemma => -- Put
                have hb6 := HB6.out
                have x0 := hb6.cell (i := 0) rfl
                have x1 := hb6.cell (i := 1) rfl
                have x2 := hb6.cell (i := 2) rfl
                have x3 := hb6.cell (i := 3) rfl
                have x4 := hb6.cell (i := 4) rfl
                have x5 := hb6.cell (i := 5) rfl
                clear hb6
                rcases HIN.out.ok_or with hbad | hgood
                · have HBD := Lib.hid hbad
                  have HPB := Lib.hid (put_bad K D hs it (.slice ka' it.key.length kc') (.slice va' it.val.length vc') w6 HRA6.out HRD6.out.itb hbad)
                  unfold RL.ptr PutBad IT.agg at HPB
                  rw [HB.out] at HPB
                  clear hbad
                  go_wp2_with fail
                  refine HPB.out.mono ?_
                  rintro e w7 ⟨rfl, hk7⟩
                  have hb7 := hk7.blk HB16.out id
                  have z1 := hb7.cell (i := 1) rfl
                  have z2 := hb7.cell (i := 2) rfl
                  have z3 := hb7.cell (i := 3) rfl
                  have z4 := hb7.cell (i := 4) rfl
                  have z5 := hb7.cell (i := 5) rfl
                  have z6 := hb7.cell (i := 6) rfl
                  have HRG := Lib.hid (right_bad it (.slice ka it.key.length kc) (.slice va it.val.length vc) w7 (HIN.out.b.quiet (HKW6.out.trans hk7)) HBD.out HIN.out.sq)
                  unfold BoolP IT.agg at HRG
                  have HK7 := Lib.hid hk7
                  clear hb7 hk7 HPB x0 x1 x2 x3 x4 x5
                  go_wp2_with fail
                  refine HRG.out.mono ?_
                  rintro e w8 ⟨rfl, hk8⟩
                  have HF : Hid (RdI w w1 N w3.heap.size L.B (t + 1) w8) := Lib.hid ⟨K, X1, _, D, hs, lc, HB.out, HRA6.out.quiet (HK7.out.trans hk8), HOW.out, HDA6.out.quiet (HK7.out.trans hk8), HAL.out, HDN.out, by have := HLL.out; omega⟩
                  clear hk8 HRG z1 z2 z3 z4 z5 z6
                  go_wp2_with fail
                  go_roundw
                  case rel => exact ⟨t + 1, by omega, by omega, by go_num, HF.out⟩
                  case measure => simp [intOf]; omega
                · have HGD := Lib.hid hgood
                  have hw1 : 0 < w1.heap.size := Nat.lt_of_lt_of_le HT.out.lt HK1.out.size
                  have hoffS : ∀ {vq : Value} {xs : List Int}, w6.ownsRow 0 5 1 vq xs.length (nb xs) → OffS K vq := fun {vq xs} ho a' n' c' e hn => by
                    have h1 := own_off HRA6.out ho
                    rcases ho.2 with ⟨h2, _⟩ | ⟨g, cap, cur, h2, _⟩
                    · rw [h2] at e
                      cases e
                    · rw [h2] at e
                      injection e with e
                      injection e with e
                      subst e
                      exact h1 g (by rw [h2]; rfl)
                  have HPT := Lib.hid (put_any_item K D hs it (.slice ka' it.key.length kc') (.slice va' it.val.length vc') w6 HRA6.out (HT.out.keep HKW6.out id) hgood HRD6.out.itb (fun k hk => by have := HOW.out k hk; omega) (hoffS HRD6.out.k) (hoffS HRD6.out.v))
                  unfold RL.ptr IT.agg at HPT
                  rw [HB.out] at HPT
                  clear hgood hoffS hw1
                  go_wp2_with fail
                  refine HPT.out.mono ?_
                  rintro e w7 ⟨D1, hs1, s8, rfl, hless, hdone, hk7⟩
                  obtain ⟨D2, hs2, gone, x, D3, hre, hgs, hxi, hxc, hra7, hs8, hgr⟩ := hdone
                  obtain ⟨sa, sc, hsf⟩ := own_formQ hs8
                  obtain ⟨ng, hng⟩ : ∃ ng, ng = gone.length := ⟨_, rfl⟩
                  rw [← hng] at hsf
                  subst hsf
                  have hda7 := HDA6.out.real HRA6.out (fun k hk => Nat.le_trans HK1.out.size (HOW.out k hk)) hk7
                  have hb7 := hk7.blk HB16.out (HRA6.out.notype HB16.out (by decide) (by decide) (by decide))
                  have z1 := hb7.cell (i := 1) rfl
                  have z2 := hb7.cell (i := 2) rfl
                  have z3 := hb7.cell (i := 3) rfl
                  have z4 := hb7.cell (i := 4) rfl
                  have z5 := hb7.cell (i := 5) rfl
                  have z6 := hb7.cell (i := 6) rfl
                  have HRG := Lib.hid (right_ok it (.slice ka it.key.length kc) (.slice va it.val.length vc) w7 (HIN.out.b.quiet hda7.keeps) HGD.out)
                  unfold BoolP IT.agg at HRG
                  have HLS := Lib.hid hless
                  have HRE := Lib.hid hre
                  have HGS := Lib.hid hgs
                  have HXI := Lib.hid hxi
                  have HXC := Lib.hid hxc
                  have HRA7 := Lib.hid hra7
                  have HS8 := Lib.hid hs8
                  have HGR := Lib.hid hgr
                  have HNG := Lib.hid hng
                  have HDA7 := Lib.hid hda7
                  have HB7 := Lib.hid hb7
                  clear hless hre hgs hxi hxc hra7 hs8 hgr hng hda7 hb7 hk7 HPT x0 x1 x2 x3 x4 x5
                  go_wp2_with fail
                  refine HRG.out.mono ?_
                  rintro e w8 ⟨rfl, hk8⟩
                  have hb8 := hk8.blk HB7.out id
                  have z1 := hb8.cell (i := 1) rfl
                  have z2 := hb8.cell (i := 2) rfl
                  have z3 := hb8.cell (i := 3) rfl
                  have z4 := hb8.cell (i := 4) rfl
                  have z5 := hb8.cell (i := 5) rfl
                  have z6 := hb8.cell (i := 6) rfl
                  have HRA8 := Lib.hid (HRA7.out.quiet hk8)
                  have HDA8 := Lib.hid (HDA7.out.quiet hk8)
                  have hbx := HDA8.out.box
                  rw [← HQ.out] at hbx
                  have y0 := hbx.cell (i := 0) rfl
                  have y1 := hbx.cell (i := 1) rfl
                  have HK8 := Lib.hid hk8
                  have HRP : Hid (Calls Tryd.prog 42 #[.agg #[.slice (some ⟨X1.O, 0, none⟩) N X1.cap, .slice da q dc], .agg #[.slice ka it.key.length kc, .slice va it.val.length vc, .int .u32 it.fg, .int .u32 it.ex, .int .u64 it.sq, .bool it.dt]] w8 (RPutD X1 D lc it (.slice ka it.key.length kc) (.slice va it.val.length vc) w8)) := Lib.hid (by
                    have h0 := rput_any X1 D (.slice da q dc) lc it (.slice ka it.key.length kc) (.slice va it.val.length vc) w8 (by rw [HDN.out]; exact HDA8.out.rg) (by rw [HQ.out]; exact HDA8.out.hd HIV.out HDN.out (by have := HLL.out; omega)) (by have := HLL.out; omega) HIV.out HGD.out (HIN.out.b.quiet HDA8.out.keeps)
                    rw [HDN.out] at h0
                    exact h0)
                  clear hb8 hbx hk8 HRG
                  go_wp2_with fail
                  refine HRP.out.mono ?_
                  rintro e w9 ⟨E1, l1, E2, l2, gone2, r2, E3, Y, vY, gv', rfl, hless2, hre2, hgs2, hY, hHd, hrow2, hk9, hov⟩
                  rw [HDN.out] at hY hov ⊢
                  obtain ⟨rfl, hal1⟩ := less_one HLS.out hless2 HAL.out HIV.out
                  obtain ⟨hg1, hg2, hr2, rfl⟩ := put_one HRE.out HGS.out hre2 hgs2 hal1
                  obtain ⟨ea, ec, hez⟩ := own_formQ hHd.row
                  obtain ⟨k', hk'⟩ : ∃ k', k' = (⟨it, r2, cls (it.chg : Int), .slice ka it.key.length kc, .slice va it.val.length vc⟩ :: l2).length := ⟨_, rfl⟩
                  rw [← hk'] at hez
                  subst hez
                  obtain ⟨ga, gc, hgz⟩ := own_formQ hrow2
                  obtain ⟨ng2, hng2⟩ : ∃ ng2, ng2 = gone2.length := ⟨_, rfl⟩
                  rw [← hng2] at hgz
                  subst hgz
                  obtain ⟨W10, hW10⟩ : ∃ W10, W10 = w9.alloc (.cells #[.slice (some ⟨Y.O, 0, none⟩) N Y.cap, .slice ea k' ec] 74) := ⟨_, rfl⟩
                  have hb10 : Blk W10 w9.heap.size 74 [.slice (some ⟨Y.O, 0, none⟩) N Y.cap, .slice ea k' ec] := by rw [hW10]; exact Blk.new w9 74 _
                  have hk910 : Keeps (fun _ => False) w9 W10 := by rw [hW10]; exact (Keeps.refl _ _).alloc _
                  have hsub : ∀ h ∈ l1, h ∈ lc := hless2.sub
                  have hin2 : ∀ h ∈ l2, h ∈ lc := fun h hh => hsub h (hre2.sub.1 h hh)
                  have hin3 : ∀ h ∈ gone2, h ∈ lc := fun h hh => hsub h (hre2.sub.2.1 h hh)
                  have hbm10 := (hk9.trans hk910).blk HDA8.out.box id
                  obtain ⟨hda12, hra12⟩ := HDA8.out.set (D' := D3) HRA8.out HBM.out (hk9.trans hk910) (hY.quiet hk910) hov (hk910.own' hHd.row (fun _ _ => id)) (fun h hh => by
                    rcases List.mem_cons.1 hh with rfl | hh
                    · exact HIN.out.b
                    · exact HDA8.out.rd h (hin2 h hh))
                  obtain ⟨hbz, hkz⟩ := st2 hbm10 (.slice (some ⟨Y.O, 0, none⟩) N Y.cap) (.slice ea k' ec)
                  have hk712 := ((HK8.out.trans (hk9.trans hk910)).mono (S' := fun k => k = w3.heap.size) fun _ _ h => h.elim).trans hkz
                  have hrow1 := (HK8.out.trans (hk9.trans hk910)).own' HS8.out (fun _ _ => id)
                  have hrow1' := hkz.own' hrow1 fun g hg e => own_ne_blk hbm10 hrow1 (by decide) ((show g = w3.heap.size from e) ▸ hg)
                  have hrow2' := hkz.own' (hk910.own' hrow2 (fun _ _ => id)) fun g hg e => own_ne_blk hbm10 (hk910.own' hrow2 (fun _ _ => id)) (by decide) ((show g = w3.heap.size from e) ▸ hg)
                  have HSM := Lib.hid (rsame_any (.slice sa ng sc) (.slice ga ng2 gc) gone gone2 _ ⟨own_low hrow1' (Nat.zero_le _), fun h hh => by
                      have h1 := ((HGR.out h hh).1.keep (HK8.out.trans (hk9.trans hk910)) (fun _ _ => id) (fun _ _ => id))
                      exact (h1.keep hkz (fun g hg e => own_ne_blk hbm10 h1.k (by decide) ((show g = w3.heap.size from e) ▸ hg)) (fun g hg e => own_ne_blk hbm10 h1.v (by decide) ((show g = w3.heap.size from e) ▸ hg))).itb, fun h hh => by
                      have h1 := ((HLS.out.inv HRA6.out.inv).1.good h (HRE.out.sub.2.1 h hh)).1
                      exact ⟨by have := h1.k2; omega, by have := h1.v2; omega⟩, by
                      have h1 := HRE.out.sub.2.2.2
                      have h2 := HLS.out.len
                      have h3 := HRA6.out.len
                      omega⟩ ⟨own_low hrow2' (Nat.zero_le _), fun h hh => (HDA8.out.rd h (hin3 h hh)).quiet hda12.keeps, fun h hh => by
                      have h1 := (HIV.out.good h (hin3 h hh)).1
                      exact ⟨by have := h1.k2; omega, by have := h1.v2; omega⟩, by
                      have h1 := hre2.sub.2.2.2
                      have h2 := hless2.len
                      have h3 := HLL.out
                      omega⟩)
                  have HEQ := Lib.hid (al_its hg1)
                  have HF : Hid (∀ W, Keeps (fun _ => False) (((W10.setCell ⟨w3.heap.size, 0, none⟩ (.slice (some ⟨Y.O, 0, none⟩) N Y.cap)).setCell ⟨w3.heap.size, 1, none⟩ (.slice ea k' ec))) W → RdI w w1 N w3.heap.size L.B (t + 1) W) := by
                    refine Lib.hid (fun W hW => ⟨K, Y, _, D3, x :: hs2, ⟨it, r2, cls (it.chg : Int), .slice ka it.key.length kc, .slice va it.val.length vc⟩ :: l2, HB.out, ?_, HOW.out, hda12.quiet hW, ?_, ?_, ?_⟩)
                    · exact hra12.quiet hW
                    · rw [al_cons, al_cons, hg2]
                      unfold akey
                      rw [HXI.out, HXC.out, show x.ch = r2 by omega]
                    · have h1 := HLS.out.inv HRA6.out.inv
                      have h2 := HRE.out.inv h1.1
                      rw [(h2.ok.give (cls_lt _) HGS.out).2, HRE.out.sub.2.2.1, h1.2, HDN.out]
                    · have h1 := hre2.sub.2.2.2
                      have h2 := hless2.len
                      have h3 := HLL.out
                      rw [List.length_cons]
                      omega
                  unfold RSamP at HSM
                  have y0 := hbm10.cell (i := 0) rfl
                  have y1 := hbm10.cell (i := 1) rfl
                  have f0 := hbm10.free 0
                  have f1 := hbm10.free 1
                  have q0 := hb10.cell (i := 0) rfl
                  have q1 := hb10.cell (i := 1) rfl
                  clear hless2 hre2 hgs2 hY hHd hrow2 hk9 hov hal1 hg1 hg2 hr2 hk' hng2 hsub hin2 hin3 hbm10 hda12 hra12 hbz hkz hk712 hrow1 hrow1' hrow2' hk910 hb10 HRP z1 z2 z3 z4 z5 z6
                  go_upto_region 27 with fail
                  rw [← hW10]
                  clear hW10
                  go_wp2_with fail
                  refine HSM.out.mono ?_
                  rintro e w13 ⟨bb, rfl, hk13, hbb⟩
                  obtain rfl := hbb.2 HEQ.out
                  have HFF := Lib.hid (HF.out _ hk13)
                  clear hk13 hbb HSM HF
                  go_wp2_with fail
                  go_roundw
                  case rel => exact ⟨t + 1, by omega, by omega, by go_num, HFF.out⟩
                  case measure => simp [intOf]; omega
              · as_aux_lemma => -- Get
                have hb6 := HB6.out
                have x0 := hb6.cell (i := 0) rfl
                clear hb6
                rcases HZ.out with ⟨hz, hno⟩ | ⟨xs, y, ys, hxs, hyk, hz⟩
                · subst hz
                  obtain rfl : no = 4 := by
                    rcases HZN.out with ⟨_, h⟩ | ⟨h, _⟩
                    · exact h
                    · omega
                  have HRG := Lib.hid (get_gone K D hs it.key _ w6 HRA6.out (al_keys HAL.out hno) HIN.out.kb HIN.out.kl HRD6.out.itb.k)
                  unfold RL.ptr PeekN zItemV at HRG
                  rw [HB.out] at HRG
                  clear hno
                  go_wp2_with fail
                  refine HRG.out.mono ?_
                  rintro e w7 ⟨rfl, hk7⟩
                  go_upto_region 32 with fail
                  obtain ⟨w9, hw9⟩ : ∃ w9, w9 = w7.alloc (.cells #[.slice none 0 0, .slice none 0 0, .int .u32 0, .int .u32 0, .int .u64 0, .bool false] 64) := ⟨_, rfl⟩
                  have hk9 : Keeps (fun _ => False) w6 w9 := by rw [hw9]; exact hk7.alloc _
                  have HF : Hid (∀ W, Keeps (fun _ => False) w9 W → RdI w w1 N w3.heap.size L.B (t + 1) W) := Lib.hid (fun W hW => ⟨K, X1, _, D, hs, lc, HB.out, HRA6.out.quiet (hk9.trans hW), HOW.out, HDA6.out.quiet (hk9.trans hW), HAL.out, HDN.out, by have := HLL.out; omega⟩)
                  have HC9 : Hid (∀ W, Keeps (fun _ => False) w9 W → True ∧ True) := Lib.hid (fun _ _ => ⟨trivial, trivial⟩)
                  rw [← hw9]
                  clear hw9 hk9 hk7 HRG x0
                  refine wp_region_keeps w9 (by kernel_rfl) (by kernel_rfl) (Keeps.refl _ _) ?_
                  iterate 18 (
                    first
                    | go_big_quiet_skip
                    | (go_big_quiet_want; go_big_quiet_op; go_big_quiet_on)
                    | (go_big_quiet_want
                       apply Exists.intro
                       refine ⟨fun W hW => ?_, ?_⟩
                       · (obtain ⟨_, _⟩ := HC9.out W hW
                          go_simp
                          first
                          | done
                          | rfl
                          | fail)
                       go_big_quiet_on
                       simp only [Act.put, List.setIfInBounds_toArray, List.set_cons_zero, List.set_cons_succ])
                    | fail)
                  refine wpQuiet_nil ?_
                  intro w10 hw10
                  go_wp2_with fail
                  go_roundw
                  case rel => exact ⟨t + 1, by omega, by omega, by go_num, HF.out _ hw10⟩
                  case measure => simp [intOf]; omega
                · obtain ⟨p, hp⟩ : ∃ p, p = xs.length := ⟨_, rfl⟩
                  rw [← hp] at hz
                  subst hz
                  obtain rfl : no = 0 := by
                    rcases HZN.out with ⟨h, _⟩ | ⟨_, h⟩
                    · omega
                    · exact h
                  obtain ⟨xs', y', ys', hhs, e1, e2, e3⟩ := HMS.out xs ys y hxs
                  have HRT := Lib.hid (get_there K D xs' ys' y' (.slice ka' it.key.length kc') w6 (hhs ▸ HRA6.out) (by rw [akey_it e2, hyk]; exact HRD6.out.itb.k))
                  unfold GetP at HRT
                  unfold RL.ptr at HRT
                  rw [HB.out] at HRT
                  have hp0 : (0 : Int) ≤ (p : Int) := by omega
                  have hpq : p < q := by rw [HQ.out, hxs, hp]; simp
                  have hpq' : (p : Int) < (q : Int) := by omega
                  have hyl : lc[p]? = some y := by rw [hxs, hp]; simp
                  have HYL := Lib.hid hyl
                  have HP := Lib.hid hp
                  have HXS := Lib.hid hxs
                  have HE1 := Lib.hid e1
                  have HE2 := Lib.hid e2
                  have HE3 := Lib.hid e3
                  have HHS := Lib.hid hhs
                  clear hp hxs hyk hhs e1 e2 e3 hyl
                  go_wp2_with fail
                  refine HRT.out.mono ?_
                  rintro e w7 ⟨kv2, vv2, rfl, hrd7, hra7, hk7⟩
                  have hda7 := HDA6.out.real HRA6.out (fun k hk => Nat.le_trans HK1.out.size (HOW.out k hk)) hk7
                  obtain ⟨k2a, k2c, hk2a, _⟩ := own_bytes hrd7.k
                  obtain ⟨v2a, v2c, hv2a, _⟩ := own_bytes hrd7.v
                  have HRD7 := Lib.hid hrd7
                  have HRA7 := Lib.hid hra7
                  have HDA7 := Lib.hid hda7
                  clear hrd7 hra7 hda7 hk7
                  subst hk2a hv2a
                  unfold IT.agg
                  go_upto_region 32 with fail
                  obtain ⟨w9, hw9⟩ : ∃ w9, w9 = w7.alloc (.cells #[.slice k2a y'.it.key.length k2c, .slice v2a y'.it.val.length v2c, .int .u32 y'.it.fg, .int .u32 y'.it.ex, .int .u64 y'.it.sq, .bool y'.it.dt] 64) := ⟨_, rfl⟩
                  have hb9 : Blk w9 w7.heap.size 64 [.slice k2a y'.it.key.length k2c, .slice v2a y'.it.val.length v2c, .int .u32 y'.it.fg, .int .u32 y'.it.ex, .int .u64 y'.it.sq, .bool y'.it.dt] := by rw [hw9]; exact Blk.new w7 64 _
                  have hk9 : Keeps (fun _ => False) w7 w9 := by rw [hw9]; exact (Keeps.refl _ _).alloc _
                  have HRA9 := Lib.hid (HRA7.out.quiet hk9)
                  have HDA9 := Lib.hid (HDA7.out.quiet hk9)
                  have hhd9 := HDA9.out.hd HIV.out HDN.out (by have := HLL.out; omega)
                  obtain ⟨g9, d9, hg9, _, hc9⟩ := hhd9.at HYL.out
                  injection hg9 with hg9 _ hg9'
                  subst hg9 hg9'
                  have hyr := hhd9.rd y (List.mem_of_getElem? HYL.out)
                  have hyo := (hhd9.ok y (List.mem_of_getElem? HYL.out)).1
                  obtain ⟨⟨yk, ykc, hyk, _⟩, ⟨yv, yvc, hyv, _⟩⟩ := id hyr
                  have HSA : Hid (∀ W, Keeps (fun _ => False) w9 W → Calls Tryd.prog 44 #[.agg #[.slice k2a y'.it.key.length k2c, .slice v2a y'.it.val.length v2c, .int .u32 y'.it.fg, .int .u32 y'.it.ex, .int .u64 y'.it.sq, .bool y'.it.dt], .agg #[.slice yk y.it.key.length ykc, .slice yv y.it.val.length yvc, .int .u32 y.it.fg, .int .u32 y.it.ex, .int .u64 y.it.sq, .bool y.it.dt]] W (BoolP true W)) := Lib.hid (fun W hW => by
                    have e1 := akey_it HE2.out
                    have h0 := same_any y'.it y.it (.slice k2a y'.it.key.length k2c) (.slice v2a y'.it.val.length v2c) y.kv y.vv W ((HRD7.out.itb.quiet (hk9.trans hW))) (hyr.quiet hW) (by rw [e1]; have := hyo.k2; omega) (by rw [e1]; have := hyo.v2; omega) (by have := hyo.k2; omega) (by have := hyo.v2; omega)
                    rw [show sameI y'.it y.it = true from sameI_iff.2 e1, hyk, hyv] at h0
                    exact h0)
                  have HC9 : Hid (∀ W, Keeps (fun _ => False) w9 W → W.cell? ⟨w7.heap.size, 0, none⟩ = some (.slice k2a y'.it.key.length k2c) ∧ W.cell? ⟨w7.heap.size, 1, none⟩ = some (.slice v2a y'.it.val.length v2c) ∧ W.cell? ⟨w7.heap.size, 2, none⟩ = some (.int .u32 y'.it.fg) ∧ W.cell? ⟨w7.heap.size, 3, none⟩ = some (.int .u32 y'.it.ex) ∧ W.cell? ⟨w7.heap.size, 4, none⟩ = some (.int .u64 y'.it.sq) ∧ W.cell? ⟨w7.heap.size, 5, none⟩ = some (.bool y'.it.dt) ∧
                      W.cell? ⟨w3.heap.size, 1, none⟩ = some (.slice (some ⟨g9, 0, none⟩) q dc) ∧
                      W.cell? ⟨g9, p * 8, none⟩ = some (.slice yk y.it.key.length ykc) ∧ W.cell? ⟨g9, p * 8 + 1, none⟩ = some (.slice yv y.it.val.length yvc) ∧ W.cell? ⟨g9, p * 8 + 2, none⟩ = some (.int .u32 y.it.fg) ∧ W.cell? ⟨g9, p * 8 + 3, none⟩ = some (.int .u32 y.it.ex) ∧ W.cell? ⟨g9, p * 8 + 4, none⟩ = some (.int .u64 y.it.sq) ∧ W.cell? ⟨g9, p * 8 + 5, none⟩ = some (.bool y.it.dt)) := Lib.hid (fun W hW => by
                    have h1 := hW.blk hb9 id
                    have h2 := hW.blk HDA9.out.box id
                    rw [← HQ.out] at h2
                    exact ⟨h1.cell (i := 0) rfl, h1.cell (i := 1) rfl, h1.cell (i := 2) rfl, h1.cell (i := 3) rfl, h1.cell (i := 4) rfl, h1.cell (i := 5) rfl, h2.cell (i := 1) rfl, by have := hc9 W hW 0 _ rfl; rw [hyk] at this; simpa using this, by have := hc9 W hW 1 _ rfl; rw [hyv] at this; exact this, hc9 W hW 2 _ rfl, hc9 W hW 3 _ rfl, hc9 W hW 4 _ rfl, hc9 W hW 5 _ rfl⟩)
                  rw [← hw9]
                  clear hw9 hb9 hk9 hhd9 hc9 hyr hyo hyk hyv HRT x0
                  refine wp_region_keeps w9 (by kernel_rfl) (by kernel_rfl) (Keeps.refl _ _) ?_
                  iterate 18 (
                    first
                    | go_big_quiet_skip
                    | (go_big_quiet_want; go_big_quiet_op; go_big_quiet_on)
                    | (go_big_quiet_want
                       apply Exists.intro
                       refine ⟨fun W hW => ?_, ?_⟩
                       · (obtain ⟨a0, a1, a2, a3, a4, a5, b1, d0, d1, d2, d3, d4, d5⟩ := HC9.out W hW
                          go_simp
                          first
                          | done
                          | rfl
                          | (refine (HSA.out W hW).mono ?_; rintro e w16 ⟨rfl, hk16⟩; exact ⟨rfl, hW.trans hk16⟩)
                          | fail)
                       go_big_quiet_on
                       simp only [Act.put, List.setIfInBounds_toArray, List.set_cons_zero, List.set_cons_succ])
                    | fail)
                  refine wpQuiet_nil ?_
                  intro w10 hw10
                  have HRA10 := Lib.hid (HRA9.out.quiet hw10)
                  have HDA10 := Lib.hid (HDA9.out.quiet hw10)
                  have hbx := HDA10.out.box
                  rw [← HQ.out] at hbx
                  have y0 := hbx.cell (i := 0) rfl
                  have y1 := hbx.cell (i := 1) rfl
                  have HRO : Hid (Calls Tryd.prog 45 #[.agg #[.slice (some ⟨X1.O, 0, none⟩) N X1.cap, .slice (some ⟨g9, 0, none⟩) q dc], .int .i64 (p : Int)] w10 (fun e w' => ∃ (vz : Value), e = .returned (.agg #[.slice (some ⟨X1.O, 0, none⟩) N X1.cap, vz]) ∧ w'.ownsRow 0 86 8 vz (y :: (xs ++ ys)).length (heldC (y :: (xs ++ ys))) ∧ Keeps (fun _ => False) w10 w')) := Lib.hid (by
                    have h0 := rtouch_any (some ⟨X1.O, 0, none⟩) N X1.cap (.slice (some ⟨g9, 0, none⟩) q dc) xs ys y w10 (by rw [← HXS.out, HQ.out]; exact HDA10.out.hd HIV.out HDN.out (by have := HLL.out; omega))
                    rw [← HP.out] at h0
                    refine h0.mono ?_
                    rintro e w' ⟨vz, rfl, h2, h3⟩
                    exact ⟨vz, rfl, h2.row, h3⟩)
                  clear hbx hw10
                  go_wp2_with fail
                  refine HRO.out.mono ?_
                  rintro e w8 ⟨vz, rfl, hrz, hk8⟩
                  obtain ⟨ea, ec, hez⟩ := own_formQ hrz
                  obtain ⟨k', hk'⟩ : ∃ k', k' = (y :: (xs ++ ys)).length := ⟨_, rfl⟩
                  rw [← hk'] at hez
                  subst hez
                  have hb8 := hk8.blk HDA10.out.box id
                  have y0 := hb8.cell (i := 0) rfl
                  have y1 := hb8.cell (i := 1) rfl
                  have f0 := hb8.free 0
                  have f1 := hb8.free 1
                  obtain ⟨hda9, hra9⟩ := HDA10.out.set (Y := X1) (D' := D) (l' := y :: (xs ++ ys)) HRA10.out HBM.out hk8 (HDA10.out.rg.quiet hk8) (.inl rfl) hrz (fun h hh => HDA10.out.rd h (by rw [HXS.out]; exact mem_mid.2 (List.mem_cons.1 hh)))
                  have HF : Hid (RdI w w1 N w3.heap.size L.B (t + 1) _) := Lib.hid ⟨K, X1, _, _, y' :: (xs' ++ ys'), y :: (xs ++ ys), HB.out, hra9, HOW.out, hda9, by rw [al_cons, al_cons, al_app, al_app, HE1.out, HE3.out, HE2.out], HDN.out, by
                    have h1 := HLL.out
                    rw [HXS.out] at h1
                    simp at h1 ⊢
                    omega⟩
                  clear hda9 hra9 hb8 hrz hk8 HRO hk'
                  go_wp2_with fail
                  go_roundw
                  case rel => exact ⟨t + 1, by omega, by omega, by go_num, HF.out⟩
                  case measure => simp [intOf]; omega
              · as_aux_lemma => -- Peek
                have hb6 := HB6.out
                have x0 := hb6.cell (i := 0) rfl
                clear hb6
                rcases HZ.out with ⟨hz, hno⟩ | ⟨xs, y, ys, hxs, hyk, hz⟩
                · subst hz
                  obtain rfl : no = 4 := by
                    rcases HZN.out with ⟨_, h⟩ | ⟨h, _⟩
                    · exact h
                    · omega
                  have HRG := Lib.hid (peek_gone K D hs it.key _ w6 HRA6.out (al_keys HAL.out hno) HIN.out.kb HIN.out.kl HRD6.out.itb.k)
                  unfold RL.ptr PeekN zItemV at HRG
                  rw [HB.out] at HRG
                  clear hno
                  go_wp2_with fail
                  refine HRG.out.mono ?_
                  rintro e w7 ⟨rfl, hk7⟩
                  go_upto_region 38 with fail
                  obtain ⟨w9, hw9⟩ : ∃ w9, w9 = w7.alloc (.cells #[.slice none 0 0, .slice none 0 0, .int .u32 0, .int .u32 0, .int .u64 0, .bool false] 64) := ⟨_, rfl⟩
                  have hk9 : Keeps (fun _ => False) w6 w9 := by rw [hw9]; exact hk7.alloc _
                  have HF : Hid (∀ W, Keeps (fun _ => False) w9 W → RdI w w1 N w3.heap.size L.B (t + 1) W) := Lib.hid (fun W hW => ⟨K, X1, _, D, hs, lc, HB.out, HRA6.out.quiet (hk9.trans hW), HOW.out, HDA6.out.quiet (hk9.trans hW), HAL.out, HDN.out, by have := HLL.out; omega⟩)
                  have HC9 : Hid (∀ W, Keeps (fun _ => False) w9 W → True ∧ True) := Lib.hid (fun _ _ => ⟨trivial, trivial⟩)
                  rw [← hw9]
                  clear hw9 hk9 hk7 HRG x0
                  refine wp_region_keeps w9 (by kernel_rfl) (by kernel_rfl) (Keeps.refl _ _) ?_
                  iterate 18 (
                    first
                    | go_big_quiet_skip
                    | (go_big_quiet_want; go_big_quiet_op; go_big_quiet_on)
                    | (go_big_quiet_want
                       apply Exists.intro
                       refine ⟨fun W hW => ?_, ?_⟩
                       · (obtain ⟨_, _⟩ := HC9.out W hW
                          go_simp
                          first
                          | done
                          | rfl
                          | fail)
                       go_big_quiet_on
                       simp only [Act.put, List.setIfInBounds_toArray, List.set_cons_zero, List.set_cons_succ])
                    | fail)
                  refine wpQuiet_nil ?_
                  intro w10 hw10
                  go_wp2_with fail
                  go_roundw
                  case rel => exact ⟨t + 1, by omega, by omega, by go_num, HF.out _ hw10⟩
                  case measure => simp [intOf]; omega
                · obtain ⟨p, hp⟩ : ∃ p, p = xs.length := ⟨_, rfl⟩
                  rw [← hp] at hz
                  subst hz
                  obtain rfl : no = 0 := by
                    rcases HZN.out with ⟨h, _⟩ | ⟨_, h⟩
                    · omega
                    · exact h
                  obtain ⟨xs', y', ys', hhs, e1, e2, e3⟩ := HMS.out xs ys y hxs
                  have HRT := Lib.hid (peek_there K D hs y' (.slice ka' it.key.length kc') w6 HRA6.out (by rw [hhs]; simp) (by rw [akey_it e2, hyk]; exact HRD6.out.itb.k))
                  unfold PeekP at HRT
                  unfold RL.ptr at HRT
                  rw [HB.out] at HRT
                  have hp0 : (0 : Int) ≤ (p : Int) := by omega
                  have hpq : p < q := by rw [HQ.out, hxs, hp]; simp
                  have hpq' : (p : Int) < (q : Int) := by omega
                  have hyl : lc[p]? = some y := by rw [hxs, hp]; simp
                  have HYL := Lib.hid hyl
                  have HP := Lib.hid hp
                  have HXS := Lib.hid hxs
                  have HE1 := Lib.hid e1
                  have HE2 := Lib.hid e2
                  have HE3 := Lib.hid e3
                  have HHS := Lib.hid hhs
                  clear hp hxs hyk hhs e1 e2 e3 hyl
                  go_wp2_with fail
                  refine HRT.out.mono ?_
                  rintro e w7 ⟨kv2, vv2, rfl, hrd7, hk7⟩
                  have hra7 := HRA6.out.quiet hk7
                  have hda7 := HDA6.out.quiet hk7
                  obtain ⟨k2a, k2c, hk2a, _⟩ := own_bytes hrd7.k
                  obtain ⟨v2a, v2c, hv2a, _⟩ := own_bytes hrd7.v
                  have HRD7 := Lib.hid hrd7
                  have HRA7 := Lib.hid hra7
                  have HDA7 := Lib.hid hda7
                  clear hrd7 hra7 hda7 hk7
                  subst hk2a hv2a
                  unfold IT.agg
                  go_upto_region 38 with fail
                  obtain ⟨w9, hw9⟩ : ∃ w9, w9 = w7.alloc (.cells #[.slice k2a y'.it.key.length k2c, .slice v2a y'.it.val.length v2c, .int .u32 y'.it.fg, .int .u32 y'.it.ex, .int .u64 y'.it.sq, .bool y'.it.dt] 64) := ⟨_, rfl⟩
                  have hb9 : Blk w9 w7.heap.size 64 [.slice k2a y'.it.key.length k2c, .slice v2a y'.it.val.length v2c, .int .u32 y'.it.fg, .int .u32 y'.it.ex, .int .u64 y'.it.sq, .bool y'.it.dt] := by rw [hw9]; exact Blk.new w7 64 _
                  have hk9 : Keeps (fun _ => False) w7 w9 := by rw [hw9]; exact (Keeps.refl _ _).alloc _
                  have HRA9 := Lib.hid (HRA7.out.quiet hk9)
                  have HDA9 := Lib.hid (HDA7.out.quiet hk9)
                  have hhd9 := HDA9.out.hd HIV.out HDN.out (by have := HLL.out; omega)
                  obtain ⟨g9, d9, hg9, _, hc9⟩ := hhd9.at HYL.out
                  injection hg9 with hg9 _ hg9'
                  subst hg9 hg9'
                  have hyr := hhd9.rd y (List.mem_of_getElem? HYL.out)
                  have hyo := (hhd9.ok y (List.mem_of_getElem? HYL.out)).1
                  obtain ⟨⟨yk, ykc, hyk, _⟩, ⟨yv, yvc, hyv, _⟩⟩ := id hyr
                  have HSA : Hid (∀ W, Keeps (fun _ => False) w9 W → Calls Tryd.prog 44 #[.agg #[.slice k2a y'.it.key.length k2c, .slice v2a y'.it.val.length v2c, .int .u32 y'.it.fg, .int .u32 y'.it.ex, .int .u64 y'.it.sq, .bool y'.it.dt], .agg #[.slice yk y.it.key.length ykc, .slice yv y.it.val.length yvc, .int .u32 y.it.fg, .int .u32 y.it.ex, .int .u64 y.it.sq, .bool y.it.dt]] W (BoolP true W)) := Lib.hid (fun W hW => by
                    have e1 := akey_it HE2.out
                    have h0 := same_any y'.it y.it (.slice k2a y'.it.key.length k2c) (.slice v2a y'.it.val.length v2c) y.kv y.vv W ((HRD7.out.itb.quiet (hk9.trans hW))) (hyr.quiet hW) (by rw [e1]; have := hyo.k2; omega) (by rw [e1]; have := hyo.v2; omega) (by have := hyo.k2; omega) (by have := hyo.v2; omega)
                    rw [show sameI y'.it y.it = true from sameI_iff.2 e1, hyk, hyv] at h0
                    exact h0)
                  have HC9 : Hid (∀ W, Keeps (fun _ => False) w9 W → W.cell? ⟨w7.heap.size, 0, none⟩ = some (.slice k2a y'.it.key.length k2c) ∧ W.cell? ⟨w7.heap.size, 1, none⟩ = some (.slice v2a y'.it.val.length v2c) ∧ W.cell? ⟨w7.heap.size, 2, none⟩ = some (.int .u32 y'.it.fg) ∧ W.cell? ⟨w7.heap.size, 3, none⟩ = some (.int .u32 y'.it.ex) ∧ W.cell? ⟨w7.heap.size, 4, none⟩ = some (.int .u64 y'.it.sq) ∧ W.cell? ⟨w7.heap.size, 5, none⟩ = some (.bool y'.it.dt) ∧
                      W.cell? ⟨w3.heap.size, 1, none⟩ = some (.slice (some ⟨g9, 0, none⟩) q dc) ∧
                      W.cell? ⟨g9, p * 8, none⟩ = some (.slice yk y.it.key.length ykc) ∧ W.cell? ⟨g9, p * 8 + 1, none⟩ = some (.slice yv y.it.val.length yvc) ∧ W.cell? ⟨g9, p * 8 + 2, none⟩ = some (.int .u32 y.it.fg) ∧ W.cell? ⟨g9, p * 8 + 3, none⟩ = some (.int .u32 y.it.ex) ∧ W.cell? ⟨g9, p * 8 + 4, none⟩ = some (.int .u64 y.it.sq) ∧ W.cell? ⟨g9, p * 8 + 5, none⟩ = some (.bool y.it.dt)) := Lib.hid (fun W hW => by
                    have h1 := hW.blk hb9 id
                    have h2 := hW.blk HDA9.out.box id
                    rw [← HQ.out] at h2
                    exact ⟨h1.cell (i := 0) rfl, h1.cell (i := 1) rfl, h1.cell (i := 2) rfl, h1.cell (i := 3) rfl, h1.cell (i := 4) rfl, h1.cell (i := 5) rfl, h2.cell (i := 1) rfl, by have := hc9 W hW 0 _ rfl; rw [hyk] at this; simpa using this, by have := hc9 W hW 1 _ rfl; rw [hyv] at this; exact this, hc9 W hW 2 _ rfl, hc9 W hW 3 _ rfl, hc9 W hW 4 _ rfl, hc9 W hW 5 _ rfl⟩)
                  rw [← hw9]
                  clear hw9 hb9 hk9 hhd9 hc9 hyr hyo hyk hyv HRT x0
                  refine wp_region_keeps w9 (by kernel_rfl) (by kernel_rfl) (Keeps.refl _ _) ?_
                  iterate 18 (
                    first
                    | go_big_quiet_skip
                    | (go_big_quiet_want; go_big_quiet_op; go_big_quiet_on)
                    | (go_big_quiet_want
                       apply Exists.intro
                       refine ⟨fun W hW => ?_, ?_⟩
                       · (obtain ⟨a0, a1, a2, a3, a4, a5, b1, d0, d1, d2, d3, d4, d5⟩ := HC9.out W hW
                          go_simp
                          first
                          | done
                          | rfl
                          | (refine (HSA.out W hW).mono ?_; rintro e w16 ⟨rfl, hk16⟩; exact ⟨rfl, hW.trans hk16⟩)
                          | fail)
                       go_big_quiet_on
                       simp only [Act.put, List.setIfInBounds_toArray, List.set_cons_zero, List.set_cons_succ])
                    | fail)
                  refine wpQuiet_nil ?_
                  intro w10 hw10
                  have HF : Hid (RdI w w1 N w3.heap.size L.B (t + 1) w10) := Lib.hid ⟨K, X1, _, D, hs, lc, HB.out, HRA9.out.quiet hw10, HOW.out, HDA9.out.quiet hw10, HAL.out, HDN.out, by have := HLL.out; omega⟩
                  clear hw10
                  go_wp2_with fail
                  go_roundw
                  case rel => exact ⟨t + 1, by omega, by omega, by go_num, HF.out⟩
                  case measure => simp [intOf]; omega
              · as_aux_lemma => -- Remove
                have hb6 := HB6.out
                have x0 := hb6.cell (i := 0) rfl
                clear hb6
                rcases HZ.out with ⟨hz, hno⟩ | ⟨xs, y, ys, hxs, hyk, hz⟩
                · subst hz
                  obtain rfl : no = 4 := by
                    rcases HZN.out with ⟨_, h⟩ | ⟨h, _⟩
                    · exact h
                    · omega
                  have HRG := Lib.hid (remove_gone K D hs it.key _ w6 HRA6.out (al_keys HAL.out hno) HIN.out.kb HIN.out.kl HRD6.out.itb.k)
                  unfold RL.ptr at HRG
                  rw [HB.out] at HRG
                  clear hno
                  go_wp2_with fail
                  refine HRG.out.mono ?_
                  rintro e w7 ⟨rfl, hk7⟩
                  have HF : Hid (RdI w w1 N w3.heap.size L.B (t + 1) w7) := Lib.hid ⟨K, X1, _, D, hs, lc, HB.out, HRA6.out.quiet hk7, HOW.out, HDA6.out.quiet hk7, HAL.out, HDN.out, by have := HLL.out; omega⟩
                  clear hk7 HRG x0
                  go_wp2_with fail
                  go_roundw
                  case rel => exact ⟨t + 1, by omega, by omega, by go_num, HF.out⟩
                  case measure => simp [intOf]; omega
                · obtain ⟨p, hp⟩ : ∃ p, p = xs.length := ⟨_, rfl⟩
                  rw [← hp] at hz
                  subst hz
                  obtain rfl : no = 0 := by
                    rcases HZN.out with ⟨h, _⟩ | ⟨_, h⟩
                    · omega
                    · exact h
                  obtain ⟨xs', y', ys', hhs, e1, e2, e3⟩ := HMS.out xs ys y hxs
                  have HRT := Lib.hid (remove_there K D xs' ys' y' (.slice ka' it.key.length kc') w6 (hhs ▸ HRA6.out) (by rw [akey_it e2, hyk]; exact HRD6.out.itb.k))
                  unfold RL.ptr at HRT
                  rw [HB.out] at HRT
                  have hp0 : (0 : Int) ≤ (p : Int) := by omega
                  have HP := Lib.hid hp
                  have HXS := Lib.hid hxs
                  have HE1 := Lib.hid e1
                  have HE2 := Lib.hid e2
                  have HE3 := Lib.hid e3
                  clear hp hxs hyk hhs e1 e2 e3
                  go_wp2_with fail
                  refine HRT.out.mono ?_
                  rintro e w7 ⟨rfl, hra7, hk7⟩
                  have hda7 := HDA6.out.real HRA6.out (fun k hk => Nat.le_trans HK1.out.size (HOW.out k hk)) hk7
                  have HRA7 := Lib.hid hra7
                  have HDA7 := Lib.hid hda7
                  have hbx := hda7.box
                  have y0 := hbx.cell (i := 0) rfl
                  have y1 := hbx.cell (i := 1) rfl
                  have HRO : Hid (Calls Tryd.prog 48 #[.agg #[.slice (some ⟨X1.O, 0, none⟩) N X1.cap, .slice da q dc], .int .i64 (p : Int)] w7 (fun e w' => ∃ (Z : RG) (vz : Value), e = .returned (.agg #[.slice (some ⟨Z.O, 0, none⟩) N Z.cap, vz]) ∧ RgAt w' Z N (gv (D.less y.ch)) ∧ w'.ownsRow 0 86 8 vz (xs ++ ys).length (heldC (xs ++ ys)) ∧ Keeps (fun _ => False) w7 w' ∧ (Z = X1 ∨ Z.Over N w7.heap.size))) := Lib.hid (by
                    have hI : RInv D (xs ++ y :: ys) := by rw [← HXS.out]; exact HIV.out
                    have h0 := rout_any X1 D hI.ok (.slice da q dc) xs ys y w7 (by rw [HDN.out]; exact hda7.rg) (by rw [← HXS.out, HQ.out]; exact hda7.hd HIV.out HDN.out (by have := HLL.out; omega))
                    rw [HDN.out, ← HP.out] at h0
                    refine h0.mono ?_
                    rintro e w' ⟨Z, vz, rfl, h1, h2, h3, h4⟩
                    rw [took_less hI, HDN.out] at h1
                    rw [HDN.out] at h4 ⊢
                    exact ⟨Z, vz, rfl, h1, h2.row, h3, h4⟩)
                  rw [← HQ.out] at y1
                  clear hra7 hda7 hbx hk7 HRT x0
                  go_wp2_with fail
                  refine HRO.out.mono ?_
                  rintro e w8 ⟨Z, vz, rfl, hZ, hrz, hk8, hoz⟩
                  obtain ⟨ea, ec, hez⟩ := own_formQ hrz
                  obtain ⟨k', hk'⟩ : ∃ k', k' = (xs ++ ys).length := ⟨_, rfl⟩
                  rw [← hk'] at hez
                  subst hez
                  have hb8 := hk8.blk HDA7.out.box id
                  have y0 := hb8.cell (i := 0) rfl
                  have y1 := hb8.cell (i := 1) rfl
                  have f0 := hb8.free 0
                  have f1 := hb8.free 1
                  obtain ⟨hda9, hra9⟩ := HDA7.out.set (D' := D.less y.ch) (l' := xs ++ ys) HRA7.out HBM.out hk8 hZ hoz hrz (fun h hh => HDA7.out.rd h (by rw [HXS.out]; exact mem_mid.2 (.inr hh)))
                  have HF : Hid (RdI w w1 N w3.heap.size L.B (t + 1) _) := Lib.hid ⟨K, Z, _, _, xs' ++ ys', xs ++ ys, HB.out, hra9, HOW.out, by rw [akey_ch HE2.out]; exact hda9, by rw [al_app, al_app, HE1.out, HE3.out], HDN.out, by
                    have h1 := HLL.out
                    rw [HXS.out] at h1
                    simp at h1 ⊢
                    omega⟩
                  clear hda9 hra9 hb8 hZ hoz hrz hk8 HRO hk'
                  go_wp2_with fail
                  go_roundw
                  case rel => exact ⟨t + 1, by omega, by omega, by go_num, HF.out⟩
                  case measure => simp [intOf]; omega
              · as_aux_lemma => -- Clean
                have hb6 := HB6.out
                have x0 := hb6.cell (i := 0) rfl
                clear hb6
                rcases HZ.out with ⟨hz, hno⟩ | ⟨xs, y, ys, hxs, hyk, hz⟩
                · subst hz
                  obtain rfl : no = 4 := by
                    rcases HZN.out with ⟨_, h⟩ | ⟨h, _⟩
                    · exact h
                    · omega
                  have HRG := Lib.hid (clean_gone K D hs it.key _ w6 HRA6.out (al_keys HAL.out hno) HIN.out.kb HIN.out.kl HRD6.out.itb.k)
                  unfold RL.ptr at HRG
                  rw [HB.out] at HRG
                  clear hno
                  go_wp2_with fail
                  refine HRG.out.mono ?_
                  rintro e w7 ⟨rfl, hk7⟩
                  have HF : Hid (RdI w w1 N w3.heap.size L.B (t + 1) w7) := Lib.hid ⟨K, X1, _, D, hs, lc, HB.out, HRA6.out.quiet hk7, HOW.out, HDA6.out.quiet hk7, HAL.out, HDN.out, by have := HLL.out; omega⟩
                  clear hk7 HRG x0
                  go_wp2_with fail
                  go_roundw
                  case rel => exact ⟨t + 1, by omega, by omega, by go_num, HF.out⟩
                  case measure => simp [intOf]; omega
                · obtain ⟨p, hp⟩ : ∃ p, p = xs.length := ⟨_, rfl⟩
                  rw [← hp] at hz
                  subst hz
                  obtain rfl : no = 0 := by
                    rcases HZN.out with ⟨h, _⟩ | ⟨_, h⟩
                    · omega
                    · exact h
                  obtain ⟨xs', y', ys', hhs, e1, e2, e3⟩ := HMS.out xs ys y hxs
                  have HRT := Lib.hid (clean_there K D xs' ys' y' (.slice ka' it.key.length kc') w6 (hhs ▸ HRA6.out) (by rw [akey_it e2, hyk]; exact HRD6.out.itb.k))
                  unfold CleanP at HRT
                  unfold RL.ptr at HRT
                  rw [HB.out] at HRT
                  have hp0 : (0 : Int) ≤ (p : Int) := by omega
                  have HP := Lib.hid hp
                  have HXS := Lib.hid hxs
                  have HE1 := Lib.hid e1
                  have HE2 := Lib.hid e2
                  have HE3 := Lib.hid e3
                  clear hp hxs hyk hhs e1 e2 e3
                  go_wp2_with fail
                  refine HRT.out.mono ?_
                  rintro e w7 ⟨rfl, ⟨y2, g1, g2, g3, hra7⟩, hk7⟩
                  have HG2 : Hid (akey y2 = akey y.clean) := Lib.hid (by unfold akey; rw [g1, g2, g3, akey_it HE2.out, akey_ch HE2.out, akey_cl HE2.out]; rfl)
                  have hda7 := HDA6.out.real HRA6.out (fun k hk => Nat.le_trans HK1.out.size (HOW.out k hk)) hk7
                  have HRA7 := Lib.hid hra7
                  have HDA7 := Lib.hid hda7
                  have hbx := hda7.box
                  have y0 := hbx.cell (i := 0) rfl
                  have y1 := hbx.cell (i := 1) rfl
                  have HRO : Hid (Calls Tryd.prog 50 #[.agg #[.slice (some ⟨X1.O, 0, none⟩) N X1.cap, .slice da q dc], .int .i64 (p : Int)] w7 (fun e w' => ∃ (vz : Value), e = .returned (.agg #[.slice (some ⟨X1.O, 0, none⟩) N X1.cap, vz]) ∧ w'.ownsRow 0 86 8 vz (xs ++ y.clean :: ys).length (heldC (xs ++ y.clean :: ys)) ∧ Keeps (fun _ => False) w7 w')) := Lib.hid (by
                    have h0 := rclean_any (some ⟨X1.O, 0, none⟩) N X1.cap (.slice da q dc) xs ys y w7 (by rw [← HXS.out, HQ.out]; exact hda7.hd HIV.out HDN.out (by have := HLL.out; omega))
                    rw [← HP.out] at h0
                    refine h0.mono ?_
                    rintro e w' ⟨vz, rfl, h2, h3⟩
                    exact ⟨vz, rfl, h2.row, h3⟩)
                  rw [← HQ.out] at y1
                  clear hra7 hda7 hbx hk7 HRT x0 g1 g2 g3
                  go_wp2_with fail
                  refine HRO.out.mono ?_
                  rintro e w8 ⟨vz, rfl, hrz, hk8⟩
                  obtain ⟨ea, ec, hez⟩ := own_formQ hrz
                  obtain ⟨k', hk'⟩ : ∃ k', k' = (xs ++ y.clean :: ys).length := ⟨_, rfl⟩
                  rw [← hk'] at hez
                  subst hez
                  have hb8 := hk8.blk HDA7.out.box id
                  have y0 := hb8.cell (i := 0) rfl
                  have y1 := hb8.cell (i := 1) rfl
                  have f0 := hb8.free 0
                  have f1 := hb8.free 1
                  obtain ⟨hda9, hra9⟩ := HDA7.out.set (Y := X1) (D' := D) (l' := xs ++ y.clean :: ys) HRA7.out HBM.out hk8 (HDA7.out.rg.quiet hk8) (.inl rfl) hrz (fun h hh => by
                    rcases mem_mid.1 hh with rfl | hh
                    · have h1 := HDA7.out.rd y (by rw [HXS.out]; simp)
                      exact ⟨h1.k, h1.v⟩
                    · exact HDA7.out.rd h (by rw [HXS.out]; exact mem_mid.2 (.inr hh)))
                  have HF : Hid (RdI w w1 N w3.heap.size L.B (t + 1) _) := Lib.hid ⟨K, X1, _, _, xs' ++ y2 :: ys', xs ++ y.clean :: ys, HB.out, hra9, HOW.out, hda9, by rw [al_app, al_app, al_cons, al_cons, HE1.out, HE3.out, HG2.out], HDN.out, by
                    have h1 := HLL.out
                    rw [HXS.out] at h1
                    simp at h1 ⊢
                    omega⟩
                  clear hda9 hra9 hb8 hrz hk8 HRO hk'
                  go_wp2_with fail
                  go_roundw
                  case rel => exact ⟨t + 1, by omega, by omega, by go_num, HF.out⟩
                  case measure => simp [intOf]; omega
              · as_aux_lemma => -- Clear
                have HCL := Lib.hid (clear_any K D hs w6 HRA6.out)
                unfold RL.ptr at HCL
                rw [HB.out] at HCL
                go_wp2_with fail
                refine HCL.out.mono ?_
                rintro e w7 ⟨rfl, L2, hLB, hLo, hra7, hk7⟩
                rw [HDN.out] at hra7
                have hda7 := HDA6.out.clear HRA6.out (fun k hk => Nat.le_trans HK1.out.size (HOW.out k hk)) hLo hk7
                have hkw7 : Keeps (fun _ => False) w w7 := hda7.keeps
                have HRA7 := Lib.hid hra7
                have HDA7 := Lib.hid hda7
                have HLB := Lib.hid (hLB.trans HB.out)
                have HLO2 : Hid (∀ k, L2.own k → w1.heap.size ≤ k) := Lib.hid (fun k hk => by
                  rcases hLo k hk with e | e
                  · exact HOW.out k (.inl e)
                  · have h1 := (HRA6.out.lt.1)
                    have h2 := HOW.out K.B (.inl rfl)
                    omega)
                have HN13 := Lib.hid (rnew13_any N hN1 (by have := HN12.out; omega) w7)
                unfold RNew13P at HN13
                clear hra7 hda7 hLB hLo hk7 hkw7 HCL
                go_wp2_with fail
                refine HN13.out.mono ?_
                rintro e w8 ⟨Y, rfl, hY, hov, hk8⟩
                have hb8 := hk8.blk HDA7.out.box id
                have y0 := hb8.cell (i := 0) rfl
                have y1 := hb8.cell (i := 1) rfl
                have f0 := hb8.free 0
                have f1 := hb8.free 1
                obtain ⟨hda9, hra9⟩ := HDA7.out.set (D' := AD.fresh N) (l' := []) (v' := .slice none 0 0) HRA7.out HBM.out hk8 (hY.congr (fun i hi k hk => by
                  rw [gv_zero]
                  show ¬ bitN 0 k = 1
                  unfold bitN
                  simp)) (.inr hov) (World.ownsRow_nil _ _ _ _) (fun h hh => nomatch hh)
                have HF : Hid (RdI w w1 N w3.heap.size L.B (t + 1) _) := Lib.hid ⟨L2, Y, _, _, [], [], HLB.out, hra9, HLO2.out, hda9, rfl, rfl, Nat.zero_le _⟩
                clear hda9 hra9 hb8 hY hov hk8 HN13
                go_wp2_with fail
                go_roundw
                case rel => exact ⟨t + 1, by omega, by omega, by go_num, HF.out⟩
                case measure => simp [intOf]; omega
          · have hlt' : ¬ ((t : Int) < (n : Int)) := by omega
            go_wp2_with fail
            go_meet
            obtain ⟨L', X', v', D', hs, l', h1, h2, h3, h4, h5, h6, h7⟩ := HI.out
            exact ⟨L', X', v', D', hs, l', h1, h2, h3, h4, h5, h6, by omega⟩
      case rest =>
        obtain ⟨L', X', v', D', hs, l', h1, h2, h3, h4, h5, h6, h7⟩ := hcut
        have hi := h2.inv
        obtain ⟨e1, e2, e3⟩ := told_facts hi h5
        have HD := h4.hd (hi.al h5) h6 (by omega)
        have HTD := Lib.hid (told_any L' D' hs l' (some ⟨X'.O, 0, none⟩) N X'.cap v' wc h2 HD e1 e2 e3)
        obtain ⟨va, vc, hv⟩ := HD.form
        subst hv
        have hb := h4.box
        have c0 := hb.cell (i := 0) rfl
        have c1 := hb.cell (i := 1) rfl
        have HKW := Lib.hid h4.keeps
        obtain ⟨q, hq⟩ : ∃ q, q = l'.length := ⟨_, rfl⟩
        rw [← hq] at HTD c1
        unfold RL.ptr BoolP at HTD
        rw [h1] at HTD
        clear h1 h2 h3 h4 h5 h6 h7 hi e1 e2 e3 HD hb hq
        go_wp2_with fail
        refine HTD.out.mono ?_
        rintro e w5 ⟨rfl, hk5⟩
        have HK5 := Lib.hid (HKW.out.trans hk5)
        clear hk5 HTD c0 c1
        go_wp2_with fail
        go_ret
        exact ⟨rfl, HK5.out⟩
theorem ramDoes.walk (pages : Int) (v : Value) (a : Option Addr) (n : Nat) (l : List ROp) (W : World) (hwf : (Lit.int .i64 pages).wf = true) (hr : RopsIn W v a n l) (hT : Tab W) : Calls Tryd.prog 10 #[.int .i64 pages, v] W fun e w' => e = .returned (.bool true) ∧ Below W.heap.size W w' := by
  refine (does_law pages v a n l W hwf hr hT).mono ?_
  rintro e w' ⟨rfl, hk⟩
  exact ⟨rfl, hk.below (fun _ h => h.elim) (Nat.le_refl _)⟩
end Go.Proofs.YthnagihgjenimaaDoor
