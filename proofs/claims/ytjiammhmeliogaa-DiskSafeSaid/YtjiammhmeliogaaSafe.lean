/- DiskSafe, walked. -/
import Derived.Test.YtjiammhmeliogaaSafeL
import Derived.Test.YtjiammhmeliogaaCrash0
namespace Go.Proofs.Ytjiammhmeliogaa
open Go.RowKit
set_option linter.unusedVariables false
set_option linter.unusedSimpArgs false
attribute [local go_sem ↓] exec_load27 exec_new27 exec_alloc27 exec_build27 zeroValue27
attribute [local go_sem] padr_some rowAt_drew hasRow_drew mayRow_drew run_cells27 eq27_self

/-- A block beside all. -/
def Beside (g : Nat) (ds : List (DL × DD)) (rs : List RowT) : Prop := (∀ (i : Nat) (x : DL × DD), ds[i]? = some x → ∀ k, x.1.own k → k ≠ g) ∧ (∀ r : RowT, r ∈ rs → ∀ k, r.v.ownBlock = some k → k ≠ g)
theorem Many.beside {w0 w : World} {ds : List (DL × DD)} {rs : List RowT} (h : Many w0 w ds rs) : Beside w.heap.size ds rs :=
  ⟨fun i x hx k hk => by have := h.lt hx k hk; omega, fun r hr k hk => by have := h.rlt hr k hk; omega⟩
theorem Many.store {w0 w : World} {ds : List (DL × DD)} {rs : List RowT} (h : Many w0 w ds rs) {g : Nat} (hb : Beside g ds rs) (hg : w0.heap.size ≤ g) (k : Nat) (v : Value) : Many w0 (w.setCell ⟨g, k, none⟩ v) ds rs :=
  h.other (S := fun k => k = g) ((Keeps.refl (fun k => k = g) w).store (p := ⟨g, k, none⟩) (.inl rfl) _) (fun i x hx k hk e => hb.1 i x hx k hk e) (fun r hr k hk e => hb.2 r hr k hk e) (fun k e => by rw [e]; exact hg)

theorem own_of_blk {w : World} {g e n : Nat} {cs : List Value} (h : Blk w g e cs) (hn : cs.length = n) (hm : n ≤ maxLen) : w.ownsRow 0 e 1 (.slice (some ⟨g, 0, none⟩) n n) n cs := by
  refine ⟨by simpa using hn, .inr ⟨g, n, cs.toArray, rfl, Nat.zero_le _, h, Nat.le_refl _, hm, by simpa using hn, ?_⟩⟩
  rw [List.take_of_length_le]
  simp [hn]
theorem bools_own {w : World} {base g n c : Nat} {xs : List Bool} (h : w.ownsRow base 4 1 (.slice (some ⟨g, 0, none⟩) n c) n (xs.map Value.bool)) : BoolRow w (some ⟨g, 0, none⟩) n xs := by
  have hl : xs.length = n := by have := h.1; simpa using this
  refine ⟨hl, fun i hi => ⟨g, 0, rfl, (own_heap h rfl).2.1, ?_⟩⟩
  have := h.cells (g := g) rfl i (.bool (xs.getD i false)) (by simp [List.getD_eq_getElem?_getD, List.getElem?_eq_getElem (show i < xs.length by omega)])
  rw [add0] at this
  rw [Nat.zero_add]
  exact this

set_option maxRecDepth 100000 in
set_option maxHeartbeats 4000000 in
theorem safe_law (a : Option Addr) (n c : Nat) (os : List OpT) (ka : Option Addr) (kn kc : Nat) (xs : List Bool) (w : World) (hr : OpRow w.heap.size w a n os) (hn : n ≤ c) (hc : c ≤ maxLen) (hkr : BoolRow w ka kn xs) (hkn : kn ≤ 140737488355328) :
    Calls Try.prog 7 #[.slice a n c, .slice ka kn kc] w fun e w' => e = .returned (.bool true) ∧ Keeps (fun _ => False) w w' := by
  have HKR := Lib.hid hkr
  have HKN := Lib.hid hkn
  have HWO := Lib.hid (fun W (hk : Keeps (fun _ => False) w W) => worn_any a n c os W (show OpRow W.heap.size W a n os from by
    have := hr.keep (Nat.le_refl _) hk (fun _ h => h.elim)
    exact ⟨this.1, fun i o ho => by
      obtain ⟨b, off, h1, h2, h3⟩ := this.2 i o ho
      exact ⟨b, off, h1, Nat.lt_of_lt_of_le h2 hk.size, h3⟩⟩) hn hc)
  clear hr hn hc hkr hkn
  go_enter Try.func7, Try.ntmps7
  go_wp2_with fail
  refine (wakes_any w).mono ?_
  rintro e w1 ⟨rfl, hk1⟩
  have HK1 := Lib.hid hk1
  clear hk1
  go_wp2_with fail
  refine (HWO.out w1 HK1.out).mono ?_
  rintro e w2 ⟨L0, rfl, hd0, ho0, hk0⟩
  have hca := wornD_calm os
  generalize wornD os = D0 at hd0 hca
  have hm := (Many.start w1).more hd0 ho0 hk0
  rw [List.nil_append] at hm
  have HC := Lib.hid hca
  have HPA := Lib.hid (show L0.ptr = .pointer (some ⟨L0.B, 0, none⟩) from rfl)
  obtain ⟨A, hA⟩ : ∃ A, A = L0.B := ⟨_, rfl⟩
  rw [HPA.out, ← hA]
  rw [← hA] at HPA
  have hn6 := hca.n
  have hp120 := hca.p
  have hops := hca.ops
  have hh := hm.held (i := 0) rfl ⟨hca.dead, hca.fails⟩ (by omega) HPA.out
  have HH := Lib.hid hh
  clear hd0 ho0 hk0 hca hm hA hh
  go_wp2_with fail
  refine HH.out.mono ?_
  rintro e w3 ⟨na, nc, rfl, hm⟩
  rw [hn6] at hm ⊢
  have hm' : Many w1 w3 [(L0, { D0 with n := 6, ops := D0.ops + (6 : Nat) })] [⟨27, 64, .slice na 6 nc, 6, flat D0.holds 6⟩] := hm
  clear hm
  obtain ⟨D, hD⟩ : ∃ D : DD, D = { D0 with n := 6, ops := D0.ops + (6 : Nat) } := ⟨_, rfl⟩
  rw [← hD] at hm'
  rw [show D0.holds = D.holds from by rw [hD]; rfl] at hm'
  have hca : Calm 130 D := by
    rw [hD]
    exact ⟨rfl, HC.out.dead, HC.out.armed, HC.out.fails, by show D0.ops + 6 ≤ _; omega, by show D0.p.length ≤ _; omega⟩
  clear hD hn6 hp120 hops HC
  have HHL : Hid (∀ i, i < 6 → (D.holds i).length = 64) := Lib.hid fun i hi => holds_len (hm'.dk 0 _ rfl) (by rw [hca.n]; exact hi)
  have HC := Lib.hid hca
  have hp130 := hca.p
  have hops := hca.ops
  have hcp := hm'.copy (i := 0) rfl HPA.out
  have HCP := Lib.hid hcp
  clear hca hm' hcp
  go_wp2_with fail
  refine HCP.out.mono ?_
  rintro e w4 ⟨L1, rfl, hm⟩
  have hcp := hm.copy (i := 0) rfl HPA.out
  have HCP := Lib.hid hcp
  have HP1 := Lib.hid (show L1.ptr = .pointer (some ⟨L1.B, 0, none⟩) from rfl)
  obtain ⟨B1, hB⟩ : ∃ A, A = L1.B := ⟨_, rfl⟩
  rw [HP1.out, ← hB]
  rw [← hB] at HP1
  clear hm hcp hB
  go_wp2_with fail
  refine HCP.out.mono ?_
  rintro e w5 ⟨L2, rfl, hm⟩
  have hcp := hm.copy (i := 0) rfl HPA.out
  have HCP := Lib.hid hcp
  have HP2 := Lib.hid (show L2.ptr = .pointer (some ⟨L2.B, 0, none⟩) from rfl)
  obtain ⟨B2, hB⟩ : ∃ A, A = L2.B := ⟨_, rfl⟩
  rw [HP2.out, ← hB]
  rw [← hB] at HP2
  clear hm hcp hB
  go_wp2_with fail
  refine HCP.out.mono ?_
  rintro e w6 ⟨L3, rfl, hm⟩
  have hm' : Many w1 w6 [(L0, D), (L1, D), (L2, D), (L3, D)] [⟨27, 64, .slice na 6 nc, 6, flat D.holds 6⟩] := hm
  have hpe := hm'.pend (i := 0) rfl HPA.out
  have HPE := Lib.hid hpe
  have HP3 := Lib.hid (show L3.ptr = .pointer (some ⟨L3.B, 0, none⟩) from rfl)
  obtain ⟨B3, hB⟩ : ∃ A, A = L3.B := ⟨_, rfl⟩
  rw [HP3.out, ← hB]
  rw [← hB] at HP3
  clear hm hm' hpe hB
  go_wp2_with fail
  refine HPE.out.mono ?_
  rintro e w7 ⟨pa, pc, rfl, hm⟩
  have hm := hm.rless (qs := [⟨27, 64, .slice na 6 nc, 6, flat D.holds 6⟩]) (by simp)
  obtain ⟨pn, hpn⟩ : ∃ pn, pn = D.p.length := ⟨_, rfl⟩
  rw [← hpn]
  rw [← hpn] at hp130
  have HPN := Lib.hid hpn
  have hmk := make30 pn (by omega) w7
  obtain ⟨g, hg⟩ : ∃ g, g = w7.heap.size := ⟨_, rfl⟩
  have hbk := Blk.new w7 4 (yes 0 pn)
  have hbs := hm.beside
  have hgs : w1.heap.size ≤ g := by rw [hg]; exact hm.k.size
  rw [← hg] at hmk hbk hbs
  have HBK := Lib.hid hbk
  have HBS := Lib.hid hbs
  have HM := Lib.hid (hm.quiet ((Keeps.refl _ w7).alloc (.cells (yes 0 pn).toArray 4)))
  clear hpn hg hbk hbs hm
  go_wp2_with fail
  go_loopw [11, 43] (fun _ i wz => ∃ k : Nat, k ≤ pn ∧ i = .int .i64 k ∧ Blk wz g 4 (yes k pn) ∧ Many w1 wz [(L0, D), (L1, D), (L2, D), (L3, D)] [⟨27, 64, .slice na 6 nc, 6, flat D.holds 6⟩]) (fun _ i _ => pn - (intOf i).toNat)
  case atStart => exact ⟨0, Nat.zero_le _, rfl, HBK.out, HM.out⟩
  case round =>
    obtain ⟨k, hk, rfl, hbz, hmz⟩ := hrel
    have HMZ := Lib.hid hmz
    have HBZ := Lib.hid hbz
    by_cases hlk : k < pn
    · have hlk' : (k : Int) < (pn : Int) := by omega
      have c0 := hbz.cell (yes_cell hlk hk)
      have c1 := hbz.free k
      clear hbz hmz
      have HST : Hid (∀ W, W = wr.setCell ⟨g, k, none⟩ (.bool true) → Blk W g 4 (yes (k + 1) pn) ∧ Many w1 W [(L0, D), (L1, D), (L2, D), (L3, D)] [⟨27, 64, .slice na 6 nc, 6, flat D.holds 6⟩]) := Lib.hid (by
        rintro W rfl
        refine ⟨?_, HMZ.out.store HBS.out hgs k _⟩
        have := HBZ.out.store k (.bool true)
        rwa [yes_next hlk] at this)
      go_wp2_with fail
      go_roundw
      case rel => exact ⟨k + 1, by omega, by go_num, HST.out _ rfl⟩
      case measure => simp [intOf]; omega
    · obtain rfl : k = pn := by omega
      obtain ⟨wy, rfl⟩ : ∃ wy : World, wy = wr := ⟨_, rfl⟩
      have hcr := hmz.crash (i := 1) rfl (some ⟨g, 0, none⟩) k k (List.replicate k true) (yes_row hbz) (fun b off e h1 => by
        have := HBS.out.1 1 _ rfl b h1
        injection e with e
        injection e with e
        omega) (by omega) HP1.out
      have HCR := Lib.hid hcr
      clear hbz hmz hcr
      go_wp2_with fail
      refine HCR.out.mono ?_
      rintro e w8 ⟨rfl, L1', e1, hm⟩
      have hcr := hm.crash (i := 3) rfl none 0 0 [] (BoolRow.nil _) (fun b off e => by cases e) (by omega) HP3.out
      have HCR := Lib.hid hcr
      have HP1' := Lib.hid e1
      clear hm hcr e1
      go_wp2_with fail
      refine HCR.out.mono ?_
      rintro e w9 ⟨rfl, L3', e3, hm⟩
      have hsy := hm.sync (i := 0) rfl (fun h => by rw [HC.out.armed] at h; cases h) (by omega) HPA.out
      rw [show D.sync.1 = 0 from by rw [calm_sync HC.out]] at hsy
      have HSY := Lib.hid hsy
      have HP3' := Lib.hid e3
      clear hm hsy e3
      go_wp2_with fail
      refine HSY.out.mono ?_
      rintro e wa ⟨rfl, L0', e0, hm⟩
      have hcr := hm.crash (i := 0) rfl none 0 0 [] (BoolRow.nil _) (fun b off e => by cases e) (by omega) e0
      have HCR := Lib.hid hcr
      clear hm hcr e0
      go_wp2_with fail
      refine HCR.out.mono ?_
      rintro e wb ⟨rfl, L0'', e0, hm⟩
      have HP0 := Lib.hid e0
      have hm' : Many w1 wb [(L0'', D.sync.2.crash []), (L1', D.crash (List.replicate k true)), (L2, D), (L3', D.crash [])] [⟨27, 64, .slice na 6 nc, 6, flat D.holds 6⟩] := hm
      have hn6 := HC.out.n
      have hhe := hm'.held (i := 1) rfl (crash_live _ _) (by show D.ops < _; omega) HP1'.out
      rw [show (D.crash (List.replicate k true)).n = 6 from hn6, show (D.crash (List.replicate k true)).holds = D.holds from by rw [HPN.out]; exact crash_all D] at hhe
      have HHE := Lib.hid hhe
      clear hm hm' hhe e0 hn6
      go_wp2_with fail
      refine HHE.out.mono ?_
      rintro e wc ⟨ra, rc, rfl, hm⟩
      have hsm := hm.same (v1 := .slice ra 6 rc) (v2 := .slice na 6 nc) (n := 6) (f1 := D.holds) (f2 := D.holds) (by simp) (by simp) HHL.out (fun _ _ => rfl)
      have HSM := Lib.hid hsm
      clear hm hsm
      go_wp2_with fail
      refine HSM.out.mono ?_
      rintro e wd ⟨rfl, hm⟩
      have hhe := hm.held (i := 0) (L := L0'') (D := D.sync.2.crash []) rfl (crash_live _ _) (by rw [calm_sync HC.out]; show D.ops + 1 < _; omega) HP0.out
      rw [sync_crash_holds HC.out, show (D.sync.2.crash []).n = 6 from by rw [calm_sync HC.out]; exact HC.out.n] at hhe
      have HHE := Lib.hid hhe
      clear hm hhe
      go_wp2_with fail
      refine HHE.out.mono ?_
      rintro e we ⟨ra2, rc2, rfl, hm⟩
      have hsm := hm.same (v1 := .slice ra2 6 rc2) (v2 := .slice na 6 nc) (n := 6) (f1 := D.holds) (f2 := D.holds) (by simp) (by simp) HHL.out (fun _ _ => rfl)
      have HSM := Lib.hid hsm
      clear hm hsm
      go_wp2_with fail
      refine HSM.out.mono ?_
      rintro e wf ⟨rfl, hm⟩
      have hm' := hm.rless (qs := []) (by simp)
      have hpe := hm'.pend (i := 2) (L := L2) (D := D) rfl HP2.out
      rw [← HPN.out] at hpe
      have HPE := Lib.hid hpe
      clear hm hm' hpe
      go_wp2_with fail
      refine HPE.out.mono ?_
      rintro e wg ⟨pa, pc, rfl, hm⟩
      have hcp := hm.copy (i := 2) (L := L2) (D := D) rfl HP2.out
      have HCP := Lib.hid hcp
      clear hm hcp
      go_wp2_with fail
      refine HCP.out.mono ?_
      rintro e wh ⟨L4, rfl, hm⟩
      have HP4 := Lib.hid (show L4.ptr = .pointer (some ⟨L4.B, 0, none⟩) from rfl)
      obtain ⟨B4, hB⟩ : ∃ A, A = L4.B := ⟨_, rfl⟩
      rw [HP4.out, ← hB]
      rw [← hB] at HP4
      have hhe := hm.held (i := 3) (L := L3') (D := D.crash []) rfl (crash_live _ _) (by show D.ops < _; omega) HP3'.out
      rw [crash_none, show (D.crash []).n = 6 from HC.out.n] at hhe
      have HHE := Lib.hid hhe
      clear hm hB hhe
      go_wp2_with fail
      refine HHE.out.mono ?_
      rintro e wi ⟨wa', wc', rfl, hm⟩
      have hcr := hm.crashIn (i := 2) (L := L2) (D := D) rfl ka kn kc xs HKR.out HK1.out HKN.out HP2.out
      have HCR := Lib.hid hcr
      clear hm hcr
      go_wp2_with fail
      refine HCR.out.mono ?_
      rintro e wj ⟨rfl, L2', e2, hm⟩
      have hhe := hm.held (i := 2) (L := L2') (D := D.crash xs) rfl (crash_live _ _) (by show D.ops < _; omega) e2
      rw [crash_holds, show (D.crash xs).n = 6 from HC.out.n] at hhe
      have HP2' := Lib.hid e2
      have HHE := Lib.hid hhe
      clear hm hhe e2
      go_wp2_with fail
      refine HHE.out.mono ?_
      rintro e wk ⟨ga, gc, rfl, hm⟩
      obtain ⟨E0, E1, E2, E3, he2p, he2d, hm'⟩ : ∃ E0 E1 E2 E3 : DD, E2.p = [] ∧ E2.dead = false ∧ Many w1 wk [(L0'', E0), (L1', E1), (L2', E2), (L3', E3), (L4, D)] [⟨27, 64, .slice ga 6 gc, 6, flat (setl (liveOf xs) 0 D.p D.f) 6⟩, ⟨27, 64, .slice wa' 6 wc', 6, flat D.f 6⟩, ⟨3, 1, .slice pa k pc, k, ats D.p⟩] := by
        refine ⟨_, _, _, _, ?_, ?_, hm⟩ <;> rfl
      clear hm
      have HE2P := Lib.hid he2p
      have HE2D := Lib.hid he2d
      clear he2p he2d
      obtain ⟨F, hF⟩ : ∃ F, F = setl (liveOf xs) 0 D.p D.f := ⟨_, rfl⟩
      rw [← hF] at hm'
      have HFE : Hid (∀ j, fineB D.f D.p (F j) j k = true) := Lib.hid fun j => by rw [hF, HPN.out]; exact fineB_end _ _ _ _
      have HDF : Hid (∀ i, i < 6 → (D.f i).length = 64) := Lib.hid fun i hi => (hm'.dk 4 _ rfl).fl i (by show i < D.n; rw [HC.out.n]; exact hi)
      have HFF : Hid (∀ i, i < 6 → (F i).length = 64) := Lib.hid fun i hi => by rw [hF]; exact setl_len D.p 0 D.f 6 HDF.out (hm'.dk 4 _ rfl).pl i hi
      have HPL : Hid (∀ a, a ∈ D.p → a.2.length = 64) := Lib.hid (hm'.dk 4 _ rfl).pl
      clear hF
      obtain ⟨g1, gc', e1, _⟩ := own_some (hm'.row ⟨27, 64, .slice ga 6 gc, 6, flat F 6⟩ (by simp)) (by show 0 < 6; omega)
      injection e1 with e1 en e2
      clear en
      subst e1
      subst e2
      obtain ⟨g2, wc'', e1, _⟩ := own_some (hm'.row ⟨27, 64, .slice wa' 6 wc', 6, flat D.f 6⟩ (by simp)) (by show 0 < 6; omega)
      injection e1 with e1 en e2
      clear en
      subst e1
      subst e2
      obtain ⟨pn, rfl⟩ : ∃ pn, pn = k := ⟨_, rfl⟩
      obtain ⟨ds, hds⟩ : ∃ ds, ds = [(L0'', E0), (L1', E1), (L2', E2), (L3', E3), (L4, D)] := ⟨_, rfl⟩
      obtain ⟨rs, hrs⟩ : ∃ rs : List RowT, rs = [⟨27, 64, .slice (some ⟨g1, 0, none⟩) 6 gc, 6, flat F 6⟩, ⟨27, 64, .slice (some ⟨g2, 0, none⟩) 6 wc', 6, flat D.f 6⟩, ⟨3, 1, .slice pa pn pc, pn, ats D.p⟩] := ⟨_, rfl⟩
      rw [← hds, ← hrs] at hm'
      have HDS := Lib.hid hds
      have HRS := Lib.hid hrs
      have HM2 := Lib.hid hm'
      clear hm' hds hrs HWO HH HHL HCP HPE HBS hmk HBK HM HMZ HBZ HCR HSY HSM HHE HP1' HP3' HP0 HP3 HP1 HPA HP2
      go_wp2_with fail
      obtain ⟨wo, rfl⟩ : ∃ wo : World, wo = wk := ⟨_, rfl⟩
      go_loopw [16, 99] (fun _ i wz => ∃ q : Nat, q ≤ 6 ∧ i = .int .i64 q ∧ Many w1 wz ds rs) (fun _ i _ => 6 - (intOf i).toNat)
      case atStart => exact ⟨0, by omega, rfl, HM2.out⟩
      case round =>
        obtain ⟨q, hq, rfl, hmq⟩ := hrel
        have HMQ := Lib.hid hmq
        by_cases hq6 : q < 6
        · have hq6' : (q : Int) < 6 := by omega
          have hl1 := HFF.out q hq6
          have hl2 := HDF.out q hq6
          have q1 := own_block (hmq.row ⟨27, 64, .slice (some ⟨g1, 0, none⟩) 6 gc, 6, flat F 6⟩ (by rw [HRS.out]; simp)) HFF.out hq6
          have q2 := own_block (hmq.row ⟨27, 64, .slice (some ⟨g2, 0, none⟩) 6 wc', 6, flat D.f 6⟩ (by rw [HRS.out]; simp)) HDF.out hq6
          have r1 := hasRow_of q1 (n := 64) (by rw [bk_len]; exact hl1)
          have r2 := rowAt_of q1 (n := 64) (by rw [bk_len]; exact hl1)
          have r3 := hasRow_of q2 (n := 64) (by rw [bk_len]; exact hl2)
          have r4 := rowAt_of q2 (n := 64) (by rw [bk_len]; exact hl2)
          have heq := eq27 (F q) (D.f q) hl1 hl2
          clear q1 q2 hmq
          go_wp2_with fail
          go_region
          go_wp2_with fail
          have hfz := fineB_zero D.f D.p (F q) q
          rw [← hfz]
          have HMD := Lib.hid (HMQ.out.quiet (Keeps.refl _ wr).drew)
          clear hfz heq r1 r2 r3 r4
          obtain ⟨wv, rfl⟩ : ∃ wv : World, wv = wr := ⟨_, rfl⟩
          go_loopw [17, 18, 113] (fun fi _ i wz => ∃ j : Nat, j ≤ pn ∧ i = .int .i64 j ∧ fi = .bool (fineB D.f D.p (F q) q j) ∧ Many w1 wz ds rs) (fun _ _ i _ => pn - (intOf i).toNat)
          case atStart => exact ⟨0, by omega, rfl, rfl, HMD.out⟩
          case round =>
            obtain ⟨j, hj, rfl, rfl, hmj⟩ := hrel
            by_cases hjn : j < pn
            · have hjn' : (j : Int) < (pn : Int) := by omega
              obtain ⟨a, ha⟩ : ∃ a, D.p[j]? = some a := ⟨_, List.getElem?_eq_getElem (by rw [← HPN.out]; exact hjn)⟩
              have hal := HPL.out a (List.mem_of_getElem? ha)
              have HA := Lib.hid ha
              have hrp := hmj.row ⟨3, 1, .slice pa pn pc, pn, ats D.p⟩ (by rw [HRS.out]; simp)
              obtain ⟨g3, pc', e1, hpc1, hpc2, _⟩ := own_some hrp (by show 0 < pn; omega)
              injection e1 with e1 en e2
              clear en
              subst e1
              subst e2
              dsimp only at hpc1
              have HRP := Lib.hid hrp
              have hmk := make30 (j + 1) (by omega) wr
              rw [show ((j + 1 : Nat) : Int) = (j : Int) + 1 from by omega] at hmk
              obtain ⟨g4, hg4⟩ : ∃ g4, g4 = wr.heap.size := ⟨_, rfl⟩
              have hbk := Blk.new wr 4 (yes 0 (j + 1))
              rw [← hg4] at hmk hbk
              have c0 := hbk.cell (yes_cell (i := j) (by omega) (Nat.zero_le _))
              have c1 := hbk.free j
              have hbs := hmj.beside
              rw [← hg4] at hbs
              have hms := (hmj.quiet ((Keeps.refl _ wr).alloc (.cells (yes 0 (j + 1)).toArray 4))).store hbs (by rw [hg4]; exact hmj.k.size) j (.bool true)
              have hb4 := hbk.store j (.bool true)
              rw [oneAt_cells] at hb4
              have hmr := hms.rmore ⟨4, 1, .slice (some ⟨g4, 0, none⟩) (j + 1) (j + 1), j + 1, (oneAt j).map Value.bool⟩ (own_of_blk hb4 (by simp [oneAt_len]) (by unfold maxLen; omega)) (fun g hg => by
                injection hg with hg
                dsimp only at hg
                subst hg
                exact ⟨by rw [hg4]; exact hmj.k.size, fun i x hx h1 => hbs.1 i x hx _ h1 rfl⟩)
              have hcp := hmr.copy (i := 4) (by rw [HDS.out]; rfl) HP4.out
              have HCP := Lib.hid hcp
              clear ha hrp hg4 hbk hbs hms hb4 hcp hmj hmr
              go_wp2_with fail
              refine HCP.out.mono ?_
              rintro e w10 ⟨L5, rfl, hm⟩
              have HP5 := Lib.hid (show L5.ptr = .pointer (some ⟨L5.B, 0, none⟩) from rfl)
              obtain ⟨B5, hB⟩ : ∃ A, A = L5.B := ⟨_, rfl⟩
              rw [HP5.out, ← hB]
              rw [← hB] at HP5
              have hx5 : (ds ++ [(L5, D)])[5]? = some (L5, D) := by rw [HDS.out]; rfl
              have hcr := hm.crash hx5 (some ⟨g4, 0, none⟩) (j + 1) (j + 1) (oneAt j) (bools_own (hm.row _ (List.mem_cons_self ..))) (fun b off e h1 => by
                injection e with e
                injection e with e
                subst e
                exact (hm.rap _ (List.mem_cons_self ..) g4 rfl).2 5 _ hx5 h1) (by omega) HP5.out
              have HCR := Lib.hid hcr
              clear hm hB hx5 hcr c0 c1 hmk
              go_wp2_with fail
              refine HCR.out.mono ?_
              rintro e w11 ⟨rfl, L5', e5, hm⟩
              have hm' : Many w1 w11 (ds ++ [(L5', D.crash (oneAt j))]) rs := by
                have := hm.rless (qs := rs) (fun r hr => List.mem_cons_of_mem _ hr)
                rw [HDS.out] at this ⊢
                exact this
              have hrd := hm'.read (i := 5) (L := L5') (D := D.crash (oneAt j)) (by rw [HDS.out]; rfl) (by show D.ops < _; omega) (q : Int) e5
              rw [live_read (crash_live D (oneAt j)) (i := q) (by show q < D.n; rw [HC.out.n]; exact hq6), crash_one D HA.out] at hrd
              have HRD := Lib.hid hrd
              clear hm hm' hrd e5
              go_wp2_with fail
              refine HRD.out.mono ?_
              rintro e w12 ⟨rfl, hm⟩
              dsimp only
              obtain ⟨bq, hbq⟩ : ∃ bq, bq = updF D.f a.1 a.2 q := ⟨_, rfl⟩
              rw [← hbq]
              have hblq : bq.length = 64 := by
                rw [hbq]
                by_cases e : q = a.1
                · rw [e, updF_same]; exact hal
                · rw [updF_ne _ _ _ e]; exact hl2
              have hbl : (bk bq).length = 64 := by rw [bk_len, hblq]
              have hzl : (bk zb).length = 64 := by rw [bk_len, zb_len]
              have hone : oneAll (bk bq).toArray = true := all_oneCell_toArray bk_one
              obtain ⟨y1, y2⟩ := held_new (W := w12) hbl
              have hm' : Many w1 w12 ds rs := by
                rw [HDS.out] at hm ⊢
                exact Many.less hm
              have hm2 := hm'.quiet ((Keeps.refl _ w12).alloc (.cells (bk bq).toArray 27))
              have q1 := own_block (hm2.row ⟨27, 64, .slice (some ⟨g1, 0, none⟩) 6 gc, 6, flat F 6⟩ (by rw [HRS.out]; simp)) HFF.out hq6
              have r1 := hasRow_of q1 (n := 64) (by rw [bk_len]; exact hl1)
              have r2 := rowAt_of q1 (n := 64) (by rw [bk_len]; exact hl1)
              have pj := (hm2.row ⟨3, 1, .slice (some ⟨g3, 0, none⟩) pn pc, pn, ats D.p⟩ (by rw [HRS.out]; simp)).cells (g := g3) rfl j (.int .i64 (a.1 : Int)) (by simp [ats, HA.out])
              rw [add0] at pj
              have heq := eq27 (F q) bq hl1 hblq
              have HM12 := Lib.hid hm2
              have HBQ := Lib.hid hbq
              have HFN := Lib.hid (fineB_next D.f D.p (F q) q HA.out)
              clear hm hm' hm2 q1 hbq
              go_wp2_with fail
              cases hfb : fineB D.f D.p (F q) q j
              · rw [hfb] at HFN
                clear hfb
                by_cases haq : a.1 = q
                · have hbe : ((a.1 : Int) == (q : Int)) = true := by rw [haq]; exact beq_self_eq_true _
                  have HAQ := Lib.hid haq
                  clear haq
                  go_region
                  go_wp2_with fail
                  go_roundw
                  case rel => exact ⟨j + 1, by omega, by go_num, by rw [HFN.out, HBQ.out, HAQ.out, updF_same]; simp, HM12.out.quiet (Keeps.refl _ _).drew⟩
                  case measure => simp [intOf]; omega
                · have hbe : ((a.1 : Int) == (q : Int)) = false := by rw [beq_eq_false_iff_ne]; omega
                  have HAQ := Lib.hid haq
                  clear haq
                  go_region
                  go_wp2_with fail
                  go_roundw
                  case rel => exact ⟨j + 1, by omega, by go_num, by rw [HFN.out, decide_eq_false HAQ.out]; simp, HM12.out.quiet (Keeps.refl _ _).drew⟩
                  case measure => simp [intOf]; omega
              · rw [hfb] at HFN
                clear hfb
                go_region
                go_wp2_with fail
                go_roundw
                case rel => exact ⟨j + 1, by omega, by go_num, by rw [HFN.out]; simp, HM12.out.quiet (Keeps.refl _ _).drew⟩
                case measure => simp [intOf]; omega
            · obtain rfl : j = pn := by omega
              rw [HFE.out q]
              have HMJ := Lib.hid hmj
              clear hmj
              go_wp2_with fail
              go_roundw
              case rel => exact ⟨q + 1, by omega, by go_num, HMJ.out⟩
              case measure => simp [intOf]; omega
        · obtain rfl : q = 6 := by omega
          have hpe := hmq.pend (i := 2) (L := L2') (D := E2) (by rw [HDS.out]; rfl) HP2'.out
          rw [HE2P.out] at hpe
          have HPE := Lib.hid hpe
          clear hmq hpe
          go_wp2_with fail
          refine HPE.out.mono ?_
          rintro e wz ⟨za, zc, rfl, hm⟩
          have hde := hm.dead (i := 2) (L := L2') (D := E2) (by rw [HDS.out]; rfl) HP2'.out
          rw [HE2D.out] at hde
          have HDE := Lib.hid hde
          have HKZ := Lib.hid hm.k
          clear hm hde
          go_wp2_with fail
          refine HDE.out.mono ?_
          rintro e wz' ⟨rfl, rfl⟩
          go_wp2_with fail
          go_ret
          exact ⟨rfl, HK1.out.trans HKZ.out⟩
end Go.Proofs.Ytjiammhmeliogaa
