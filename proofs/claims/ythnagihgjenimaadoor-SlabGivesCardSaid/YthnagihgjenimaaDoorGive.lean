/- slab: Give. -/
import Derived.Test.YthnagihgjenimaaDoorLow
namespace Go.Proofs.YthnagihgjenimaaDoor
open Go.RowKit
set_option linter.unusedVariables false
set_option linter.unusedSimpArgs false

theorem Tab.lt {w : World} (hT : Tab w) : 0 < w.heap.size := by
  have h := hT 0 (by decide)
  rcases Nat.eq_zero_or_pos w.heap.size with h0 | h0
  · have : w.heap[0]? = none := by simp [h0]
    simp [World.cell?, this] at h
  · exact h0
theorem Tab.keep {w w' : World} {S : Nat → Prop} (hT : Tab w) (hk : Keeps S w w') (hn : ¬ S 0) : Tab w' := fun j hj =>
  (hk.cell (p := ⟨0, j, none⟩) hT.lt hn).trans (hT j hj)

theorem xor_u32 (x : Nat) (hx : x < 4294967296) : bits .xor .u32 IntKind.u32.max (x : Int) = ((4294967295 - x : Nat) : Int) := by
  show IntKind.u32.wrap ((BitVec.ofInt 32 ((4294967295 : Nat) : Int) ^^^ BitVec.ofInt 32 (x : Int)).toNat : Int) = _
  rw [BitVec.toNat_xor, ofInt_u32 (by omega), ofInt_u32 hx, wrap_u32]
  have e : 4294967295 ^^^ x = 4294967295 - x := by
    apply Nat.eq_of_testBit_eq
    intro j
    have h1 := Nat.testBit_two_pow_sub_succ (n := 32) (x := x) hx j
    have h2 := Nat.testBit_two_pow_sub_succ (n := 32) (x := 0) (by omega) j
    rw [show 2 ^ 32 - (x + 1) = 4294967295 - x by omega] at h1
    rw [show 2 ^ 32 - (0 + 1) = 4294967295 by omega, Nat.zero_testBit] at h2
    rw [Nat.testBit_xor, h1, h2]
    by_cases hj : j < 32
    · simp [hj]
    · rw [Nat.testBit_lt_two_pow (Nat.lt_of_lt_of_le hx (Nat.pow_le_pow_right (n := 2) (i := 32) (by omega) (by omega)))]
      simp [hj]
  rw [e]
  omega
theorem ArAt.setp {w : World} {L : AL} {D : AD} (h : ArAt w L D) {i : Nat} (hi : i < D.n) {k : Nat} (hk : k < 8) :
    ArAt ((w.setCell ⟨L.G, i * 2, none⟩ (.int .i64 (k : Nat))).setCell ⟨L.G, i * 2 + 1, none⟩ (.int .u32 1)) L { D with c := updN D.c i k, g := updN D.g i 1 } ∧ Keeps (fun k => k = L.G) w ((w.setCell ⟨L.G, i * 2, none⟩ (.int .i64 (k : Nat))).setCell ⟨L.G, i * 2 + 1, none⟩ (.int .u32 1)) := by
  have hk' : Keeps (fun k => k = L.G) w ((w.setCell ⟨L.G, i * 2, none⟩ (.int .i64 (k : Nat))).setCell ⟨L.G, i * 2 + 1, none⟩ (.int .u32 1)) := ((Keeps.refl (fun k => k = L.G) w).store (p := ⟨L.G, i * 2, none⟩) (.inl rfl) _).store (p := ⟨L.G, i * 2 + 1, none⟩) (.inl rfl) _
  have hne : L.B ≠ L.G := fun e => own_ne_blk h.obj h.row (by decide) (by simp [Value.ownBlock, e])
  refine ⟨⟨hk'.blk h.obj hne, ?_, h.n1, h.n2, ?_, ?_⟩, hk'⟩
  · have := own_put h.row (i := i * 2) (.int .i64 (k : Nat))
    rw [pgs_setc D hi] at this
    have := own_put this (i := i * 2 + 1) (.int .u32 (1 : Nat))
    rw [pgs_setg { D with c := updN D.c i k } hi] at this
    exact this
  · intro j hj
    show updN D.c i k j < 8
    by_cases e : j = i
    · subst e; rw [updN_same]; exact hk
    · rw [updN_ne _ _ _ e]; exact h.cl j hj
  · intro j hj
    show updN D.g i 1 j < 2 ^ chk (updN D.c i k j)
    by_cases e : j = i
    · subst e
      rw [updN_same, updN_same]
      have : 0 < chk k := by
        have a : k = 0 ∨ k = 1 ∨ k = 2 ∨ k = 3 ∨ k = 4 ∨ k = 5 ∨ k = 6 ∨ k = 7 := by omega
        rcases a with rfl | rfl | rfl | rfl | rfl | rfl | rfl | rfl <;> decide
      exact Nat.one_lt_two_pow (by omega)
    · rw [updN_ne _ _ _ e, updN_ne _ _ _ e]; exact h.gl j hj
theorem FirstE.next {D : AD} {t : Nat} {f : Int} (h : FirstE D t f) (hg : D.g t ≠ 0) : FirstE D (t + 1) f := by
  rcases h with ⟨rfl, h⟩ | ⟨j, hj, rfl, h1, h2⟩
  · refine .inl ⟨rfl, fun i hi => ?_⟩
    by_cases e : i = t
    · subst e; exact hg
    · exact h i (by omega)
  · exact .inr ⟨j, by omega, rfl, h1, h2⟩
theorem FirstE.take {D : AD} {t : Nat} {f : Int} (h : FirstE D t f) (hf : f < 0) (hg : D.g t = 0) : FirstE D (t + 1) (t : Nat) := by
  rcases h with ⟨rfl, h⟩ | ⟨j, hj, rfl, h1, h2⟩
  · exact .inr ⟨t, by omega, rfl, hg, h⟩
  · omega
theorem FirstE.old {D : AD} {t : Nat} {f : Int} (h : FirstE D t f) (hf : ¬ f < 0) : FirstE D (t + 1) f := by
  rcases h with ⟨rfl, h⟩ | ⟨j, hj, rfl, h1, h2⟩
  · omega
  · exact .inr ⟨j, by omega, rfl, h1, h2⟩
theorem hit_next {D : AD} {t k : Nat} (h : ∀ j, j < t → ¬ D.hit k j) (hg : ¬ D.hit k t) : ∀ j, j < t + 1 → ¬ D.hit k j := fun j hj => by
  by_cases e : j = t
  · subst e; exact hg
  · exact h j (by omega)

set_option maxHeartbeats 4000000 in
theorem give_any (L : AL) (D : AD) (w : World) (h : ArAt w L D) (hT : Tab w) (n : Int) : Calls Tryd.prog 19 #[L.ptr, .int .i64 n] w (GiveP L D n w) := by
  have HCL := Lib.hid (fun W => class_any n W)
  unfold AL.ptr
  have HH := Lib.hid h
  have HTT := Lib.hid hT
  clear h hT
  go_enter Tryd.func19, Tryd.ntmps19
  go_wp2_with fail
  refine (HCL.out _).mono ?_
  rintro e w1 ⟨c, q, rfl, hcs, hk1⟩
  have h1 := HH.out.quiet hk1
  have hT1 := HTT.out.keep hk1 id
  rcases hcs with ⟨hn, rfl, rfl⟩ | ⟨hn0, hn1, rfl, rfl⟩ | ⟨hn, rfl, rfl⟩
  · have HK := Lib.hid hk1
    have HA := Lib.hid h1
    clear hk1 h1 hT1
    go_wp2_with fail
    go_ret2
    exact ⟨_, _, D, rfl, HK.out.mono fun k _ hf => hf.elim, HA.out, .inl ⟨hn, rfl, rfl, rfl⟩⟩
  · have hk8 := cls_lt n
    obtain ⟨k, hk⟩ : ∃ k, cls n = k := ⟨_, rfl⟩
    have HKE := Lib.hid hk
    rw [hk] at hk8 ⊢
    obtain ⟨c0, hc⟩ := h1.cells
    obtain ⟨hcap1, hcap2⟩ := own_cap h1.row
    unfold maxLen at hcap2
    have n2 := h1.n2
    have n1 := h1.n1
    have HK1 := Lib.hid hk1
    have H1 := Lib.hid h1
    have HT1 := Lib.hid hT1
    have hltB := h1.lt L.B (.inl rfl)
    have hltG := h1.lt L.G (.inr rfl)
    have HC := Lib.hid hc
    have HG := Lib.hid (fun i (hi : i < D.n) => h1.g32 hi)
    have HCH : Hid (chunkI (k : Int) = chk k) := Lib.hid (by unfold chunkI; rw [if_pos (by omega)]; simp)
    have hch := chk_le k
    clear hk1 h1 hT1 hc hk
    go_wp2_with fail
    go_loopw [8, 27] (fun f i wr => ∃ t : Nat, ∃ fi : Int, t ≤ D.n ∧ i = .int .i64 t ∧ f = .int .i64 fi ∧ FirstE D t fi ∧ (∀ j, j < t → ¬ D.hit k j) ∧ Keeps (fun _ => False) w1 wr) (fun _ i _ => D.n - (intOf i).toNat)
    case atStart => exact ⟨0, -1, Nat.zero_le _, rfl, rfl, .inl ⟨rfl, fun i hi => absurd hi (by omega)⟩, fun i hi => absurd hi (by omega), Keeps.refl _ _⟩
    case round =>
      obtain ⟨t, fi, ht, rfl, rfl, hfe, hnh, hkr⟩ := hrel
      by_cases hlt' : t < D.n
      · obtain ⟨y0, y1⟩ := HC.out t hlt'
        have z0 := (hkr.cell (p := ⟨L.G, t * 2, none⟩) hltG id).trans y0
        have z1 := (hkr.cell (p := ⟨L.G, t * 2 + 1, none⟩) hltG id).trans y1
        have zb := (hkr.cell (p := ⟨L.B, 0, none⟩) hltB id).trans c0
        have HK := Lib.hid hkr
        have HFE := Lib.hid hfe
        have HNH := Lib.hid hnh
        have HR := Lib.hid (H1.out.quiet hkr)
        have HTR := Lib.hid (HT1.out.keep hkr id)
        have hg := HG.out t hlt'
        obtain ⟨x, hx⟩ : ∃ x, x = D.g t := ⟨_, rfl⟩
        obtain ⟨y, hy⟩ : ∃ y, y = D.c t := ⟨_, rfl⟩
        have HX := Lib.hid hx
        have HY := Lib.hid hy
        rw [← hx] at z1 hg
        rw [← hy] at z0
        clear hkr hfe hnh y0 y1 hx hy c0
        by_cases e0 : x = 0
        · subst e0
          clear hg
          by_cases hfi : fi < 0
          · have HFI := Lib.hid hfi
            go_wp2_with fail
            go_roundw
            case rel => exact ⟨t + 1, t, by omega, by go_num, rfl, HFE.out.take HFI.out HX.out.symm, hit_next HNH.out (fun hh => hh.1 HX.out.symm), HK.out⟩
            case measure => simp [intOf]; omega
          · have HFI := Lib.hid hfi
            have hfi' : decide (fi < 0) = false := by simpa using hfi
            clear hfi
            go_wp2_with fail
            go_roundw
            case rel => exact ⟨t + 1, fi, by omega, by go_num, rfl, HFE.out.old HFI.out, hit_next HNH.out (fun hh => hh.1 HX.out.symm), HK.out⟩
            case measure => simp [intOf]; omega
        · have e0' : ((x : Int) == 0) = false := by rw [beq_eq_false_iff_ne]; omega
          have HE := Lib.hid e0
          clear e0
          have HXR := Lib.hid (xor_u32 x hg)
          have HTZ := Lib.hid (fun W hW => tz_any (4294967295 - x) (by omega) W hW)
          obtain ⟨z, hz⟩ : ∃ z, Lib.ctz 32 (4294967295 - x) = z := ⟨_, rfl⟩
          have HZ : Hid (low x = z) := Lib.hid hz
          rw [hz] at HTZ
          obtain ⟨hz1, hz2, _⟩ := low_spec x hg
          rw [HZ.out] at hz1 hz2
          have HZ2 := Lib.hid hz2
          have HG2 := Lib.hid hg
          clear hz hz2 hg
          go_wp2_with fail
          rw [HXR.out]
          refine (HTZ.out _ HTR.out).mono ?_
          rintro e w2 ⟨rfl, rfl⟩
          by_cases hy : y = k
          · have HYK := Lib.hid hy
            subst hy
            go_wp2_with fail
            refine (chunks_any _ _).mono ?_
            rintro e w2 ⟨rfl, hk2⟩
            have HK2 := Lib.hid hk2
            rw [HCH.out]
            have HCY : Hid (chk y ≤ 32) := Lib.hid hch
            by_cases hlz : z < chk y
            · have HLZ := Lib.hid hlz
              have hz32 : z < 32 := by have := HCY.out; omega
              have hb0 := HZ2.out hz32
              have HON := Lib.hid (on_u32 x z HG2.out hz32 hb0)
              have hr2 := HR.out.quiet hk2
              have hlt2 : x + 2 ^ z < 2 ^ chk (D.c t) := by
                rw [← HY.out]
                exact on_lt (by rw [HX.out, HY.out]; exact hr2.gl t hlt') HLZ.out hb0
              have HA := Lib.hid (hr2.setg hlt' hlt2)
              have hfr := own_free hr2.row (t * 2 + 1)
              have z12 := (hk2.cell (p := ⟨L.G, t * 2 + 1, none⟩) (Nat.lt_of_lt_of_le hltG HK.out.size) id).trans z1
              have hlz' : decide ((z : Int) < ((chk y : Nat) : Int)) = true := by simpa using hlz
              clear hk2 hr2 hlt2 hb0 hlz
              go_wp2_with fail
              go_region
              rw [HON.out]
              have HA2 : Hid (Keeps (fun k => k = L.G) w2 (w2.setCell ⟨L.G, t * 2 + 1, none⟩ (.int .u32 (x + 2 ^ z : Nat))).drew ∧ ArAt (w2.setCell ⟨L.G, t * 2 + 1, none⟩ (.int .u32 (x + 2 ^ z : Nat))).drew L { D with g := updN D.g t (x + 2 ^ z) }) := Lib.hid ⟨HA.out.2.drew, HA.out.1.quiet (Keeps.refl _ _).drew⟩
              generalize (w2.setCell ⟨L.G, t * 2 + 1, none⟩ (.int .u32 (x + 2 ^ z : Nat))).drew = w3 at HA2 ⊢
              go_wp2_with fail
              go_ret2
              refine ⟨_, _, { D with g := updN D.g t (x + 2 ^ z) }, rfl, (((HK1.out.trans HK.out).trans HK2.out).mono fun k _ hf => hf.elim).trans HA2.out.1, HA2.out.2, .inr (.inl ⟨hn0, hn1, ?_⟩)⟩
              rw [HKE.out]
              have := GiveS.hit (D := D) (k := y) t hlt' ⟨by rw [← HX.out]; exact HE.out, HY.out.symm, by rw [← HX.out, HZ.out]; exact HLZ.out⟩ HNH.out
              rw [← HX.out, HZ.out] at this
              exact this
            · have HLZ := Lib.hid hlz
              have hlz' : decide ((z : Int) < ((chk y : Nat) : Int)) = false := by simpa using hlz
              clear hlz hk2
              go_wp2_with fail
              go_roundw
              case rel => exact ⟨t + 1, fi, by omega, by go_num, rfl, HFE.out.next (by rw [← HX.out]; exact HE.out), hit_next HNH.out (fun hh => HLZ.out (by have := hh.2.2; rw [← HX.out, HZ.out] at this; exact this)), HK.out.trans HK2.out⟩
              case measure => simp [intOf]; omega
          · have hy' : ((y : Int) == (k : Int)) = false := by rw [beq_eq_false_iff_ne]; omega
            have HYK := Lib.hid hy
            clear hy
            go_wp2_with fail
            go_roundw
            case rel => exact ⟨t + 1, fi, by omega, by go_num, rfl, HFE.out.next (by rw [← HX.out]; exact HE.out), hit_next HNH.out (fun hh => HYK.out (HY.out.trans hh.2.1)), HK.out⟩
            case measure => simp [intOf]; omega
      · obtain rfl : t = D.n := by omega
        have zb := (hkr.cell (p := ⟨L.B, 0, none⟩) hltB id).trans c0
        have HK := Lib.hid hkr
        have HNH := Lib.hid hnh
        have hr := H1.out.quiet hkr
        have HR := Lib.hid hr
        rcases hfe with ⟨rfl, hne⟩ | ⟨j, hj, rfl, hg0, hbf⟩
        · have HNE := Lib.hid hne
          clear hne hr hkr hnh c0
          go_wp2_with fail
          go_ret2
          exact ⟨_, _, D, rfl, (HK1.out.trans HK.out).mono fun k _ hf => hf.elim, HR.out, .inr (.inl ⟨hn0, hn1, by rw [HKE.out]; exact .full HNH.out HNE.out⟩)⟩
        · have HG0 := Lib.hid hg0
          have HBF := Lib.hid hbf
          have f0 := own_free hr.row (j * 2)
          have f1 := own_free hr.row (j * 2 + 1)
          have hj0 : decide ((j : Int) < 0) = false := by simp
          obtain ⟨y0, y1⟩ := hr.cells.2 j hj
          have hp1 := own_put hr.row (i := j * 2) (.int .i64 (k : Nat))
          rw [pgs_setc D hj] at hp1
          have y2 := own_cell hp1 (pgs_g { D with c := updN D.c j k } hj)
          have f2 := own_free hp1 (j * 2 + 1)
          have HP := Lib.hid (hr.setp hj (k := k) hk8)
          clear hg0 hbf hr hkr hnh c0 hp1
          go_wp2_with fail
          go_ret2
          refine ⟨_, _, _, rfl, ((HK1.out.trans HK.out).mono fun k _ hf => hf.elim).trans HP.out.2, HP.out.1, .inr (.inl ⟨hn0, hn1, ?_⟩)⟩
          rw [HKE.out]
          have := GiveS.page (D := D) (k := k) HNH.out j hj HG0.out HBF.out
          simpa using this
  · have HK := Lib.hid hk1
    have HA := Lib.hid h1
    clear hk1 h1 hT1
    go_wp2_with fail
    go_ret2
    exact ⟨_, _, D, rfl, HK.out.mono fun k _ hf => hf.elim, HA.out, .inr (.inr ⟨hn, rfl, rfl, rfl⟩)⟩
end Go.Proofs.YthnagihgjenimaaDoor
