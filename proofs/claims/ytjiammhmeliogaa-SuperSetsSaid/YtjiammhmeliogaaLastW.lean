/- DiskLast, walked. -/
import Derived.Test.YtjiammhmeliogaaLast
namespace Go.Proofs.Ytjiammhmeliogaa
open Go.RowKit
set_option linter.unusedVariables false
set_option linter.unusedSimpArgs false
attribute [local go_sem ↓] exec_load27 exec_new27 exec_alloc27 zeroValue27 zeroValue28
attribute [local go_sem] padr_some rowAt_drew hasRow_drew mayRow_drew run_cells27 eq27_self

/-- The n ops of which the law plays the first 120. -/
theorem min_take (os : List OpT) {n : Nat} (h : os.length = n) : os.take (min n 120) = os.take 120 := by
  by_cases h' : n ≤ 120
  · rw [Nat.min_eq_left h', List.take_of_length_le (by omega), List.take_of_length_le (by omega)]
  · rw [Nat.min_eq_right (by omega)]

theorem wornD_calm (os : List OpT) : Calm 120 (wornD os) := by
  have h := wornL_calm (os.take 120) (os.take 120).length (Nat.le_refl _)
  rw [List.take_length] at h
  have hl : (os.take 120).length ≤ 120 := by simp; omega
  have h5 := h.ops
  have h6 := h.p
  exact ⟨h.n, h.dead, h.armed, h.fails, by show (wornL (DD.fresh 6) (os.take 120)).ops ≤ (120 : Int); omega, by show (wornL (DD.fresh 6) (os.take 120)).p.length ≤ 120; omega⟩
theorem wornD_last (os : List OpT) (i : Nat) : (wornD os).holds i = lastL (fun _ => zb) (os.take 120) i := by
  have h := last_holds (os.take 120) (os.take 120).length (Nat.le_refl _) i
  rw [List.take_length] at h
  exact h

set_option maxRecDepth 100000 in
set_option maxHeartbeats 4000000 in
theorem last_law (a : Option Addr) (n c : Nat) (os : List OpT) (w : World) (hr : OpRow w.heap.size w a n os) (hn : n ≤ c) (hc : c ≤ maxLen) : Calls Try.prog 3 #[.slice a n c] w fun e w' => e = .returned (.bool true) ∧ Keeps (fun _ => False) w w' := by
  have HR := Lib.hid hr
  have HF := Lib.hid (fun w => few_any a n c w hn hc)
  have HNC := Lib.hid hn
  have HMC := Lib.hid hc
  have hlen := hr.1
  clear hr
  go_enter Try.func3, Try.ntmps3
  go_wp2_with fail
  refine (wakes_any w).mono ?_
  rintro e w1 ⟨rfl, hk1⟩
  have HK1 := Lib.hid hk1
  have hs1 := hk1.size
  have HWN := Lib.hid (worn_any a n c os w1 (by
    have h := HR.out.keep (Nat.le_refl _) hk1 fun _ h => h.elim
    exact ⟨h.1, fun i o ho => by obtain ⟨b, off, h1, h2, h3⟩ := h.2 i o ho; exact ⟨b, off, h1, by omega, h3⟩⟩) hn hc)
  clear hk1
  go_wp2_with fail
  refine HWN.out.mono ?_
  rintro e w2 ⟨L, rfl, hd, hown, hk2⟩
  have HD := Lib.hid hd
  have HO := Lib.hid hown
  have HOL := Lib.hid hd.lt
  have HK2 := Lib.hid (HK1.out.trans hk2)
  have hs2 := hk2.size
  obtain ⟨B, hB⟩ : ∃ B, B = L.B := ⟨_, rfl⟩
  have hLp : L.ptr = .pointer (some ⟨B, 0, none⟩) := by rw [hB]; rfl
  rw [hLp]
  have HLP := Lib.hid hLp
  clear hd hown hk2 hLp hB hn hc
  go_wp2_with fail
  refine (HF.out _).mono ?_
  rintro e w3 ⟨rfl, hw3⟩
  obtain ⟨m, hm⟩ : ∃ m, m = min n 120 := ⟨_, rfl⟩
  rw [← hm]
  have hml : m ≤ n := by omega
  have hm120 : m ≤ 120 := by omega
  have HM := Lib.hid hm
  have b0 : Blk w3 w2.heap.size 28 (flat (fun _ => zb) 6) := by rw [hw3]; exact Blk.new w2 28 _
  have k3 : Keeps (fun _ => False) w2 w3 := by rw [hw3]; exact (Keeps.refl _ _).alloc _
  have HB0 := Lib.hid b0
  have HK3 := Lib.hid k3
  have hs3 := k3.size
  have hlt3 := b0.lt
  clear hm hw3 b0 k3
  go_wp2_with fail
  go_loopw [18] (fun i wr => ∃ t : Nat, t ≤ m ∧ i = .int .i64 t ∧ Blk wr w2.heap.size 28 (flat (lastL (fun _ => zb) (os.take t)) 6) ∧ Keeps (fun k => k = w2.heap.size) w3 wr) (fun i _ => m - (intOf i).toNat)
  case atStart => exact ⟨0, Nat.zero_le _, rfl, HB0.out, Keeps.refl _ _⟩
  case round =>
    obtain ⟨t, ht, rfl, hb, hk⟩ := hrel
    have hswr := hk.size
    by_cases hlt : t < m
    · obtain ⟨o, ho⟩ : ∃ o, os[t]? = some o := ⟨_, List.getElem?_eq_getElem (by omega)⟩
      obtain ⟨b, off, rfl, hbb, hrow⟩ := HR.out.2 t o ho
      have hkw : Keeps (fun k => k = w2.heap.size) w wr := ((HK2.out.trans HK3.out).mono fun _ _ h => h.elim).trans hk
      have hrow' : wr.rangeAt b (off + t * 4) (opc o) := fun j v hv => (hkw.cell (p := ⟨b, off + t * 4 + j, none⟩) hbb (by show ¬ (b = _); omega)).trans (hrow j v hv)
      have g0 := hrow' 0 _ rfl
      have g1 := hrow' 1 _ rfl
      have g2 := hrow' 2 _ rfl
      have g3 := hrow' 3 _ rfl
      rw [Nat.add_zero] at g0
      have hlt' : (t : Int) < (m : Int) := by omega
      have HT := Lib.hid (lastL_take (F := fun _ => zb) ho)
      have HLN := Lib.hid (last_len os t (by omega))
      have HBl := Lib.hid hb
      have HK := Lib.hid hk
      clear hb hk hkw hrow hrow' ho
      go_wp2_with fail
      refine (kind_any o.k o.a o.f (.slice o.va o.vn o.vc) _).mono ?_
      rintro e w4 ⟨rfl, hw4⟩
      have hq : Keeps (fun _ => False) wr w4 := by rw [hw4]; exact ((Keeps.refl _ _).alloc _).alloc _
      have hob : Blk w4 wr.heap.size 32 [.int .i64 o.k, .int .i64 o.a, .int .u8 o.f, .slice o.va o.vn o.vc] := by rw [hw4]; exact (Blk.new wr 32 _).alloc _
      have u1 := hob.cell (i := 1) rfl
      have u2 := hob.cell (i := 2) rfl
      have HQ := Lib.hid hq
      have HOB := Lib.hid hob
      have hs4 := hq.size
      clear hq hob hw4
      have hl : (bk (blk o.f)).length = 64 := by rw [bk_len, blk_len]
      have hone : oneAll (bk (blk o.f)).toArray = true := all_oneCell_toArray bk_one
      by_cases h1 : opk o.k = 1
      · rw [h1]
        by_cases h2 : 0 ≤ o.a
        · by_cases h3 : o.a < 6
          · rw [if_pos ⟨h1, h2, h3⟩] at HT
            obtain ⟨j, hj⟩ : ∃ j : Nat, o.a = (j : Int) := ⟨o.a.toNat, by omega⟩
            have hj6 : j < 6 := by omega
            have hj6' : (j : Int) < 6 := by omega
            rw [hj, Int.toNat_natCast] at HT
            rw [hj] at u1
            have HJ := Lib.hid hj
            have HH1 := Lib.hid h1
            clear h1 h2 h3 hj
            go_wp2_with fail
            go_region_with (go_at_call 19; refine (block_any o.f _).mono ?_; rintro e w5 ⟨rfl, hk5⟩; have hk5' : Keeps (fun _ => False) w4 w5 := (by first | exact hk5 | exact (Keeps.refl (fun _ => False) w4).drew.trans hk5); have HK5 := Lib.hid hk5'; have v1 := (HK5.out.blk HOB.out id).cell (i := 1) rfl; rw [HJ.out] at v1; have hm5 := blk_flat_may (HK5.out.blk (HQ.out.blk HBl.out id) id) hj6 (fun i _ => HLN.out i); clear hk5 hk5')
            all_goals
              have HB5 : Hid (Blk (w5.setCells w2.heap.size (j * 64) (bk (blk o.f))) w2.heap.size 28 (flat (lastL (fun _ => zb) (os.take (t + 1))) 6)) := Lib.hid (by rw [HT.out]; exact blk_flat_store (HK5.out.blk (HQ.out.blk HBl.out id) id) hj6 (fun i _ => HLN.out i) (blk_len _))
              have HKK : Hid (Keeps (fun k => k = w2.heap.size) w3 (w5.setCells w2.heap.size (j * 64) (bk (blk o.f)))) := Lib.hid ((HK.out.trans ((HQ.out.trans HK5.out).mono fun _ _ h => h.elim)).trans (setCells_keeps _ _ _ _))
              go_wp2_with fail
              go_roundw
              case rel => exact ⟨t + 1, by omega, by go_num, HB5.out, HKK.out⟩
              case measure => simp [intOf]; omega
          · rw [if_neg (fun h => h3 h.2.2)] at HT
            go_wp2_with fail
            go_roundw
            case rel => exact ⟨t + 1, by omega, by go_num, by rw [HT.out]; exact HQ.out.blk HBl.out id, HK.out.trans (HQ.out.mono fun _ _ h => h.elim)⟩
            case measure => simp [intOf]; omega
        · rw [if_neg (fun h => h2 h.2.1)] at HT
          go_wp2_with fail
          go_roundw
          case rel => exact ⟨t + 1, by omega, by go_num, by rw [HT.out]; exact HQ.out.blk HBl.out id, HK.out.trans (HQ.out.mono fun _ _ h => h.elim)⟩
          case measure => simp [intOf]; omega
      · rw [if_neg (fun h => h1 h.1)] at HT
        have h1' : (opk o.k == 1) = false := by rw [beq_eq_false_iff_ne]; exact h1
        go_wp2_with fail
        go_roundw
        case rel => exact ⟨t + 1, by omega, by go_num, by rw [HT.out]; exact HQ.out.blk HBl.out id, HK.out.trans (HQ.out.mono fun _ _ h => h.elim)⟩
        case measure => simp [intOf]; omega
    · obtain rfl : t = m := by omega
      have hca := wornD_calm os
      have hdw : DkAt wr L (wornD os) := (HD.out.quiet HK3.out).keep hk fun k hkk e => by
        have h1 := HOL.out k hkk
        have e' : k = w2.heap.size := e
        omega
      have hbl : Blk wr w2.heap.size 28 (flat (wornD os).holds 6) := by
        have h := hb
        rw [HM.out, min_take os hlen] at h
        rwa [flat_congr (g := (wornD os).holds) fun i _ => (wornD_last os i).symm] at h
      have hfl : ∀ i, i < 6 → ((wornD os).holds i).length = 64 := fun i hi => holds_len hdw (by rw [hca.n]; exact hi)
      have hh := held_any L (wornD os) wr hdw ⟨hca.dead, hca.fails⟩ (by have := hca.ops; omega)
      rw [HLP.out] at hh
      have HH := Lib.hid hh
      have HN6 := Lib.hid hca.n
      have HBL := Lib.hid hbl
      have HFL := Lib.hid hfl
      have HKW : Hid (Keeps (fun _ => False) w wr) := Lib.hid ((((HK2.out.trans HK3.out).mono fun _ _ h => h.elim).trans hk).mono fun k hk' e => by have e' : k = w2.heap.size := e; omega)
      have HLB : Hid (L.B < w2.heap.size ∧ w1.heap.size ≤ L.B) := Lib.hid ⟨HOL.out _ (.inl rfl), HO.out _ (.inl rfl)⟩
      clear hb hk hca hdw hbl hfl hh
      go_wp2_with fail
      refine HH.out.mono ?_
      rintro e w5 ⟨rv, rfl, hrow, _, hk5⟩
      rw [HN6.out] at hrow
      obtain ⟨g, cap, rfl, hcap, hmx, hg⟩ := own_some hrow (by omega)
      have hb5 : Blk w5 w2.heap.size 28 (flat (wornD os).holds 6) := hk5.blk HBL.out (by show ¬ (_ = L.B); have := HLB.out.1; omega)
      have HRW := Lib.hid hrow
      have HB5 := Lib.hid hb5
      have HK5 := Lib.hid hk5
      have hl5 := hb5.lt
      clear hrow hk5 hb5
      go_wp2_with fail
      obtain ⟨wo, rfl⟩ : ∃ wo : World, wo = wr := ⟨_, rfl⟩
      go_loopw [45] (fun i wq => ∃ t : Nat, t ≤ 6 ∧ i = .int .i64 t ∧ Keeps (fun _ => False) w5 wq) (fun i _ => 6 - (intOf i).toNat)
      case atStart => exact ⟨0, Nat.zero_le _, rfl, Keeps.refl _ _⟩
      case round =>
        obtain ⟨s, hs, rfl, hkq⟩ := hrel
        by_cases hlt6 : s < 6
        · have hl : (bk ((wornD os).holds s)).length = 64 := by rw [bk_len]; exact HFL.out s hlt6
          have hls := HFL.out s hlt6
          have hone : oneAll (bk ((wornD os).holds s)).toArray = true := all_oneCell_toArray bk_one
          have hzl : (bk zb).length = 64 := by rw [bk_len, zb_len]
          have hq2 : Keeps (fun _ => False) w5 (wr.alloc (.cells (bk ((wornD os).holds s)).toArray 27)) := hkq.alloc _
          have r1 : wr.rangeAt g (s * 64) (bk ((wornD os).holds s)) := fun j v hv => (hkq.cell (p := ⟨g, s * 64 + j, none⟩) hg id).trans (own_block HRW.out HFL.out hlt6 j v hv)
          have r2 : (wr.alloc (.cells (bk ((wornD os).holds s)).toArray 27)).rangeAt w2.heap.size (s * 64) (bk ((wornD os).holds s)) := fun j v hv => (hq2.cell (p := ⟨w2.heap.size, s * 64 + j, none⟩) hl5 id).trans (blk_flat_at HB5.out hlt6 HFL.out j v hv)
          obtain ⟨x1, x2⟩ := held_new (W := wr) hl
          have y1 := hasRow_of r1 hl
          have y2 := rowAt_of r1 hl
          have z1 := hasRow_of r2 hl
          have z2 := rowAt_of r2 hl
          have hlt6' : (s : Int) < 6 := by omega
          have HKQ := Lib.hid hkq
          have HQ2 := Lib.hid hq2
          clear r1 r2 hkq hq2
          go_wp2_with fail
          go_region
          all_goals
            go_wp2_with fail
            go_roundw
            case rel => exact ⟨s + 1, by omega, by go_num, HQ2.out.drew⟩
            case measure => simp [intOf]; omega
        · obtain rfl : s = 6 := by omega
          go_wp2_with fail
          go_ret
          refine ⟨rfl, ?_⟩
          have hx := (((HKW.out.mono fun _ _ h => h.elim).trans HK5.out).trans (hkq.mono fun _ _ h => h.elim))
          exact hx.mono fun k hk' e => by have e' : k = L.B := e; have := HLB.out.2; omega
end Go.Proofs.Ytjiammhmeliogaa
