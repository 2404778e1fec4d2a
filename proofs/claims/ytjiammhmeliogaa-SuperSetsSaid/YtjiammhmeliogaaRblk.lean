/- icehouseref07: Block. -/
import Derived.Test.YtjiammhmeliogaaEnc
namespace Go.Proofs.Ytjiammhmeliogaa
open Go.RowKit
set_option linter.unusedVariables false
set_option linter.unusedSimpArgs false
attribute [local go_sem ↓] exec_load27 exec_store27 exec_new27 exec_alloc27 exec_build27 zeroValue27
attribute [local go_sem] padr_some rowAt_drew hasRow_drew mayRow_drew run_cells27

def slen : Value → Nat
  | .slice _ n _ => n
  | _ => 0
theorem fill_step {T : List Int} {q : Nat} (hT : T.length = 64) (hq : q < 64) : (T.take q ++ List.replicate (64 - q) 0).set q (T.getD q 0) = T.take (q + 1) ++ List.replicate (64 - (q + 1)) 0 := by
  have hl : q < T.length := by omega
  rw [List.set_append_right _ _ (by simp; omega), List.take_succ_eq_append_getElem hl]
  have e : q - (T.take q).length = 0 := by simp; omega
  rw [e, show 64 - q = (64 - (q + 1)) + 1 by omega, List.replicate_succ, List.set_cons_zero]
  have e3 : T.getD q 0 = T[q] := by rw [List.getD_eq_getElem?_getD, List.getElem?_eq_getElem hl]; rfl
  rw [e3, List.append_assoc, List.singleton_append]
theorem grow_keeps' {w w1 w' : World} {o : Obj} {row : Option Nat} (hk : Keeps (fun _ => False) w w1) (hg : (w1.alloc o).grownBy w' row) (hr : ∀ g, row = some g → w.heap.size ≤ g) : Keeps (fun _ => False) w w' := grow_keeps (hk.alloc o) hg hr
def RBlkP (x : SX) (t : Int) (w : World) (e : Ending) (w' : World) : Prop := e = .returned (.agg (bk (sup x t)).toArray) ∧ Keeps (fun _ => False) w w'
theorem wrapU64 {x : Nat} (h : x ≤ 18446744073709551615) : IntKind.u64.wrap (x : Int) = (x : Int) := by
  rw [IntKind.wrap_u64]
  omega
set_option maxRecDepth 100000 in
set_option maxHeartbeats 4000000 in
theorem rblock_any (x : SX) (hm : x.may) (hx : x.Wf) (t : Int) (ht : u64 t) (w : World) : Calls Try.prog 43 #[x.val, .int .u64 t] w (RBlkP x t w) := by
  obtain ⟨b0, b1, hk0⟩ := enc_start w x
  obtain ⟨W0, hW0⟩ : ∃ W0, W0 = (w.alloc (.cells x.cells.toArray 71)).alloc (.cells (bk zb).toArray 27) := ⟨_, rfl⟩
  rw [← hW0] at b0 b1 hk0
  obtain ⟨i0, hi1, hz0, hz1, hz2⟩ := info_parts infoU8
  have HW0 := Lib.hid hW0
  have HB0 := Lib.hid b0
  have HB1 := Lib.hid b1
  have HK0 := Lib.hid hk0
  have hs0 := hk0.size
  clear b0 b1 hk0 hW0
  unfold SX.val SX.cells RBlkP at *
  obtain ⟨g1, g2⟩ := hx.ge
  obtain ⟨r1, r2⟩ := hx.re
  obtain ⟨s1, s2⟩ := hx.rs
  obtain ⟨f1, f2⟩ := hx.fl
  obtain ⟨t1, t2⟩ := ht
  obtain ⟨m1, m2, m3, m4, m5⟩ := hm
  obtain ⟨sg, sc, ge, re, rs, fl⟩ := x
  simp only at *
  obtain ⟨sg, rfl⟩ := Int.eq_ofNat_of_zero_le (show 0 ≤ sg by omega)
  obtain ⟨sc, rfl⟩ := Int.eq_ofNat_of_zero_le (show 0 ≤ sc by omega)
  obtain ⟨ge, rfl⟩ := Int.eq_ofNat_of_zero_le g1
  obtain ⟨re, rfl⟩ := Int.eq_ofNat_of_zero_le r1
  obtain ⟨rs, rfl⟩ := Int.eq_ofNat_of_zero_le s1
  obtain ⟨fl, rfl⟩ := Int.eq_ofNat_of_zero_le f1
  obtain ⟨t, rfl⟩ := Int.eq_ofNat_of_zero_le t1
  have n1 : sg ≤ 16 := by omega
  have n2 : sc ≤ 64 := by omega
  have n3 : ge ≤ 18446744073709551615 := by omega
  have n4 : re ≤ 18446744073709551615 := by omega
  have n5 : rs ≤ 18446744073709551615 := by omega
  have n6 : fl ≤ 18446744073709551615 := by omega
  have n7 : t ≤ 18446744073709551615 := by omega
  have HH8 : Hid (∀ W (z : Nat), z ≤ 18446744073709551615 → Calls Try.prog 71 #[.int .u64 (z : Nat), .int .i64 8] W (BytesP (hi (z : Int) 8) W)) := Lib.hid (fun W z h => high_any z 8 W h (by omega) (by omega))
  have HH2 : Hid (∀ W (z : Nat), z ≤ 65535 → Calls Try.prog 71 #[.int .u64 (z : Nat), .int .i64 2] W (BytesP (hi (z : Int) 2) W)) := Lib.hid (fun W z h => high_any z 2 W (by omega) (by omega) (by omega))
  have HBO : Hid (∀ W a b m n c1 c2 (xs ys : List Int), Row .u8 W a m xs → Row .u8 W b n ys → m ≤ 100 → n ≤ 100 → m ≤ c1 → n ≤ c2 → Calls Try.prog 70 #[.slice a m c1, .slice b n c2] W (BytesP (xs ++ ys) W)) := Lib.hid (fun W a b m n c1 c2 xs ys h1 h2 h3 h4 h5 h6 => both_any a b m n c1 c2 xs ys W h1 h2 (by omega) (by omega) h5 h6)
  have HKC := HK0
  clear g1 g2 r1 r2 s1 s2 f1 f2 t1 t2 m1 m2 m3 m4 m5 hx
  go_enter Try.func43, Try.ntmps43
  go_upto_region 1 with fail
  rw [← HW0.out]
  have kc := fun (w : World) (C : Array Value) (n c : Nat) => Lib.run_convert_bytes_const (P := Try.prog) w 116 5 C n c Try.underlying116 Try.underlying5
  have HRL := Lib.hid (row_mark W0 letters (8, 9))
  go_wp2_with fail
  refine (HH8.out _ t n7).mono ?_
  rintro e v1 ⟨rv, rfl, ho1, hk1⟩
  obtain ⟨a1, c1, rfl, hc1, hm1, hr1⟩ := own_bytes ho1
  rw [hi_len] at hc1 hr1 ⊢
  have HR1 := Lib.hid hr1
  have HRL1 := Lib.hid (HRL.out.quiet hk1)
  have HKA : Hid (Keeps (fun _ => False) W0 v1) := Lib.hid (((Keeps.refl (fun _ => False) W0).alloc _).trans hk1)
  clear ho1 hk1 hr1 hm1 kc
  go_wp2_with fail
  refine (HBO.out _ _ _ 8 8 8 c1 letters _ HRL1.out HR1.out (by omega) (by omega) (by omega) hc1).mono ?_
  rintro e v2 ⟨rv, rfl, ho2, hk2⟩
  obtain ⟨a2, c2, rfl, hc2, hm2, hr2⟩ := own_bytes ho2
  have hl2 : (letters ++ hi (t : Int) 8).length = 16 := by simp [hi_len, letters]
  rw [hl2] at hc2 hr2 ⊢
  have HA := Lib.hid hr2
  have HKB := Lib.hid (HKA.out.trans hk2)
  clear ho2 hk2 hr2 hm2 hl2 HKA HR1 HRL HRL1
  have q0 := (HKB.out.blk HB0.out id).cell (i := 0) rfl
  go_wp2_with fail
  refine (HH2.out _ sg (by omega)).mono ?_
  rintro e v3 ⟨rv, rfl, ho, hk⟩
  obtain ⟨b3, d3, rfl, hd3, hm3, hr⟩ := own_bytes ho
  rw [hi_len] at hd3 hr ⊢
  have HB3 := Lib.hid hr
  have HA3 := Lib.hid (HA.out.quiet hk)
  have HKB3 := Lib.hid (HKB.out.trans hk)
  clear ho hk hr hm3 q0 HKB HA
  go_wp2_with fail
  refine (HBO.out _ _ _ 16 2 c2 d3 _ _ HA3.out HB3.out (by omega) (by omega) hc2 hd3).mono ?_
  rintro e v4 ⟨rv, rfl, ho, hk⟩
  have hl : (((letters ++ hi (t : Int) 8) ++ hi (sg : Int) 2)).length = 18 := by simp [hi_len, letters]
  obtain ⟨a4, c4, rfl, hc4, hm4, hr⟩ := own_bytes ho
  rw [hl] at hc4 hr ⊢
  have HA := Lib.hid hr
  have HKB := Lib.hid (HKB3.out.trans hk)
  clear ho hk hr hm4 hl HA3 HB3 HKB3
  have q1 := (HKB.out.blk HB0.out id).cell (i := 1) rfl
  go_wp2_with fail
  refine (HH2.out _ sc (by omega)).mono ?_
  rintro e v5 ⟨rv, rfl, ho, hk⟩
  obtain ⟨b5, d5, rfl, hd5, hm5, hr⟩ := own_bytes ho
  rw [hi_len] at hd5 hr ⊢
  have HB5 := Lib.hid hr
  have HA5 := Lib.hid (HA.out.quiet hk)
  have HKB5 := Lib.hid (HKB.out.trans hk)
  clear ho hk hr hm5 q1 HKB HA
  go_wp2_with fail
  refine (HBO.out _ _ _ 18 2 c4 d5 _ _ HA5.out HB5.out (by omega) (by omega) hc4 hd5).mono ?_
  rintro e v6 ⟨rv, rfl, ho, hk⟩
  have hl : ((((letters ++ hi (t : Int) 8) ++ hi (sg : Int) 2) ++ hi (sc : Int) 2)).length = 20 := by simp [hi_len, letters]
  obtain ⟨a6, c6, rfl, hc6, hm6, hr⟩ := own_bytes ho
  rw [hl] at hc6 hr ⊢
  have HA := Lib.hid hr
  have HKB := Lib.hid (HKB5.out.trans hk)
  clear ho hk hr hm6 hl HA5 HB5 HKB5
  have q2 := (HKB.out.blk HB0.out id).cell (i := 2) rfl
  go_wp2_with fail
  refine (HH8.out _ ge n3).mono ?_
  rintro e v7 ⟨rv, rfl, ho, hk⟩
  obtain ⟨b7, d7, rfl, hd7, hm7, hr⟩ := own_bytes ho
  rw [hi_len] at hd7 hr ⊢
  have HB7 := Lib.hid hr
  have HA7 := Lib.hid (HA.out.quiet hk)
  have HKB7 := Lib.hid (HKB.out.trans hk)
  clear ho hk hr hm7 q2 HKB HA
  go_wp2_with fail
  refine (HBO.out _ _ _ 20 8 c6 d7 _ _ HA7.out HB7.out (by omega) (by omega) hc6 hd7).mono ?_
  rintro e v8 ⟨rv, rfl, ho, hk⟩
  have hl : (((((letters ++ hi (t : Int) 8) ++ hi (sg : Int) 2) ++ hi (sc : Int) 2) ++ hi (ge : Int) 8)).length = 28 := by simp [hi_len, letters]
  obtain ⟨a8, c8, rfl, hc8, hm8, hr⟩ := own_bytes ho
  rw [hl] at hc8 hr ⊢
  have HA := Lib.hid hr
  have HKB := Lib.hid (HKB7.out.trans hk)
  clear ho hk hr hm8 hl HA7 HB7 HKB7
  have q3 := (HKB.out.blk HB0.out id).cell (i := 3) rfl
  go_wp2_with fail
  refine (HH8.out _ re n4).mono ?_
  rintro e v9 ⟨rv, rfl, ho, hk⟩
  obtain ⟨b9, d9, rfl, hd9, hm9, hr⟩ := own_bytes ho
  rw [hi_len] at hd9 hr ⊢
  have HB9 := Lib.hid hr
  have HA9 := Lib.hid (HA.out.quiet hk)
  have HKB9 := Lib.hid (HKB.out.trans hk)
  clear ho hk hr hm9 q3 HKB HA
  go_wp2_with fail
  refine (HBO.out _ _ _ 28 8 c8 d9 _ _ HA9.out HB9.out (by omega) (by omega) hc8 hd9).mono ?_
  rintro e v10 ⟨rv, rfl, ho, hk⟩
  have hl : ((((((letters ++ hi (t : Int) 8) ++ hi (sg : Int) 2) ++ hi (sc : Int) 2) ++ hi (ge : Int) 8) ++ hi (re : Int) 8)).length = 36 := by simp [hi_len, letters]
  obtain ⟨a10, c10, rfl, hc10, hm10, hr⟩ := own_bytes ho
  rw [hl] at hc10 hr ⊢
  have HA := Lib.hid hr
  have HKB := Lib.hid (HKB9.out.trans hk)
  clear ho hk hr hm10 hl HA9 HB9 HKB9
  have q4 := (HKB.out.blk HB0.out id).cell (i := 4) rfl
  go_wp2_with fail
  refine (HH8.out _ rs n5).mono ?_
  rintro e v11 ⟨rv, rfl, ho, hk⟩
  obtain ⟨b11, d11, rfl, hd11, hm11, hr⟩ := own_bytes ho
  rw [hi_len] at hd11 hr ⊢
  have HB11 := Lib.hid hr
  have HA11 := Lib.hid (HA.out.quiet hk)
  have HKB11 := Lib.hid (HKB.out.trans hk)
  clear ho hk hr hm11 q4 HKB HA
  go_wp2_with fail
  refine (HBO.out _ _ _ 36 8 c10 d11 _ _ HA11.out HB11.out (by omega) (by omega) hc10 hd11).mono ?_
  rintro e v12 ⟨rv, rfl, ho, hk⟩
  have hl : (((((((letters ++ hi (t : Int) 8) ++ hi (sg : Int) 2) ++ hi (sc : Int) 2) ++ hi (ge : Int) 8) ++ hi (re : Int) 8) ++ hi (rs : Int) 8)).length = 44 := by simp [hi_len, letters]
  obtain ⟨a12, c12, rfl, hc12, hm12, hr⟩ := own_bytes ho
  rw [hl] at hc12 hr ⊢
  have HA := Lib.hid hr
  have HKB := Lib.hid (HKB11.out.trans hk)
  clear ho hk hr hm12 hl HA11 HB11 HKB11
  have q5 := (HKB.out.blk HB0.out id).cell (i := 5) rfl
  go_wp2_with fail
  refine (HH8.out _ fl n6).mono ?_
  rintro e v13 ⟨rv, rfl, ho, hk⟩
  obtain ⟨b13, d13, rfl, hd13, hm13, hr⟩ := own_bytes ho
  rw [hi_len] at hd13 hr ⊢
  have HB13 := Lib.hid hr
  have HA13 := Lib.hid (HA.out.quiet hk)
  have HKB13 := Lib.hid (HKB.out.trans hk)
  clear ho hk hr hm13 q5 HKB HA
  go_wp2_with fail
  refine (HBO.out _ _ _ 44 8 c12 d13 _ _ HA13.out HB13.out (by omega) (by omega) hc12 hd13).mono ?_
  rintro e v14 ⟨rv, rfl, ho, hk⟩
  have hl : ((((((((letters ++ hi (t : Int) 8) ++ hi (sg : Int) 2) ++ hi (sc : Int) 2) ++ hi (ge : Int) 8) ++ hi (re : Int) 8) ++ hi (rs : Int) 8) ++ hi (fl : Int) 8)).length = 52 := by simp [hi_len, letters]
  obtain ⟨S, hS⟩ : ∃ S : List Int, S = (((((((letters ++ hi (t : Int) 8) ++ hi (sg : Int) 2) ++ hi (sc : Int) 2) ++ hi (ge : Int) 8) ++ hi (re : Int) 8) ++ hi (rs : Int) 8) ++ hi (fl : Int) 8) := ⟨_, rfl⟩
  have hsh : shead ⟨sg, sc, ge, re, rs, fl⟩ t = S ++ [0, 0, 0, 0] := by rw [hS]; simp [shead]
  rw [← hS] at ho hl
  rw [hl] at ho
  have HKB := Lib.hid (HKB13.out.trans hk)
  have HOS := Lib.hid (own_base ho HKB13.out.size)
  have HSH := Lib.hid hsh
  have HSL := Lib.hid hl
  clear ho hk hl hS hsh HA13 HB13 HKB13
  go_wp2_with fail
  go_loopw [5] (fun v wr => ∃ m : Nat, 52 ≤ m ∧ m ≤ 56 ∧ wr.ownsRow W0.heap.size 5 1 v m (bk (S ++ List.replicate (m - 52) 0)) ∧ Keeps (fun _ => False) W0 wr) (fun v _ => 56 - slen v)
  case atStart => exact ⟨52, Nat.le_refl _, by omega, by simpa using HOS.out, HKB.out⟩
  case round =>
    obtain ⟨m, hm1, hm2, hown, hk⟩ := hrel
    have HOW := Lib.hid hown
    have HK := Lib.hid hk
    have hsr := hk.size
    obtain ⟨a, c, rfl, hac, hcm⟩ := own_slice hown
    unfold maxLen at hcm
    clear hown hk
    by_cases hlt : m < 56
    · go_wp2_with (at_builtin; refine wpList_append_own _ rfl (.tmp 48) (.tmp 49) 116 rfl W0.heap.size 5 i0 (.int .u8 0) 1 1 Try.underlying116 hi1 hz0 hz1 hz2 rfl (by decide) _ _ _ rfl (HOW.out.alloc _) ⟨wr.heap.size, 0, none⟩ 1 1 [.int .u8 0] rfl rfl (cell_one_new _ _ _) (by simp [Value.oneCell']) (by unfold maxLen; omega) (by omega) (by simp; omega) ?_)
      intro v' wz hown2 hg2 _
      have HO2 : Hid (wz.ownsRow W0.heap.size 5 1 v' (m + 1) (bk (S ++ List.replicate (m + 1 - 52) 0))) := Lib.hid (by
        rw [show m + 1 - 52 = (m - 52) + 1 by omega, List.replicate_succ', ← List.append_assoc, bk_snoc]
        exact hown2)
      have HK3 := Lib.hid (grow_keeps' HK.out hg2 fun g hg => (own_heap HOW.out hg).1)
      obtain ⟨a', c', rfl, _, _⟩ := own_slice HO2.out
      clear hown2 hg2
      go_wp2_with fail
      go_roundw
      case rel => exact ⟨m + 1, by omega, by omega, HO2.out, HK3.out⟩
      case measure => simp [slen]; omega
    · have hm56 : m = 56 := by omega
      subst hm56
      obtain ⟨Q, hQ⟩ : ∃ Q : List Int, Q = shead ⟨sg, sc, ge, re, rs, fl⟩ t := ⟨_, rfl⟩
      have hQl : Q.length = 56 := by rw [hQ]; exact shead_len _ _
      have ho56 := HOW.out
      have hSQ : S ++ List.replicate (56 - 52) 0 = Q := by rw [hQ, HSH.out]; rfl
      rw [hSQ] at ho56
      obtain ⟨h, hh, hh2⟩ := fnv_nat Q
      have hsup : sup ⟨sg, sc, ge, re, rs, fl⟩ t = Q ++ hi (h : Int) 8 := by unfold sup; rw [← hQ, hh]
      have hrow : Row .u8 wr a 56 Q := by
        obtain ⟨a', c', e, _, _, hr⟩ := own_bytes (l := Q) (by rw [hQl]; exact ho56)
        injection e with e1 e2 e3
        subst e1
        rw [hQl] at hr
        exact hr
      have HQR := Lib.hid hrow
      have HRH : Hid (Calls Try.prog 72 #[.slice a 56 c] wr fun e w' => e = .returned (.int .u64 (h : Int)) ∧ wr = w') := Lib.hid (by
        have := ref_hash a 56 c Q wr hrow (by omega)
        rwa [hh] at this)
      have HSUP := Lib.hid hsup
      have HQL := Lib.hid hQl
      clear hQ ho56 hSQ hh hsup hrow hQl
      go_wp2_with fail
      refine HRH.out.mono ?_
      rintro e y1 ⟨rfl, rfl⟩
      go_wp2_with fail
      refine (HH8.out _ h hh2).mono ?_
      rintro e y2 ⟨rv, rfl, ho, hk⟩
      obtain ⟨a7, c7, rfl, hc7, hm7, hr⟩ := own_bytes ho
      rw [hi_len] at hc7 hr ⊢
      have HR7 := Lib.hid hr
      have HQR7 := Lib.hid (HQR.out.quiet hk)
      have HK7 := Lib.hid (HK.out.trans hk)
      clear ho hk hr hm7
      go_wp2_with fail
      refine (HBO.out _ _ _ 56 8 c c7 Q _ HQR7.out HR7.out (by omega) (by omega) hac hc7).mono ?_
      rintro e y3 ⟨rv, rfl, ho, hk⟩
      obtain ⟨T, hT⟩ : ∃ T : List Int, T = Q ++ hi (h : Int) 8 := ⟨_, rfl⟩
      have hTl : T.length = 64 := by rw [hT, List.length_append, HQL.out, hi_len]
      rw [← hT] at ho
      obtain ⟨a8, c8, rfl, hc8, hm8, hr⟩ := own_bytes ho
      rw [hTl] at hc8 hr ⊢
      have HT := Lib.hid hT
      have HTL := Lib.hid hTl
      have HR8 := Lib.hid hr
      have HK8 := Lib.hid (HK7.out.trans hk)
      clear ho hk hr hm8 hT hTl
      go_wp2_with fail
      have HB6 : Hid (Blk (y3.alloc (.cells (bk zb).toArray 27)) y3.heap.size 27 (bk (T.take 0 ++ List.replicate (64 - 0) 0))) := Lib.hid (by
        have := Blk.new y3 27 (bk zb)
        simpa [zb] using this)
      have hs8 := HK8.out.size
      go_loopw [7] (fun v wx => ∃ q : Nat, q ≤ 64 ∧ v = .int .i64 q ∧ Blk wx y3.heap.size 27 (bk (T.take q ++ List.replicate (64 - q) 0)) ∧ Keeps (fun k => k = y3.heap.size) y3 wx) (fun v _ => 64 - (intOf v).toNat)
      case atStart => exact ⟨0, Nat.zero_le _, rfl, HB6.out, (Keeps.refl _ _).alloc _⟩
      case round =>
        obtain ⟨q, hq, rfl, hb, hk⟩ := hrel
        have HBQ := Lib.hid hb
        have HKQ := Lib.hid hk
        have hsw := hk.size
        by_cases hlt : q < 64
        · obtain ⟨ad, rfl, hcell⟩ := HR8.out.2 q hlt
          have hadl : (ad.add q).block < y3.heap.size := by
            rcases Nat.lt_or_ge (ad.add q).block y3.heap.size with h' | h'
            · exact h'
            · simp [World.cell?, Array.getElem?_eq_none h'] at hcell
          have hcell2 := (hk.cell (p := ad.add q) hadl (by intro e; have e : (ad.add q).block = y3.heap.size := e; omega)).trans hcell
          have hll : (T.take q ++ List.replicate (64 - q) (0 : Int)).length = 64 := by simp [HTL.out]; omega
          have hcur := hb.cell (i := q) (v := .int .u8 ((T.take q ++ List.replicate (64 - q) (0 : Int)).getD q 0)) (bk_at (by omega))
          have hfr := hb.free q
          have hst := hb.store q (.int .u8 (T.getD q 0))
          rw [bk_set, fill_step HTL.out hlt] at hst
          obtain ⟨z, hz⟩ : ∃ z, z = T.getD q 0 := ⟨_, rfl⟩
          rw [← hz] at hcell2 hst
          have HST := Lib.hid hst
          have HK9 := Lib.hid (hk.store (p := ⟨y3.heap.size, q, none⟩) (.inl rfl) (.int .u8 z))
          clear hb hk hcell hst hll hz
          go_wp2_with fail
          go_roundw
          case rel => exact ⟨q + 1, by omega, by go_num, HST.out, HK9.out⟩
          case measure => simp [intOf]; omega
        · have hq64 : q = 64 := by omega
          subst hq64
          have hbT : Blk wr y3.heap.size 27 (bk T) := by
            have := hb
            rw [List.take_of_length_le (by rw [HTL.out]; exact Nat.le_refl _)] at this
            simpa using this
          obtain ⟨x1, x2, x3⟩ := blkRow hbT (n := 64) (by rw [bk_len, HTL.out])
          have hl1 := HB1.out.lt
          have hb1f := hk.blk (HK8.out.blk HB1.out id) (by intro e; have e : w.heap.size + 1 = y3.heap.size := e; omega)
          obtain ⟨y1, y2, y4⟩ := blkRow hb1f (n := 64) (by rw [bk_len, zb_len])
          have hbl : (bk T).length = 64 := by rw [bk_len, HTL.out]
          have hone : oneAll (bk T).toArray = true := one_bk _
          have HKF : Hid (Keeps (fun _ => False) w wr) := Lib.hid ((((HK0.out.trans HK8.out).mono (S' := fun k => k = y3.heap.size) fun _ _ hf => hf.elim).trans hk).mono fun k hk' e => by have e : k = y3.heap.size := e; omega)
          have HB1F := Lib.hid hb1f
          have HTS : Hid (sup ⟨sg, sc, ge, re, rs, fl⟩ t = T) := Lib.hid (by rw [HSUP.out, HT.out])
          clear hk hb1f hbT hb
          go_wp2_with fail
          have b15 := blk_over HB1F.out (hbl.trans (by rw [bk_len, zb_len] : (bk zb).length = 64).symm)
          refine bodyPost_ret (result27 rfl rfl hbl b15) rfl ⟨by rw [HTS.out], enc_fin HKF.out (Nat.le_succ _)⟩
end Go.Proofs.Ytjiammhmeliogaa
