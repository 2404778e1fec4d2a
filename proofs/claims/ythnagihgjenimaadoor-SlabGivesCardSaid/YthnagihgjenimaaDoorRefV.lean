/- icehouseref11: Give. -/
import Derived.Test.YthnagihgjenimaaDoorRefT
namespace Go.Proofs.YthnagihgjenimaaDoor
open Go.RowKit
set_option linter.unusedVariables false
set_option linter.unusedSimpArgs false

theorem low_eq {g q : Nat} (hg : g < 4294967296) (hq : q < 32) (h : ∀ b, b < q → bitN g b = 1) (h0 : bitN g q = 0) : low g = q := by
  have h1 := low_le hg h0 hq
  obtain ⟨_, h2, _⟩ := low_spec g hg
  rcases Nat.lt_or_ge (low g) q with h3 | h3
  · have := h _ h3
    have := h2 (by omega)
    omega
  · omega
theorem low_ge {g c : Nat} (hg : g < 4294967296) (hc : c ≤ 32) (h : ∀ b, b < c → bitN g b = 1) : c ≤ low g := by
  obtain ⟨h1, h2, _⟩ := low_spec g hg
  rcases Nat.lt_or_ge (low g) c with h3 | h3
  · have := h _ h3
    have := h2 (by omega)
    omega
  · exact h3
def RGiveP (D : AD) (z : Int) (w : World) (e : Ending) (w' : World) : Prop := ∃ r q D' Y, e = .returned (.tuple #[RG.val Y D.n, .int .i64 r, .int .i64 q]) ∧ RgAt w' Y D.n (gv D') ∧ Keeps (fun _ => False) w w' ∧
    ((z < 0 ∧ r = 0 ∧ q = 2 ∧ D' = D) ∨ (0 ≤ z ∧ z ≤ 1024 ∧ GiveS D (cls z) r q D') ∨ (1024 < z ∧ r = 0 ∧ q = 3 ∧ D' = D))
/-- Behind q places of the page t, all given; the page is of the class where one was looked at. -/
def InnS (D : AD) (k t q : Nat) : Prop := (∀ b, b < q → bitN (D.g t) b = 1) ∧ (q ≠ 0 → D.g t ≠ 0 ∧ D.c t = k)
set_option maxRecDepth 100000 in
set_option maxHeartbeats 2000000 in
theorem rgive_any (X : RG) (D : AD) (hD : D.Ok) (w : World) (h : RgAt w X D.n (gv D)) (z : Int) : Calls Tryd.prog 29 #[X.val D.n, .int .i64 z] w (RGiveP D z w) := by
  obtain ⟨hcap, hmx⟩ := h.cap
  have n2 := h.n2
  obtain ⟨b0, b1, hk0⟩ := two_blocks w (.slice (some ⟨X.O, 0, none⟩) D.n X.cap)
  obtain ⟨W0, hW0⟩ : ∃ W0, W0 = (w.alloc (.cells #[.slice (some ⟨X.O, 0, none⟩) D.n X.cap] 40)).alloc (.cells #[.slice none 0 0] 40) := ⟨_, rfl⟩
  rw [← hW0] at b0 b1 hk0
  have HX0 := Lib.hid (h.quiet hk0)
  have HCL := Lib.hid (rclass_any z W0)
  have HD := Lib.hid hD
  have HK0 := Lib.hid hk0
  have HB0 := Lib.hid b0
  have HB1 := Lib.hid b1
  clear hk0 b0 b1 h hD
  unfold maxLen at hmx
  unfold RG.val at *
  go_enter Tryd.func29, Tryd.ntmps29
  go_wp2_with fail
  rw [← hW0]
  clear hW0
  refine HCL.out.mono ?_
  rintro e w1 ⟨c, f, rfl, hcs, hk1⟩
  have b0 := hk1.blk HB0.out id
  have b1 := hk1.blk HB1.out id
  have c0 := b0.cell (i := 0) rfl
  have c1 := b1.cell (i := 0) rfl
  have f1 := b1.free 0
  have HX1 := Lib.hid (HX0.out.quiet hk1)
  have HK1 := Lib.hid (HK0.out.trans hk1)
  have HB0' := Lib.hid b0
  have HB1' := Lib.hid b1
  have hl0 := b0.lt
  have hl1 := b1.lt
  clear hk1 b0 b1
  have hbad : ∀ fe : Int, f = fe → fe ≠ 0 → ((z < 0 ∧ fe = 2) ∨ (1024 < z ∧ fe = 3)) → f ≠ 0 := fun fe a b _ => by omega
  clear hbad
  rcases hcs with ⟨hn, rfl, rfl⟩ | ⟨hn0, hn1, rfl, rfl⟩ | ⟨hn, rfl, rfl⟩
  · obtain ⟨r1, r2, r3⟩ := rg_result HX1.out HB1'.out HK1.out (Nat.le_succ _) (.slice (some ⟨X.O, 0, none⟩) D.n X.cap)
    have R1 := Lib.hid r1
    have R3 := Lib.hid r3
    have HN := Lib.hid hn
    clear r1 r3 hn
    go_wp2_with fail
    exact bodyPost_ret (v := .tuple #[.agg #[.slice (some ⟨X.O, 0, none⟩) D.n X.cap], .int .i64 0, .int .i64 2]) (by simp [results, Tryd.f29, go_sem, r2]) rfl ⟨_, _, D, X, rfl, R1.out, R3.out, .inl ⟨HN.out, rfl, rfl, rfl⟩⟩
  · have HZ : Hid (0 ≤ z ∧ z ≤ 1024) := Lib.hid ⟨hn0, hn1⟩
    have hk8 := cls_lt z
    obtain ⟨k, hk⟩ : ∃ k, cls z = k := ⟨_, rfl⟩
    have HKE := Lib.hid hk
    rw [hk] at hk8 ⊢
    have hch := chk_le k
    have hcp := chk_pos hk8
    have hsi : sizeI (k : Nat) = szOf k := by unfold sizeI; rw [if_pos (by omega)]; simp
    have hsp : 1 ≤ szOf k := (sz_div k hk8).1
    have hci : chunkI (k : Nat) = chk k := by unfold chunkI; rw [if_pos (by omega)]; simp
    have hqu := chunk_quo (k : Nat)
    rw [hsi, hci] at hqu
    have hqu := hqu (by omega)
    have HSZ := Lib.hid (fun W => rsize_any (k : Nat) W)
    rw [hsi] at HSZ
    have hsl := sz_le k
    obtain ⟨so, hso⟩ : ∃ so, so = szOf k := ⟨_, rfl⟩
    rw [← hso] at hqu HSZ hsp hsl
    have HQ := Lib.hid hqu
    have hsnz : ((so : Int) == 0) = false := by rw [beq_eq_false_iff_ne]; omega
    have hs0 : (0 : Int) < so := by omega
    have HOF := Lib.hid (fun i (hi : i < D.n) W (hW : Keeps (fun _ => False) w1 W) => of_any X D HD.out W (HX1.out.quiet hW) i hi)
    clear hk hsi hci hqu hso hn0 hn1
    unfold RG.val at *
    go_wp2_with fail
    go_loopw [9] (fun i wr => ∃ t : Nat, t ≤ D.n ∧ i = .int .i64 t ∧ (∀ j, j < t → ¬ D.hit k j) ∧ Keeps (fun _ => False) w1 wr) (fun i _ => D.n - (intOf i).toNat)
    case atStart => exact ⟨0, Nat.zero_le _, rfl, fun j hj => absurd hj (Nat.not_lt_zero _), Keeps.refl _ _⟩
    case round =>
      obtain ⟨t, ht, rfl, hnh, hkr⟩ := hrel
      have HNH := Lib.hid hnh
      have HKR := Lib.hid hkr
      have z0 := (hkr.cell (p := ⟨w.heap.size, 0, none⟩) hl0 id).trans c0
      have hsr := hkr.size
      clear hnh hkr
      by_cases hlt : t < D.n
      · go_wp2_with fail
        go_loopw [10] (fun b wr => ∃ q : Nat, q ≤ chk k ∧ b = .int .i64 q ∧ InnS D k t q ∧ Keeps (fun _ => False) w1 wr) (fun b _ => chk k - (intOf b).toNat)
        case atStart => exact ⟨0, Nat.zero_le _, rfl, ⟨fun b hb => absurd hb (Nat.not_lt_zero _), fun h => absurd rfl h⟩, HKR.out⟩
        case round =>
          obtain ⟨q, hq, rfl, hin, hkr2⟩ := hrel
          have HIN := Lib.hid hin
          have HKR2 := Lib.hid hkr2
          have z0 := (hkr2.cell (p := ⟨w.heap.size, 0, none⟩) hl0 id).trans c0
          have hsr := hkr2.size
          clear hin hkr2
          go_wp2_with fail
          refine (HSZ.out _).mono ?_
          rintro e w3 ⟨rfl, hk3⟩
          have HK3 := Lib.hid (HKR2.out.trans hk3)
          have z3 := (hk3.cell (p := ⟨w.heap.size, 0, none⟩) (by show w.heap.size < _; omega) id).trans z0
          have hs3 := hk3.size
          clear hk3
          by_cases hqc : q < chk k
          · have hqd : decide ((q : Int) < (1024 : Int) / (so : Int)) = true := by rw [HQ.out]; simp; omega
            have HQC := Lib.hid hqc
            have hq32 : q < 32 := by omega
            have hof : D.of t = (k : Nat) ∨ D.of t ≠ (k : Nat) := by omega
            rcases hof with hof | hof
            · have hpg : D.g t ≠ 0 ∧ D.c t = k := by
                unfold AD.of at hof
                by_cases e : D.g t = 0
                · rw [if_pos e] at hof; omega
                · rw [if_neg e] at hof; exact ⟨e, by omega⟩
              have HPG := Lib.hid hpg
              have HOT := Lib.hid (HOF.out t hlt _ HK3.out)
              rw [hof] at HOT
              obtain ⟨y0, y1⟩ := (HX1.out.quiet HK3.out).cells t hlt
              have y2 := y1 q (by omega)
              have hOl := (HX1.out.quiet HK3.out).ltO
              have hRl := (HX1.out.quiet HK3.out).ltR hlt
              have hg8 := gv_le HD.out hlt q
              clear hof hpg y1 hqc
              unfold rowv at *
              go_wp2_with fail
              refine HOT.out.mono ?_
              rintro e w4 ⟨rfl, hk4⟩
              have z4 := (hk4.cell (p := ⟨w.heap.size, 0, none⟩) (by show w.heap.size < _; omega) id).trans z3
              have x0 := (hk4.cell (p := ⟨X.O, t, none⟩) hOl id).trans y0
              have x2 := (hk4.cell (p := ⟨X.R t, q, none⟩) hRl id).trans y2
              have HK4 := Lib.hid (HK3.out.trans hk4)
              clear hk4 y0 y2
              have hbl := bitN_le (D.g t) q
              by_cases hb : bitN (D.g t) q = 1
              · have HB := Lib.hid hb
                rw [gv_pos hb] at x2 hg8
                have hnz : (((D.c t + 1 : Nat) : Int) == 0) = false := by rw [beq_eq_false_iff_ne]; omega
                have hnz2 : (((D.c t : Nat) : Int) + 1 == 0) = false := by rw [beq_eq_false_iff_ne]; omega
                clear hb hbl
                go_wp2_with fail
                go_roundw
                case rel => exact ⟨q + 1, by have := HQC.out; omega, by go_num, ⟨fun b hb => by
                  by_cases e : b = q
                  · subst e; exact HB.out
                  · exact HIN.out.1 b (by omega), fun _ => HPG.out⟩, HK4.out⟩
                case measure => simp [intOf]; have := HQC.out; omega
              · have hb0 : bitN (D.g t) q = 0 := by omega
                have HLO := Lib.hid (low_eq (HD.out.g32 hlt) hq32 HIN.out.1 hb0)
                have HB := Lib.hid hb0
                rw [gv_zero hb] at x2 hg8
                have HW : Hid (Calls Tryd.prog 59 #[X.val D.n, .int .i64 (t : Nat), .int .i64 (q : Nat), .int .i64 ((k : Int) + 1)] w4 (WithP D.n (upd2 (gv D) t q (D.c t + 1)) w4)) := Lib.hid (by
                  have := with_any X D.n (gv D) w4 (HX1.out.quiet HK4.out) (fun a b ha _ => gv_le HD.out ha b) t q (D.c t + 1) hlt hq32 (by have := HPG.out.2; omega)
                  rw [HPG.out.2] at this ⊢
                  exact this)
                have b1w := HK4.out.blk HB1'.out id
                have B1W := Lib.hid b1w
                clear hb hbl hb0 b1w
                unfold RG.val at *
                go_wp2_with fail
                refine HW.out.mono ?_
                rintro e w5 ⟨Y, rfl, hy, hk5⟩
                have b1' := hk5.blk B1W.out id
                have d1 := b1'.cell (i := 0) rfl
                have e1 := b1'.free 0
                have hyf := hy.congr fun a ha b _ => gv_hit HB.out a b
                obtain ⟨r1, r2, r3⟩ := rg_result hyf b1' ((HK1.out.trans HK4.out).trans hk5) (Nat.le_succ _) (.slice (some ⟨Y.O, 0, none⟩) D.n Y.cap)
                have R1 := Lib.hid r1
                have R3 := Lib.hid r3
                clear hy hk5 b1' hyf r1 r3
                unfold RG.val
                go_wp2_with fail
                refine bodyPost_ret (v := .tuple #[.agg #[.slice (some ⟨Y.O, 0, none⟩) D.n Y.cap], .int .i64 (32 * (t : Int) + q), .int .i64 0]) (by simp [results, Tryd.f29, go_sem, r2]) rfl ⟨_, _, { D with g := updN D.g t (D.g t + 2 ^ q) }, Y, rfl, R1.out, R3.out, .inr (.inl ⟨HZ.out.1, HZ.out.2, ?_⟩)⟩
                have hh : D.hit k t := ⟨HPG.out.1, HPG.out.2, by rw [HLO.out]; exact HQC.out⟩
                have := GiveS.hit (D := D) (k := k) t hlt hh HNH.out
                rw [HLO.out] at this
                rw [HKE.out, show (32 * (t : Int) + q) = ((t * 32 + q : Nat) : Int) by omega]
                exact this
            · have HOT := Lib.hid (HOF.out t hlt _ HK3.out)
              have hofb : (D.of t == (k : Int)) = false := by simpa using hof
              have HNT : Hid (∀ j, j < t + 1 → ¬ D.hit k j) := Lib.hid (hit_next HNH.out (fun hh => by
                unfold AD.of at hof
                rw [if_neg hh.1, hh.2.1] at hof
                exact hof rfl))
              generalize D.of t = oft at *
              clear hof hqc
              go_wp2_with fail
              refine HOT.out.mono ?_
              rintro e w4 ⟨rfl, hk4⟩
              have HK4 := Lib.hid (HK3.out.trans hk4)
              clear hk4
              go_wp2_with fail
              go_roundw
              case rel => exact ⟨t + 1, by omega, by go_num, HNT.out, HK4.out⟩
              case measure => simp [intOf]; omega
          · have hqd : decide ((q : Int) < (1024 : Int) / (so : Int)) = false := by rw [HQ.out]; simp; omega
            obtain rfl : q = chk k := by omega
            have HNT : Hid (∀ j, j < t + 1 → ¬ D.hit k j) := Lib.hid (hit_next HNH.out (fun hh => by have := low_ge (HD.out.g32 hlt) hch HIN.out.1; have := hh.2.2; omega))
            clear hqc
            go_wp2_with fail
            go_roundw
            case rel => exact ⟨t + 1, by omega, by go_num, HNT.out, HK3.out⟩
            case measure => simp [intOf]; omega
      · obtain rfl : t = D.n := by omega
        go_wp2_with fail
        go_loopw [11] (fun i wr => ∃ t : Nat, t ≤ D.n ∧ i = .int .i64 t ∧ (∀ j, j < t → D.g j ≠ 0) ∧ Keeps (fun _ => False) w1 wr) (fun i _ => D.n - (intOf i).toNat)
        case atStart => exact ⟨0, Nat.zero_le _, rfl, fun j hj => absurd hj (Nat.not_lt_zero _), HKR.out⟩
        case round =>
          obtain ⟨t, ht, rfl, hnz, hkr2⟩ := hrel
          have HNZ := Lib.hid hnz
          have HKR2 := Lib.hid hkr2
          have z0 := (hkr2.cell (p := ⟨w.heap.size, 0, none⟩) hl0 id).trans c0
          have hsr := hkr2.size
          have hw2 := hkr2.blk HB1'.out id
          have d1 := hw2.cell (i := 0) rfl
          have e1 := hw2.free 0
          have B1W := Lib.hid hw2
          clear hnz hkr2 hw2
          by_cases hlt : t < D.n
          · have HOT := Lib.hid (HOF.out t hlt _ HKR2.out)
            by_cases hg0 : D.g t = 0
            · have hof : D.of t = -1 := by unfold AD.of; rw [if_pos hg0]
              rw [hof] at HOT
              have HG0 := Lib.hid hg0
              clear hof hg0
              go_wp2_with fail
              refine HOT.out.mono ?_
              rintro e w4 ⟨rfl, hk4⟩
              have HK4 := Lib.hid (HKR2.out.trans hk4)
              have HW : Hid (Calls Tryd.prog 59 #[X.val D.n, .int .i64 (t : Nat), .int .i64 0, .int .i64 ((k : Int) + 1)] w4 (WithP D.n (upd2 (gv D) t 0 (k + 1)) w4)) := Lib.hid
                (with_any X D.n (gv D) w4 (HX1.out.quiet HK4.out) (fun a b ha _ => gv_le HD.out ha b) t 0 (k + 1) hlt (by omega) (by omega))
              have b1w := HK4.out.blk HB1'.out id
              have z4 := (hk4.cell (p := ⟨w.heap.size, 0, none⟩) (by show w.heap.size < _; omega) id).trans z0
              have B1W := Lib.hid b1w
              clear hk4 b1w d1 e1
              unfold RG.val at *
              go_wp2_with fail
              refine HW.out.mono ?_
              rintro e w5 ⟨Y, rfl, hy, hk5⟩
              have b1' := hk5.blk B1W.out id
              have d1 := b1'.cell (i := 0) rfl
              have e1 := b1'.free 0
              have hyf := hy.congr fun a ha b _ => gv_page HG0.out a b
              obtain ⟨r1, r2, r3⟩ := rg_result hyf b1' ((HK1.out.trans HK4.out).trans hk5) (Nat.le_succ _) (.slice (some ⟨Y.O, 0, none⟩) D.n Y.cap)
              have R1 := Lib.hid r1
              have R3 := Lib.hid r3
              clear hy hk5 b1' hyf r1 r3
              unfold RG.val
              go_wp2_with fail
              refine bodyPost_ret (v := .tuple #[.agg #[.slice (some ⟨Y.O, 0, none⟩) D.n Y.cap], .int .i64 (32 * (t : Int)), .int .i64 0]) (by simp [results, Tryd.f29, go_sem, r2]) rfl ⟨_, _, { D with c := updN D.c t k, g := updN D.g t 1 }, Y, rfl, R1.out, R3.out, .inr (.inl ⟨HZ.out.1, HZ.out.2, ?_⟩)⟩
              have := GiveS.page (D := D) (k := k) HNH.out t hlt HG0.out HNZ.out
              rw [HKE.out, show (32 * (t : Int)) = ((t * 32 : Nat) : Int) by omega]
              exact this
            · have hof : D.of t = (D.c t : Nat) := by unfold AD.of; rw [if_neg hg0]
              rw [hof] at HOT
              have hdl : decide (((D.c t : Nat) : Int) < 0) = false := by simp
              have HNX : Hid (∀ j, j < t + 1 → D.g j ≠ 0) := Lib.hid (fun j hj => by
                by_cases e : j = t
                · subst e; exact hg0
                · exact HNZ.out j (by omega))
              clear hof hg0
              go_wp2_with fail
              refine HOT.out.mono ?_
              rintro e w4 ⟨rfl, hk4⟩
              have HK4 := Lib.hid (HKR2.out.trans hk4)
              clear hk4
              go_wp2_with fail
              go_roundw
              case rel => exact ⟨t + 1, by omega, by go_num, HNX.out, HK4.out⟩
              case measure => simp [intOf]; omega
          · obtain rfl : t = D.n := by omega
            obtain ⟨r1, r2, r3⟩ := rg_result (HX1.out.quiet HKR2.out) B1W.out (HK1.out.trans HKR2.out) (Nat.le_succ _) (.slice (some ⟨X.O, 0, none⟩) D.n X.cap)
            have R1 := Lib.hid r1
            have R3 := Lib.hid r3
            clear r1 r3
            go_wp2_with fail
            exact bodyPost_ret (v := .tuple #[.agg #[.slice (some ⟨X.O, 0, none⟩) D.n X.cap], .int .i64 0, .int .i64 6]) (by simp [results, Tryd.f29, go_sem, r2]) rfl ⟨_, _, D, X, rfl, R1.out, R3.out, .inr (.inl ⟨HZ.out.1, HZ.out.2, by rw [HKE.out]; exact .full HNH.out HNZ.out⟩)⟩
  · obtain ⟨r1, r2, r3⟩ := rg_result HX1.out HB1'.out HK1.out (Nat.le_succ _) (.slice (some ⟨X.O, 0, none⟩) D.n X.cap)
    have R1 := Lib.hid r1
    have R3 := Lib.hid r3
    have HN := Lib.hid hn
    clear r1 r3 hn
    go_wp2_with fail
    exact bodyPost_ret (v := .tuple #[.agg #[.slice (some ⟨X.O, 0, none⟩) D.n X.cap], .int .i64 0, .int .i64 3]) (by simp [results, Tryd.f29, go_sem, r2]) rfl ⟨_, _, D, X, rfl, R1.out, R3.out, .inr (.inr ⟨HN.out, rfl, rfl, rfl⟩)⟩
end Go.Proofs.YthnagihgjenimaaDoor
