/- icehouseref13: Clean. -/
import Derived.Test.YthnagihgjenimaaDoorRamJ
namespace Go.Proofs.YthnagihgjenimaaDoor
open Go.RowKit
set_option linter.unusedVariables false
set_option linter.unusedSimpArgs false
/-- What is held, no longer dirty. -/
def HM.clean (h : HM) : HM := { h with it := h.it.cl }
set_option maxRecDepth 100000 in
set_option maxHeartbeats 4000000 in
theorem rclean_any (ao : Option Addr) (an ac : Nat) (v : Value) (xs ys : List HM) (x : HM) (w : World) (h : HdAt w v (xs ++ x :: ys)) : Calls Tryd.prog 50 #[.agg #[.slice ao an ac, v], .int .i64 (xs.length : Int)] w (RamP2 (.slice ao an ac) (xs ++ x.clean :: ys) w) := by
  have HH := Lib.hid h
  have hle := h.le
  obtain ⟨va, vc, hv⟩ := h.form
  subst hv
  obtain ⟨W0, hW0⟩ : ∃ W0, W0 = (w.alloc (.cells #[.slice ao an ac, .slice va (xs ++ x :: ys).length vc] 74)).alloc (.cells #[.slice none 0 0, .slice none 0 0] 74) := ⟨_, rfl⟩
  have hk0 : Keeps (fun _ => False) w W0 := by rw [hW0]; exact ((Keeps.refl _ _).alloc _).alloc _
  have hb0 : Blk W0 w.heap.size 74 [.slice ao an ac, .slice va (xs ++ x :: ys).length vc] := by rw [hW0]; exact (Blk.new w 74 _).alloc _
  have hb1 : Blk W0 (w.heap.size + 1) 74 [.slice none 0 0, .slice none 0 0] := by
    rw [hW0]
    have := Blk.new (w.alloc (.cells #[.slice ao an ac, .slice va (xs ++ x :: ys).length vc] 74)) 74 [.slice none 0 0, .slice none 0 0]
    rwa [World.size_alloc] at this
  have hs0 : W0.heap.size = w.heap.size + 2 := by rw [hW0]; simp
  have HK0 := Lib.hid hk0
  have HB0 := Lib.hid hb0
  have HB1 := Lib.hid hb1
  have HW0 := Lib.hid hW0
  obtain ⟨n, hn⟩ : ∃ n, n = (xs ++ x :: ys).length := ⟨_, rfl⟩
  obtain ⟨i, hi⟩ : ∃ i, i = xs.length := ⟨_, rfl⟩
  have hin : i < n := by rw [hn, hi]; simp
  have HN := Lib.hid hn
  have HI := Lib.hid hi
  rw [← hn] at hle HB0 HW0 hb0 ⊢
  rw [← hi]
  have hle' : n ≤ 100000 := hle
  obtain ⟨x', hx'⟩ : ∃ x', x' = x.clean := ⟨_, rfl⟩
  have HX' := Lib.hid hx'
  rw [← hx']
  obtain ⟨i86, z86, hi1, hz0, hzc, hz1, hz2⟩ := info86'
  have hzs : z86.cells.size = 8 := by rw [hzc]; rfl
  clear h hk0 hb0 hb1 hW0 hn hi hzc hx'
  go_enter Tryd.func50, Tryd.ntmps50
  go_upto_region 1 with fail
  rw [← HW0.out]
  go_upto_region 2 with fail
  have HS0 := Lib.hid hs0
  go_wp2_with fail
  go_loopw [5, 6] (fun s5 s6 wr => ∃ t : Nat, t ≤ n ∧ s6 = .int .i64 (t : Int) ∧ wr.ownsRow (w.heap.size + 2) 86 8 s5 t (heldC ((xs ++ x' :: ys).take t)) ∧ Keeps (fun _ => False) W0 wr) (fun _ s6 _ => n - (intOf s6).toNat)
  case atStart => exact ⟨0, Nat.zero_le _, rfl, ⟨rfl, .inl ⟨rfl, rfl⟩⟩, Keeps.refl _ _⟩
  case round =>
    obtain ⟨t, ht, rfl, hrow, hkr⟩ := hrel
    have HROW := Lib.hid hrow
    have HKR := Lib.hid hkr
    obtain ⟨sa, sc, hs⟩ := own_formQ hrow
    have hb := hkr.blk HB0.out id
    have b0 := hb.cell (i := 0) rfl
    have b1 := hb.cell (i := 1) rfl
    by_cases hlt : t < n
    · have hlt' : (t : Int) < (n : Int) := by omega
      obtain ⟨y, hy⟩ : ∃ y, (xs ++ x :: ys)[t]? = some y := ⟨_, List.getElem?_eq_getElem (by rw [← HN.out]; exact hlt)⟩
      obtain ⟨g', cc', hg, _, hc⟩ := HH.out.at hy
      injection hg with hg _ hg'
      subst hg hg'
      have hyr := HH.out.rd y (List.mem_of_getElem? hy)
      have hone := held_one y hyr
      obtain ⟨⟨yk, ykc, hyk, _⟩, ⟨yv, yvc, hyv, _⟩⟩ := hyr
      have c0 := hc _ (HK0.out.trans HKR.out) 0 _ rfl
      have c1 := hc _ (HK0.out.trans HKR.out) 1 _ rfl
      have c2 := hc _ (HK0.out.trans HKR.out) 2 _ rfl
      have c3 := hc _ (HK0.out.trans HKR.out) 3 _ rfl
      have c4 := hc _ (HK0.out.trans HKR.out) 4 _ rfl
      have c5 := hc _ (HK0.out.trans HKR.out) 5 _ rfl
      have c6 := hc _ (HK0.out.trans HKR.out) 6 _ rfl
      have c7 := hc _ (HK0.out.trans HKR.out) 7 _ rfl
      rw [hyk] at c0
      rw [hyv] at c1
      simp only [Nat.add_zero] at c0
      have HONEY := Lib.hid hone
      have HYK := Lib.hid hyk
      have HYV := Lib.hid hyv
      have HY := Lib.hid hy
      clear hrow hkr hs hb b0 hc hone hyk hyv hy
      by_cases hti : t = i
      · subst hti
        have HYP : Hid ((xs ++ x' :: ys)[t]? = some y.clean) := Lib.hid (by
          have h1 := HY.out
          rw [HI.out, List.getElem?_append_right (Nat.le_refl _), Nat.sub_self] at h1 ⊢
          simp at h1 ⊢
          rw [HX'.out, h1])
        obtain ⟨cs, hcs⟩ : ∃ cs, cs = [Value.slice yk y.it.key.length ykc, .slice yv y.it.val.length yvc, .int .u32 y.it.fg, .int .u32 y.it.ex, .int .u64 y.it.sq, .bool false, .int .i64 (y.ch : Int), .int .i64 (y.cl : Int)] := ⟨_, rfl⟩
        have hyc : cs = HM.cells (y.clean) := by
          show cs = [y.kv, y.vv, _, _, _, _, _, _]
          rw [HYK.out, HYV.out]
          exact hcs
        have hcl8 : cs.length = 8 := by rw [hcs]; rfl
        obtain ⟨W2, hW2⟩ : ∃ W2, W2 = (wr.alloc (.cells #[Value.slice yk y.it.key.length ykc, .slice yv y.it.val.length yvc, .int .u32 y.it.fg, .int .u32 y.it.ex, .int .u64 y.it.sq, .bool false, .int .i64 (y.ch : Int), .int .i64 (y.cl : Int)] 86)).alloc (.cells #[Value.slice yk y.it.key.length ykc, .slice yv y.it.val.length yvc, .int .u32 y.it.fg, .int .u32 y.it.ex, .int .u64 y.it.sq, .bool false, .int .i64 (y.ch : Int), .int .i64 (y.cl : Int)] 86) := ⟨_, rfl⟩
        have hb2 : Blk W2 (wr.heap.size + 1) 86 cs := by
          rw [hW2, hcs]
          have := Blk.new (wr.alloc (.cells #[Value.slice yk y.it.key.length ykc, .slice yv y.it.val.length yvc, .int .u32 y.it.fg, .int .u32 y.it.ex, .int .u64 y.it.sq, .bool false, .int .i64 (y.ch : Int), .int .i64 (y.cl : Int)] 86)) 86 [Value.slice yk y.it.key.length ykc, .slice yv y.it.val.length yvc, .int .u32 y.it.fg, .int .u32 y.it.ex, .int .u64 y.it.sq, .bool false, .int .i64 (y.ch : Int), .int .i64 (y.cl : Int)]
          rwa [World.size_alloc] at this
        have hk2 : Keeps (fun _ => False) wr W2 := by rw [hW2]; exact ((Keeps.refl _ _).alloc _).alloc _
        have HNW : Hid (∀ j u, cs[j]? = some u → W2.cell? ((⟨wr.heap.size + 1, 0, none⟩ : Addr).add j) = some u) := Lib.hid (fun j u hu => by rw [add0]; exact hb2.cell hu)
        have HONE : Hid (∀ u ∈ cs, u.oneCell' = true) := Lib.hid (by rw [hcs]; intro u hu; simp at hu; rcases hu with rfl | rfl | rfl | rfl | rfl | rfl | rfl | rfl <;> rfl)
        have HR2 : Hid (W2.ownsRow (w.heap.size + 2) 86 8 u5 t (heldC ((xs ++ x' :: ys).take t))) := Lib.hid (hk2.own' HROW.out (fun _ _ => id))
        have hbs : w.heap.size + 2 ≤ W2.heap.size := by have h1 := HS0.out; have h2 := HKR.out.size; have h3 := hk2.size; omega
        have HYC := Lib.hid hyc
        have HK2 := Lib.hid (HKR.out.trans hk2)
        have HW2 := Lib.hid hW2
        clear hcs hyc hb2 hk2 hW2 HYK HYV
        go_wp2_with (at_builtin; rw [← HW2.out]; refine wpList_append_own _ rfl _ _ 72 rfl (w.heap.size + 2) 86 i86 z86 8 88 Tryd.underlying72 hi1 hz0 hz1 hz2 hzs (by decide) _ _ _ rfl HR2.out ⟨wr.heap.size + 1, 0, none⟩ 1 1 cs rfl (by omega) HNW.out HONE.out (by unfold maxLen; omega) (by omega) hbs ?_)
        intro v' w3 hown' hgrow _
        have HO3 := Lib.hid hown'
        have HK3 : Hid (Keeps (fun _ => False) W0 w3) := Lib.hid (((HK2.out.mono (S' := fun k => W0.heap.size ≤ k) fun _ _ h => h.elim).trans ((Keeps.of_grown hgrow).mono fun k _ e => by
          have h1 := (own_heap HR2.out e).1
          have h2 := HS0.out
          show W0.heap.size ≤ k
          omega)).mono fun k hk h => by
            have h : W0.heap.size ≤ k := h
            omega)
        clear hown' hgrow HNW HONE HR2
        go_wp2_with fail
        go_roundw
        case rel => exact ⟨t + 1, by omega, by go_num, by
          rw [List.take_add_one, HYP.out]
          show World.ownsRow _ _ _ _ _ _ (heldC (_ ++ [_]))
          rw [heldC_snoc, ← HYC.out]
          exact HO3.out, HK3.out⟩
        case measure => simp [intOf]; omega
      · have hti' : ((t : Int) == (i : Int)) = false := by rw [beq_eq_false_iff_ne]; omega
        have HYP : Hid ((xs ++ x' :: ys)[t]? = some y) := Lib.hid (by
          have h1 := HY.out
          have h3 := HI.out
          by_cases hlt2 : t < xs.length
          · rw [List.getElem?_append_left hlt2] at h1 ⊢
            exact h1
          · obtain ⟨k, rfl⟩ : ∃ k, t = xs.length + 1 + k := ⟨t - xs.length - 1, by omega⟩
            rw [List.getElem?_append_right (by omega), show xs.length + 1 + k - xs.length = k + 1 by omega, List.getElem?_cons_succ] at h1 ⊢
            exact h1)
        obtain ⟨cs, hcs⟩ : ∃ cs, cs = [Value.slice yk y.it.key.length ykc, .slice yv y.it.val.length yvc, .int .u32 y.it.fg, .int .u32 y.it.ex, .int .u64 y.it.sq, .bool y.it.dt, .int .i64 (y.ch : Int), .int .i64 (y.cl : Int)] := ⟨_, rfl⟩
        have hyc : cs = HM.cells (y) := by
          show cs = [y.kv, y.vv, _, _, _, _, _, _]
          rw [HYK.out, HYV.out]
          exact hcs
        have hcl8 : cs.length = 8 := by rw [hcs]; rfl
        obtain ⟨W2, hW2⟩ : ∃ W2, W2 = (wr.alloc (.cells #[Value.slice yk y.it.key.length ykc, .slice yv y.it.val.length yvc, .int .u32 y.it.fg, .int .u32 y.it.ex, .int .u64 y.it.sq, .bool y.it.dt, .int .i64 (y.ch : Int), .int .i64 (y.cl : Int)] 86)).alloc (.cells #[Value.slice yk y.it.key.length ykc, .slice yv y.it.val.length yvc, .int .u32 y.it.fg, .int .u32 y.it.ex, .int .u64 y.it.sq, .bool y.it.dt, .int .i64 (y.ch : Int), .int .i64 (y.cl : Int)] 86) := ⟨_, rfl⟩
        have hb2 : Blk W2 (wr.heap.size + 1) 86 cs := by
          rw [hW2, hcs]
          have := Blk.new (wr.alloc (.cells #[Value.slice yk y.it.key.length ykc, .slice yv y.it.val.length yvc, .int .u32 y.it.fg, .int .u32 y.it.ex, .int .u64 y.it.sq, .bool y.it.dt, .int .i64 (y.ch : Int), .int .i64 (y.cl : Int)] 86)) 86 [Value.slice yk y.it.key.length ykc, .slice yv y.it.val.length yvc, .int .u32 y.it.fg, .int .u32 y.it.ex, .int .u64 y.it.sq, .bool y.it.dt, .int .i64 (y.ch : Int), .int .i64 (y.cl : Int)]
          rwa [World.size_alloc] at this
        have hk2 : Keeps (fun _ => False) wr W2 := by rw [hW2]; exact ((Keeps.refl _ _).alloc _).alloc _
        have HNW : Hid (∀ j u, cs[j]? = some u → W2.cell? ((⟨wr.heap.size + 1, 0, none⟩ : Addr).add j) = some u) := Lib.hid (fun j u hu => by rw [add0]; exact hb2.cell hu)
        have HONE : Hid (∀ u ∈ cs, u.oneCell' = true) := Lib.hid (by rw [hcs]; intro u hu; simp at hu; rcases hu with rfl | rfl | rfl | rfl | rfl | rfl | rfl | rfl <;> rfl)
        have HR2 : Hid (W2.ownsRow (w.heap.size + 2) 86 8 u5 t (heldC ((xs ++ x' :: ys).take t))) := Lib.hid (hk2.own' HROW.out (fun _ _ => id))
        have hbs : w.heap.size + 2 ≤ W2.heap.size := by have h1 := HS0.out; have h2 := HKR.out.size; have h3 := hk2.size; omega
        have HYC := Lib.hid hyc
        have HK2 := Lib.hid (HKR.out.trans hk2)
        have HW2 := Lib.hid hW2
        clear hcs hyc hb2 hk2 hW2 HYK HYV
        go_wp2_with (at_builtin; rw [← HW2.out]; refine wpList_append_own _ rfl _ _ 72 rfl (w.heap.size + 2) 86 i86 z86 8 88 Tryd.underlying72 hi1 hz0 hz1 hz2 hzs (by decide) _ _ _ rfl HR2.out ⟨wr.heap.size + 1, 0, none⟩ 1 1 cs rfl (by omega) HNW.out HONE.out (by unfold maxLen; omega) (by omega) hbs ?_)
        intro v' w3 hown' hgrow _
        have HO3 := Lib.hid hown'
        have HK3 : Hid (Keeps (fun _ => False) W0 w3) := Lib.hid (((HK2.out.mono (S' := fun k => W0.heap.size ≤ k) fun _ _ h => h.elim).trans ((Keeps.of_grown hgrow).mono fun k _ e => by
          have h1 := (own_heap HR2.out e).1
          have h2 := HS0.out
          show W0.heap.size ≤ k
          omega)).mono fun k hk h => by
            have h : W0.heap.size ≤ k := h
            omega)
        clear hown' hgrow HNW HONE HR2
        go_wp2_with fail
        go_roundw
        case rel => exact ⟨t + 1, by omega, by go_num, by
          rw [List.take_add_one, HYP.out]
          show World.ownsRow _ _ _ _ _ _ (heldC (_ ++ [_]))
          rw [heldC_snoc, ← HYC.out]
          exact HO3.out, HK3.out⟩
        case measure => simp [intOf]; omega
    · have hlt' : ¬ ((t : Int) < (n : Int)) := by omega
      obtain rfl : t = n := by omega
      subst hs
      have hb1 := hkr.blk HB1.out id
      have y0 := hb1.cell (i := 0) rfl
      have y1 := hb1.cell (i := 1) rfl
      have f1 := hb.free 1
      have g0 := hb1.free 0
      have g1 := hb1.free 1
      have HB0' := Lib.hid hb
      have HB1' := Lib.hid hb1
      clear hb hb1 hrow hkr
      go_wp2_with fail
      have hrow := HROW.out
      have hnl : t = (xs ++ x' :: ys).length := by have := HN.out; simp at this ⊢; exact this
      rw [List.take_of_length_le (by omega)] at hrow
      obtain ⟨sv, hsv⟩ : ∃ sv, sv = Value.slice sa t sc := ⟨_, rfl⟩
      rw [← hsv] at hrow ⊢
      rw [hnl] at hrow
      have hs0 := HS0.out
      have hka := (Keeps.refl (fun k => k = w.heap.size ∨ k = w.heap.size + 1) wr).store (p := ⟨w.heap.size, 1, none⟩) (.inl (.inl rfl)) sv
      have hb1' := Blk.other HB1'.out (p := ⟨w.heap.size, 1, none⟩) (by show w.heap.size + 1 ≠ w.heap.size; omega) sv
      obtain ⟨ho, hk9⟩ := st2 hb1' (.slice ao an ac) sv
      have q0 := ho.cell (i := 0) rfl
      have q1 := ho.cell (i := 1) rfl
      have hkf := hka.trans (hk9.mono fun k _ e => .inr e)
      refine bodyPost_ret (v := .agg #[.slice ao an ac, sv]) (by simp [results, Tryd.f50, go_sem, q0, q1]) rfl ⟨sv, rfl, ?_, ?_⟩
      · have hall := ((HK0.out.trans HKR.out).mono (S' := fun k => k = w.heap.size ∨ k = w.heap.size + 1) fun _ _ h => h.elim).trans hkf
        have hin : ∀ h ∈ xs ++ x' :: ys, ∃ z, z ∈ xs ++ x :: ys ∧ (h = z ∨ h = z.clean) := fun h hh => by
          simp at hh
          rcases hh with e | e | e
          · exact ⟨h, by simp [e], .inl rfl⟩
          · exact ⟨x, by simp, .inr (e.trans HX'.out)⟩
          · exact ⟨h, by simp [e], .inl rfl⟩
        refine ⟨own_low (hkf.own' hrow fun g hg e => ?_) (Nat.zero_le _), fun h hh => ?_, fun h hh => ?_, by have := HH.out.le; simp at this ⊢; exact this⟩
        · have h1 := (own_heap hrow hg).1
          rcases e with e | e <;> omega
        · obtain ⟨z, hz, e⟩ := hin h hh
          have hz' := (HH.out.rd z hz).old hall (fun k e => by rcases e with e | e <;> omega)
          rcases e with rfl | rfl
          · exact hz'
          · exact ⟨hz'.k, hz'.v⟩
        · obtain ⟨z, hz, e⟩ := hin h hh
          have hz' := HH.out.ok z hz
          rcases e with rfl | rfl
          · exact hz'
          · exact ⟨⟨hz'.1.k1, hz'.1.k2, hz'.1.v2, hz'.1.kb, hz'.1.vb, hz'.1.sq⟩, hz'.2⟩
      · exact (((HK0.out.trans HKR.out).mono (S' := fun k => k = w.heap.size ∨ k = w.heap.size + 1) fun _ _ h => h.elim).trans hkf).mono fun k hk e => by
          rcases e with e | e <;> omega
end Go.Proofs.YthnagihgjenimaaDoor
