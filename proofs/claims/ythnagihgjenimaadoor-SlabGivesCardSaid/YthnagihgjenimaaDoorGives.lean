/- SlabGives: whatever is given and taken is the document's: the walk. -/
import Derived.Test.YthnagihgjenimaaDoorOpsB
namespace Go.Proofs.YthnagihgjenimaaDoor
open Go.RowKit
set_option linter.unusedVariables false
set_option linter.unusedSimpArgs false

/-- The arena and the document's, side by side; the latter's variable is block B. -/
structure GvS (w1 : World) (L : AL) (n B : Nat) (D : AD) (X : RG) (wr : World) : Prop where
  ar : ArAt wr L D
  hn : D.n = n
  rg : RgAt wr X n (gv D)
  box : Blk wr B 40 [.slice (some ⟨X.O, 0, none⟩) n X.cap]
  keeps : Keeps (fun k => k = L.G ∨ w1.heap.size ≤ k) w1 wr
  lt : ∀ k, L.own k → k < w1.heap.size
  b : w1.heap.size ≤ B
section
variable {w1 wr w2 : World} {L : AL} {n B : Nat} {D D' : AD} {X Y : RG}
theorem GvS.tab (h : GvS w1 L n B D X wr) (hT : Tab w1) (h0 : L.G ≠ 0) : Tab wr :=
  hT.keep h.keeps fun e => by
    rcases e with e | e
    · exact h0 e.symm
    · have := hT.lt; omega
theorem GvS.quiet (h : GvS w1 L n B D X wr) (hk : Keeps (fun _ => False) wr w2) : GvS w1 L n B D X w2 :=
  ⟨h.ar.quiet hk, h.hn, h.rg.quiet hk, hk.blk h.box id, h.keeps.trans (hk.mono fun _ _ hf => hf.elim), h.lt, h.b⟩
theorem GvS.ok (h : GvS w1 L n B D X wr) : D.Ok := h.ar.good
theorem GvS.rgn (h : GvS w1 L n B D X wr) : RgAt wr X D.n (gv D) := by rw [h.hn]; exact h.rg
/-- Behind an operation of the arena and the same of the document's, the variable not yet stored. -/
structure GvT (w1 : World) (L : AL) (n B : Nat) (D : AD) (X Y : RG) (wr : World) : Prop where
  ar : ArAt wr L D
  hn : D.n = n
  rg : RgAt wr Y n (gv D)
  box : Blk wr B 40 [.slice (some ⟨X.O, 0, none⟩) n X.cap]
  keeps : Keeps (fun k => k = L.G ∨ w1.heap.size ≤ k) w1 wr
  lt : ∀ k, L.own k → k < w1.heap.size
  b : w1.heap.size ≤ B
theorem rg_keepG (h : RgAt wr X n (gv D)) (ha : ArAt wr L D') (hk : Keeps (fun k => k = L.G) wr w2) : RgAt w2 X n (gv D) := h.keep hk fun g cur t ht hc e => by
  obtain ⟨_, _, cur2, hc2⟩ := own_heap ha.row rfl
  rw [show g = L.G from e, hc2] at hc
  injection hc with hc
  injection hc with _ hc
  rcases ht with rfl | rfl <;> cases hc
theorem GvS.turn {w3 w4 : World} {D2 : AD} (h : GvS w1 L n B D X wr) (hk : Keeps (fun k => k = L.G) wr w3) (ha : ArAt w3 L D2) (hn : D2.n = D.n) (hk2 : Keeps (fun _ => False) w3 w4) (hr : RgAt w4 Y D.n (gv D2)) : GvT w1 L n B D2 X Y w4 := by
  have hb := h.b
  have hl := h.lt L.G (.inr rfl)
  refine ⟨ha.quiet hk2, hn.trans h.hn, by rw [← h.hn]; exact hr, hk2.blk (hk.blk h.box fun e => by have e : B = L.G := e; omega) id, (h.keeps.trans (hk.mono fun _ _ e => .inl e)).trans (hk2.mono fun _ _ hf => hf.elim), h.lt, h.b⟩
theorem GvS.took {w6 w7 : World} {D2 : AD} (h : GvS w1 L n B D X wr) (hk : Keeps (fun _ => False) wr w6) (hr : RgAt w6 Y D.n (gv D2)) (hk2 : Keeps (fun k => k = L.G) w6 w7) (ha : ArAt w7 L D2) (hn : D2.n = D.n) : GvT w1 L n B D2 X Y w7 := by
  have hb := h.b
  have hl := h.lt L.G (.inr rfl)
  refine ⟨ha, hn.trans h.hn, ?_, hk2.blk (hk.blk h.box id) fun e => by have e : B = L.G := e; omega, (h.keeps.trans (hk.mono fun _ _ hf => hf.elim)).trans (hk2.mono fun _ _ e => .inl e), h.lt, h.b⟩
  rw [← h.hn]
  exact rg_keepG hr (h.ar.quiet hk) hk2
theorem GvT.quiet (h : GvT w1 L n B D X Y wr) (hk : Keeps (fun _ => False) wr w2) : GvT w1 L n B D X Y w2 :=
  ⟨h.ar.quiet hk, h.hn, h.rg.quiet hk, hk.blk h.box id, h.keeps.trans (hk.mono fun _ _ hf => hf.elim), h.lt, h.b⟩
theorem GvT.store (h : GvT w1 L n B D X Y wr) : GvS w1 L n B D Y (wr.setCell ⟨B, 0, none⟩ (.slice (some ⟨Y.O, 0, none⟩) n Y.cap)) := by
  have hb := h.b
  have k9 : Keeps (fun g => g = B) wr (wr.setCell ⟨B, 0, none⟩ (.slice (some ⟨Y.O, 0, none⟩) n Y.cap)) := (Keeps.refl (fun g => g = B) wr).store (p := ⟨B, 0, none⟩) (.inl rfl) _
  refine ⟨h.ar.keep k9 fun k hk e => by have e : k = B := e; have := h.lt k hk; omega, h.hn, h.rg.keep k9 fun g cur t ht hc e => ?_, h.box.store 0 _, h.keeps.trans (k9.mono fun g _ e => .inr (by have e : g = B := e; omega)), h.lt, h.b⟩
  have hx := h.box
  unfold Blk at hx
  rw [show g = B from e, hx] at hc
  injection hc with hc
  injection hc with _ hc
  rcases ht with rfl | rfl <;> cases hc
end
theorem wf_i64 {x : Int} (h : (Lit.int .i64 x).wf = true) : x < 9223372036854775808 := by
  simp [Lit.wf, IntKind.min, IntKind.max, IntKind.signed, IntKind.bits] at h
  omega
theorem used_neg (D : AD) : D.used (-1) = 0 := by
  rw [used_eq]
  refine sumN_zero _ fun i _ => ?_
  rw [useN_eq, if_neg (by omega)]
theorem pages_neg (D : AD) : D.pages (-1) = 0 := cnt_none _ fun i _ => by
  unfold isOf
  rw [decide_eq_false (show ¬ ((D.c i : Int) = -1) by omega)]
  simp
theorem gv_fresh (n i k : Nat) : gv (AD.fresh n) i k = 0 := gv_zero (by show ¬ bitN 0 k = 1; rw [bitN_zero]; omega)
theorem fresh_free (n : Nat) : (AD.fresh n).free = n := cnt_all _ fun i _ => rfl
set_option maxRecDepth 100000 in
set_option maxHeartbeats 2000000 in
theorem gives_law (p : Int) (A : Option Addr) (len cap : Nat) (l : List OpB) (w : World) (hp : (Lit.int .i64 p).wf = true) (hR : OpBRow w A len l) (hwf : ∀ o ∈ l, (Lit.int .i64 o.num).wf = true) (hc : cap ≤ 140737488351232) (hnc : len ≤ cap) (hT : Tab w) :
    Calls Tryd.prog 6 #[.int .i64 p, .slice A len cap] w (TrueP w) := by
  have HR := Lib.hid hR
  have HWF := Lib.hid hwf
  have HTT := Lib.hid hT
  have HW := Lib.hid (wakes_any w hT)
  clear hT hR hwf
  by_cases hbad : p < 1 ∨ 256 < p
  · have HB := Lib.hid (fun W => anew_bad p hbad W)
    have HBAD := Lib.hid hbad
    clear hbad
    go_enter Tryd.func6, Tryd.ntmps6
    go_wp2_with fail
    refine HW.out.mono ?_
    rintro e w0 ⟨rfl, hk⟩
    have HK0 := Lib.hid hk
    clear hk
    go_wp2_with fail
    refine (HB.out _).mono ?_
    rintro e w1 ⟨rfl, rfl⟩
    rcases HBAD.out with h | h
    · have h' : decide (p < 1) = true := by simpa using h
      clear h
      go_wp2_with fail
      go_ret
      exact ⟨rfl, HK0.out⟩
    · have h' : decide (p < 1) = false := by simp; omega
      have h2 : decide (256 < p) = true := by simpa using h
      clear h
      go_wp2_with fail
      go_ret
      exact ⟨rfl, HK0.out⟩
  · obtain ⟨n, rfl⟩ := Int.eq_ofNat_of_zero_le (show 0 ≤ p by omega)
    have hn1 : 1 ≤ n := by omega
    have hn2 : n ≤ 256 := by omega
    have hd1 : decide ((n : Int) < 1) = false := by simp; omega
    have hd2 : decide (256 < (n : Int)) = false := by simp; omega
    clear hbad hp
    go_enter Tryd.func6, Tryd.ntmps6
    go_wp2_with fail
    refine HW.out.mono ?_
    rintro e w0 ⟨rfl, hk⟩
    have HK0 := Lib.hid hk
    clear hk
    go_wp2_with fail
    refine (anew_ok n hn1 hn2 w0).mono ?_
    rintro e w1 ⟨L, rfl, h1, ho, hk1⟩
    have HK1 := Lib.hid (HK0.out.trans hk1)
    have HW01 := Lib.hid hk1.size
    have hT1 := HTT.out.keep HK1.out id
    have hG0 : L.G ≠ 0 := fun e => by
      have h0 := ho L.G (.inr rfl)
      have := (HTT.out.keep HK0.out id).lt
      omega
    have HA1 := Lib.hid h1
    have HT1 := Lib.hid hT1
    have HG0 := Lib.hid hG0
    have HO := Lib.hid ho
    have HFREE := Lib.hid (free_any L _ w1 h1)
    rw [fresh_free] at HFREE
    clear h1 ho hk1 hT1 hG0
    unfold AL.ptr at *
    by_cases h40 : 40 < n
    · have hd3 : decide (40 < (n : Int)) = true := by simp; omega
      clear h40
      go_wp2_with fail
      refine HFREE.out.mono ?_
      rintro e w2 ⟨rfl, hk2⟩
      have HK2 := Lib.hid hk2
      clear hk2
      go_wp2_with fail
      go_ret
      exact ⟨rfl, HK1.out.trans HK2.out⟩
    · have hd3 : decide (40 < (n : Int)) = false := by simp; omega
      go_wp2_with fail
      refine (rnew_any n hn1 (by omega) w1).mono ?_
      rintro e w2 ⟨X, rfl, hx, _, _, hk2⟩
      have HS : Hid (GvS w1 L n w2.heap.size (AD.fresh n) X (w2.alloc (.cells #[.slice (some ⟨X.O, 0, none⟩) n X.cap] 40))) := Lib.hid
        ⟨HA1.out.quiet (hk2.alloc _), rfl, (hx.congr fun a _ b _ => (gv_fresh n a b).symm).quiet ((Keeps.refl _ _).alloc _), Blk.new w2 40 [.slice (some ⟨X.O, 0, none⟩) n X.cap], (hk2.alloc _).mono fun _ _ hf => hf.elim, HA1.out.lt, hk2.size⟩
      obtain ⟨xcap, xmx⟩ := hx.cap
      clear hx hk2 hd3 h40
      unfold RG.val
      go_wp2_with fail
      go_loopw [56] (fun i wr => ∃ (t : Nat) (D : AD) (X : RG), t ≤ len ∧ i = .int .i64 t ∧ GvS w1 L n w2.heap.size D X wr) (fun i _ => len - (intOf i).toNat)
      case atStart => exact ⟨0, _, _, Nat.zero_le _, rfl, HS.out⟩
      case round =>
        obtain ⟨t, D, Y, ht, rfl, hs⟩ := hrel
        have HS2 := Lib.hid hs
        have hw12 := HW01.out
        have hkk := hs.keeps
        by_cases htl : t < len
        · obtain ⟨o, ho⟩ : ∃ o, l[t]? = some o := ⟨l[t]'(by rw [HR.out.1]; exact htl), List.getElem?_eq_getElem _⟩
          obtain ⟨b, off, rfl, hbl, hc0, hc1, hc2⟩ := HR.out.2 t o ho
          have hcy : ∀ j v, w.cell? ⟨b, j, none⟩ = some v → wr.cell? ⟨b, j, none⟩ = some v := fun j v hv => by
            have hk1 := HK1.out
            have hlw := hk1.size
            refine (hkk.cell (p := ⟨b, j, none⟩) (by show b < _; omega) ?_).trans ((hk1.cell (p := ⟨b, j, none⟩) hbl id).trans hv)
            have := HO.out L.G (.inr rfl)
            have := HK0.out.size
            rintro (e | e)
            · have e : b = L.G := e; omega
            · have e : w1.heap.size ≤ b := e; omega
          have d0 := hcy _ _ hc0
          have d1 := hcy _ _ hc1
          have d2 := hcy _ _ hc2
          have HWO := Lib.hid (HWF.out o (List.mem_of_getElem? ho))
          obtain ⟨ot, oc, oz⟩ := o
          simp only at d0 d1 d2 HWO
          have hwsz := hkk.size
          clear hs hkk hc0 hc1 hc2 hcy ho
          go_upto_region 14 with fail
          obtain ⟨W, hW⟩ : ∃ W, W = wr.alloc (.cells #[.bool ot, .bool oc, .int .i64 oz] 43) := ⟨_, rfl⟩
          have b9 : Blk W wr.heap.size 43 [.bool ot, .bool oc, .int .i64 oz] := by subst hW; exact Blk.new wr 43 [.bool ot, .bool oc, .int .i64 oz]
          have hkW : Keeps (fun _ => False) wr W := by subst hW; exact (Keeps.refl _ _).alloc _
          have HSW := Lib.hid (HS2.out.quiet hkW)
          have HB9 := Lib.hid b9
          have HKW := Lib.hid hkW
          have hl9 := b9.lt
          rw [← hW]
          clear hW b9 hkW
          by_cases h60 : t = 60
          · have h60' : ((t : Int) == 60) = true := by simp; omega
            have HEND := HSW
            obtain ⟨EE, hEE⟩ : ∃ EE, EE = W := ⟨_, rfl⟩
            rw [← hEE] at HEND ⊢
            clear h60 hEE
            go_wp2_with fail
            go_loopw [22] (fun c wx => ∃ c' : Int, -1 ≤ c' ∧ c' ≤ 9 ∧ c = .int .i64 c' ∧ Keeps (fun _ => False) EE wx) (fun c _ => (9 - intOf c).toNat)
            case atStart => exact ⟨-1, by omega, by omega, rfl, Keeps.refl _ _⟩
            case round =>
              obtain ⟨c, hc1, hc2, rfl, hkE⟩ := hrel
              have HG := Lib.hid (HEND.out.quiet hkE)
              have HKE := Lib.hid hkE
              have hbx := HG.out.box.cell (i := 0) rfl
              have hBl := HG.out.box.lt
              have HRC := Lib.hid (rcount_any Y D HG.out.ok _ HG.out.rgn c)
              rw [HG.out.hn] at HRC
              have HAR := Lib.hid HG.out.ar
              clear hkE
              by_cases hc9 : c < 9
              · by_cases hneg : c < 0
                · obtain rfl : c = -1 := by omega
                  have e1 := rn_free D
                  rw [HG.out.hn] at e1
                  rw [e1] at HRC
                  have HF := Lib.hid (fun Z (hZ : Keeps (fun _ => False) wr Z) => free_any L D Z (HAR.out.quiet hZ))
                  have HU := Lib.hid (fun Z (hZ : Keeps (fun _ => False) wr Z) => used_any L D Z (HAR.out.quiet hZ) (-1))
                  have HP := Lib.hid (fun Z (hZ : Keeps (fun _ => False) wr Z) => pages_any L D Z (HAR.out.quiet hZ) (-1))
                  rw [used_neg] at HU
                  rw [pages_neg] at HP
                  obtain ⟨fr, hfr⟩ : ∃ fr, fr = D.free := ⟨_, rfl⟩
                  rw [← hfr] at HRC HF
                  obtain ⟨kk, hkk2⟩ : ∃ kk, kk = D.rk (-1) n := ⟨_, rfl⟩
                  rw [← hkk2] at HRC
                  clear e1 hfr hkk2
                  unfold AL.ptr RG.val at *
                  go_wp2_with fail
                  refine HRC.out.mono ?_
                  rintro e v1 ⟨rfl, hv1⟩
                  have V1 := Lib.hid hv1
                  clear hv1
                  go_wp2_with fail
                  refine (HF.out _ V1.out).mono ?_
                  rintro e v2 ⟨rfl, hv2⟩
                  have V2 := Lib.hid (V1.out.trans hv2)
                  clear hv2
                  go_wp2_with fail
                  refine (HU.out _ V2.out).mono ?_
                  rintro e v3 ⟨rfl, hv3⟩
                  have V3 := Lib.hid (V2.out.trans hv3)
                  clear hv3
                  go_wp2_with fail
                  refine (HP.out _ V3.out).mono ?_
                  rintro e v4 ⟨rfl, hv4⟩
                  have V4 := Lib.hid (HKE.out.trans (V3.out.trans hv4))
                  clear hv4
                  go_wp2_with fail
                  go_roundw
                  case rel => exact ⟨0, by omega, by omega, rfl, V4.out⟩
                  case measure => simp [intOf]
                · obtain ⟨k, rfl⟩ := Int.eq_ofNat_of_zero_le (show 0 ≤ c by omega)
                  have e1 := rn_pages D k
                  have e2 := rk_used D k
                  rw [HG.out.hn] at e1 e2
                  rw [e1, e2] at HRC
                  have HU := Lib.hid (fun Z (hZ : Keeps (fun _ => False) wr Z) => used_any L D Z (HAR.out.quiet hZ) (k : Nat))
                  have HP := Lib.hid (fun Z (hZ : Keeps (fun _ => False) wr Z) => pages_any L D Z (HAR.out.quiet hZ) (k : Nat))
                  obtain ⟨uu, huu⟩ : ∃ uu, uu = D.used (k : Nat) := ⟨_, rfl⟩
                  obtain ⟨pp, hpp⟩ : ∃ pp, pp = D.pages (k : Nat) := ⟨_, rfl⟩
                  rw [← huu] at HRC HU
                  rw [← hpp] at HRC HP
                  have hng : decide (((k : Nat) : Int) < 0) = false := by simp
                  clear e1 e2 huu hpp
                  unfold AL.ptr RG.val at *
                  go_wp2_with fail
                  refine HRC.out.mono ?_
                  rintro e v1 ⟨rfl, hv1⟩
                  have V1 := Lib.hid hv1
                  clear hv1
                  go_wp2_with fail
                  refine (HP.out _ V1.out).mono ?_
                  rintro e v2 ⟨rfl, hv2⟩
                  have V2 := Lib.hid (V1.out.trans hv2)
                  clear hv2
                  go_wp2_with fail
                  refine (HU.out _ V2.out).mono ?_
                  rintro e v3 ⟨rfl, hv3⟩
                  have V3 := Lib.hid (HKE.out.trans (V2.out.trans hv3))
                  clear hv3
                  go_wp2_with fail
                  go_roundw
                  case rel => exact ⟨(k : Int) + 1, by omega, by omega, rfl, V3.out⟩
                  case measure => simp [intOf]; omega
              · obtain rfl : c = 9 := by omega
                go_wp2_with fail
                go_ret
                exact ⟨rfl, ((HK1.out.mono fun k _ hf => hf.elim).trans HG.out.keeps).mono (AgF HO.out HK0.out.size HK1.out.size)⟩
          · have h60' : ((t : Int) == 60) = false := by rw [beq_eq_false_iff_ne]; omega
            clear h60
            have e1 := HB9.out.cell (i := 1) rfl
            cases oc
            case' false =>
              obtain ⟨wc, hwc⟩ : ∃ wc, wc = W := ⟨_, rfl⟩
              have hcut : Keeps (fun _ => False) W wc := by rw [hwc]; exact Keeps.refl _ _
              go_upto_region 19 with fail
              rw [← hwc]
              clear hwc
            case' true =>
              go_wp2_with fail
              refine (copy_any L D W HSW.out.ar).mono ?_
              rintro e w3 ⟨L2, rfl, ha3, ho3, hk3⟩
              have HK3 := Lib.hid hk3
              have hT3 := (HSW.out.tab HT1.out HG0.out).keep hk3 id
              have HG3 := Lib.hid (give_any L2 D w3 ha3 hT3 500)
              have HO3 := Lib.hid (ho3 L2.G (.inr rfl))
              clear ha3 ho3 hk3 hT3
              unfold AL.ptr at *
              go_wp2_with fail
              refine HG3.out.mono ?_
              rintro e w4 ⟨r, q, D4, rfl, hk4, ha4, _⟩
              have HK4 := Lib.hid hk4
              have HTK4 := Lib.hid (take_any L2 D4 w4 ha4 0 (by omega))
              clear hk4 ha4
              unfold AL.ptr at *
              go_wp2_with fail
              refine HTK4.out.mono ?_
              rintro e wc ⟨rfl, ht5, ht5'⟩
              have hk5 : Keeps (fun k => k = L2.G) w4 wc := by
                by_cases hf : D4.find 0 = 0
                · exact (ht5' hf).1
                · rw [ht5 hf]; exact Keeps.refl _ _
              have hcut : Keeps (fun _ => False) W wc := (((HK3.out.mono fun _ _ hf => hf.elim).trans HK4.out).trans hk5).mono fun k hk e => by have := HO3.out; have e : k = L2.G := e; omega
              clear ht5 ht5' hk5 HTK4 HK4 HG3 HO3 HK3
              go_upto_region 19 with fail
            all_goals
              have HS3 := Lib.hid (HSW.out.quiet hcut)
              have HB3 := Lib.hid (hcut.blk HB9.out id)
              have HKC := Lib.hid hcut
              have hl9' := HB3.out.lt
              clear hcut e1
              have e0 := HB3.out.cell (i := 0) rfl
              have e2 := HB3.out.cell (i := 2) rfl
              have hbx := HS3.out.box.cell (i := 0) rfl
              have hozl := wf_i64 HWO.out
              have hBl := HS3.out.box.lt
              have hLl := HS3.out.lt L.G (.inr rfl)
              have hBb := HS3.out.b
              have hwc1 := HS3.out.keeps.size
              obtain ⟨ycap, ymx⟩ := HS3.out.rg.cap
              cases ot
              · have HGV := Lib.hid (give_any L D wc HS3.out.ar (HS3.out.tab HT1.out HG0.out) oz)
                unfold AL.ptr at *
                go_wp2_with fail
                refine HGV.out.mono ?_
                rintro e w4 ⟨r, q, D', rfl, hk4, ha4, hr4⟩
                have hr4 : GiveR D oz r q D' := hr4
                have hrg4 := rg_keepG HS3.out.rgn HS3.out.ar hk4
                have HRG := Lib.hid (rgive_any Y D HS3.out.ok w4 hrg4 oz)
                rw [HS3.out.hn] at HRG
                have hbx4 := (hk4.cell (p := ⟨w2.heap.size, 0, none⟩) hBl (by intro e; have e : w2.heap.size = L.G := e; omega)).trans hbx
                have e24 := (hk4.cell (p := ⟨wr.heap.size, 2, none⟩) hl9' (by intro e; have e : wr.heap.size = L.G := e; omega)).trans e2
                have HK4 := Lib.hid hk4
                have HA4 := Lib.hid ha4
                have HR4 := Lib.hid hr4
                have hs4 := hk4.size
                clear hk4 ha4 hr4 hrg4 hbx e2
                unfold RG.val at *
                go_wp2_with fail
                refine HRG.out.mono ?_
                rintro e w5 ⟨r2, q2, D2, Y2, rfl, hg5, hk5, hr5⟩
                have hr5 : GiveR D oz r2 q2 D2 := hr5
                obtain ⟨rfl, rfl, rfl⟩ := giveR_one HR4.out hr5
                obtain ⟨_, hn5⟩ := hr5.ok HS3.out.ok
                have hgt := (HS3.out.turn HK4.out HA4.out hn5 hk5 (Y := Y2) hg5).quiet ((Keeps.refl (fun _ => False) w5).alloc (.cells #[.slice (some ⟨Y2.O, 0, none⟩) n Y2.cap] 40))
                have HST := Lib.hid hgt.store
                have hbx5 := hgt.box.cell (i := 0) rfl
                have hbf5 := hgt.box.free 0
                have b15 := Blk.new w5 40 [.slice (some ⟨Y2.O, 0, none⟩) n Y2.cap]
                have h15 := b15.cell (i := 0) rfl
                rw [HS3.out.hn]
                clear hr5 hgt hg5 hk5 b15
                unfold RG.val
                go_wp2_with fail
                go_roundw
                case rel => exact ⟨t + 1, _, _, by omega, by go_num, HST.out⟩
                case measure => simp [intOf]; omega
              · have HWH := Lib.hid (where_any L D wc HS3.out.ar oz hozl)
                have HRW := Lib.hid (rwhere_any Y D HS3.out.ok wc HS3.out.rgn oz hozl)
                have HRT := Lib.hid (fun W (hW : Keeps (fun _ => False) wc W) => rtake_any Y D HS3.out.ok W (HS3.out.rgn.quiet hW) oz hozl)
                have HTK := Lib.hid (fun W (hW : Keeps (fun _ => False) wc W) => take_any L D W (HS3.out.ar.quiet hW) oz hozl)
                have HTN : Hid ((D.took oz).n = D.n) := Lib.hid (by unfold AD.took; split <;> rfl)
                have HTE : Hid ((D.find oz ≠ 0 → D.took oz = D) ∧ (D.find oz = 0 → D.took oz = { D with g := updN D.g (oz.toNat / 32) (D.g (oz.toNat / 32) - 2 ^ (oz.toNat % 32)) })) := Lib.hid ⟨fun h => by unfold AD.took; rw [if_neg h], fun h => by unfold AD.took; rw [if_pos h]; rfl⟩
                rw [HS3.out.hn] at HRW HRT
                unfold WhereP at HWH
                unfold RWhereP at HRW
                unfold RTakeP at HRT
                unfold TakeP at HTK
                obtain ⟨cv, hcv⟩ : ∃ cv : Int, cv = if D.find oz = 0 then ((D.c (oz.toNat / 32) : Nat) : Int) else 0 := ⟨_, rfl⟩
                rw [← hcv] at HWH HRW
                obtain ⟨fi, hfi⟩ : ∃ fi, fi = D.find oz := ⟨_, rfl⟩
                rw [← hfi] at HWH HRW HTE
                simp only [← hfi] at HRT HTK
                obtain ⟨DT, hDT⟩ : ∃ DT, DT = D.took oz := ⟨_, rfl⟩
                rw [← hDT] at HTN HTE
                simp only [← hDT] at HRT
                clear hcv hfi hDT
                unfold RG.val AL.ptr at *
                go_wp2_with fail
                refine HWH.out.mono ?_
                rintro e w4 ⟨rfl, rfl⟩
                go_wp2_with fail
                refine HRW.out.mono ?_
                rintro e w4 ⟨rfl, hk4⟩
                have HK4 := Lib.hid hk4
                have hbx4 := (hk4.cell (p := ⟨w2.heap.size, 0, none⟩) hBl id).trans hbx
                have e24 := (hk4.cell (p := ⟨wr.heap.size, 2, none⟩) hl9' id).trans e2
                have hs4 := hk4.size
                clear hk4 hbx e2
                go_wp2_with fail
                refine (HRT.out _ HK4.out).mono ?_
                rintro e w5 ⟨Y2, rfl, hg5, hk5⟩
                have hk6 : Keeps (fun _ => False) wc (w5.alloc (.cells #[.slice (some ⟨Y2.O, 0, none⟩) n Y2.cap] 40)) := (HK4.out.trans hk5).alloc _
                have HG5 : Hid (RgAt (w5.alloc (.cells #[.slice (some ⟨Y2.O, 0, none⟩) n Y2.cap] 40)) Y2 D.n (gv DT)) := Lib.hid (hg5.quiet ((Keeps.refl _ _).alloc _))
                have b15 := Blk.new w5 40 [.slice (some ⟨Y2.O, 0, none⟩) n Y2.cap]
                have HB15 := Lib.hid b15
                have HK6 := Lib.hid hk6
                have e26 := (hk6.cell (p := ⟨wr.heap.size, 2, none⟩) hl9' id).trans (HB3.out.cell (i := 2) rfl)
                have HTK6 := Lib.hid (HTK.out _ hk6)
                have hs5 := hk5.size
                rw [HS3.out.hn]
                clear hg5 hk5 hk6 b15 e24 hbx4
                go_wp2_with fail
                refine HTK6.out.mono ?_
                rintro e w7 ⟨rfl, ht7, ht7'⟩
                have hk7 : Keeps (fun k => k = L.G) (w5.alloc (.cells #[.slice (some ⟨Y2.O, 0, none⟩) n Y2.cap] 40)) w7 ∧ ArAt w7 L DT := by
                  by_cases hf : fi = 0
                  · obtain ⟨a1, a2⟩ := ht7' hf
                    rw [HTE.out.2 hf]
                    exact ⟨a1, a2⟩
                  · rw [HTE.out.1 hf, ← ht7 hf]
                    exact ⟨Keeps.refl _ _, HS3.out.ar.quiet HK6.out⟩
                obtain ⟨hk7, ha7⟩ := hk7
                have hgt := HS3.out.took HK6.out HG5.out hk7 ha7 HTN.out
                have HST := Lib.hid hgt.store
                have hbx7 := hgt.box.cell (i := 0) rfl
                have hbf7 := hgt.box.free 0
                have h15 := (hk7.blk HB15.out (by intro e; have e : w5.heap.size = L.G := e; omega)).cell (i := 0) rfl
                clear hgt hk7 ha7 ht7 ht7'
                go_wp2_with fail
                go_roundw
                case rel => exact ⟨t + 1, _, _, by omega, by go_num, HST.out⟩
                case measure => simp [intOf]; omega
        · have htl' : ¬ t < len := htl
          have HEND := HS2
          obtain ⟨EE, hEE⟩ : ∃ EE, EE = wr := ⟨_, rfl⟩
          rw [← hEE] at HEND ⊢
          clear hs hkk hEE
          go_wp2_with fail
          go_loopw [22] (fun c wx => ∃ c' : Int, -1 ≤ c' ∧ c' ≤ 9 ∧ c = .int .i64 c' ∧ Keeps (fun _ => False) EE wx) (fun c _ => (9 - intOf c).toNat)
          case atStart => exact ⟨-1, by omega, by omega, rfl, Keeps.refl _ _⟩
          case round =>
            obtain ⟨c, hc1, hc2, rfl, hkE⟩ := hrel
            have HG := Lib.hid (HEND.out.quiet hkE)
            have HKE := Lib.hid hkE
            have hbx := HG.out.box.cell (i := 0) rfl
            have hBl := HG.out.box.lt
            have HRC := Lib.hid (rcount_any Y D HG.out.ok _ HG.out.rgn c)
            rw [HG.out.hn] at HRC
            have HAR := Lib.hid HG.out.ar
            clear hkE
            by_cases hc9 : c < 9
            · by_cases hneg : c < 0
              · obtain rfl : c = -1 := by omega
                have e1 := rn_free D
                rw [HG.out.hn] at e1
                rw [e1] at HRC
                have HF := Lib.hid (fun Z (hZ : Keeps (fun _ => False) wr Z) => free_any L D Z (HAR.out.quiet hZ))
                have HU := Lib.hid (fun Z (hZ : Keeps (fun _ => False) wr Z) => used_any L D Z (HAR.out.quiet hZ) (-1))
                have HP := Lib.hid (fun Z (hZ : Keeps (fun _ => False) wr Z) => pages_any L D Z (HAR.out.quiet hZ) (-1))
                rw [used_neg] at HU
                rw [pages_neg] at HP
                obtain ⟨fr, hfr⟩ : ∃ fr, fr = D.free := ⟨_, rfl⟩
                rw [← hfr] at HRC HF
                obtain ⟨kk, hkk2⟩ : ∃ kk, kk = D.rk (-1) n := ⟨_, rfl⟩
                rw [← hkk2] at HRC
                clear e1 hfr hkk2
                unfold AL.ptr RG.val at *
                go_wp2_with fail
                refine HRC.out.mono ?_
                rintro e v1 ⟨rfl, hv1⟩
                have V1 := Lib.hid hv1
                clear hv1
                go_wp2_with fail
                refine (HF.out _ V1.out).mono ?_
                rintro e v2 ⟨rfl, hv2⟩
                have V2 := Lib.hid (V1.out.trans hv2)
                clear hv2
                go_wp2_with fail
                refine (HU.out _ V2.out).mono ?_
                rintro e v3 ⟨rfl, hv3⟩
                have V3 := Lib.hid (V2.out.trans hv3)
                clear hv3
                go_wp2_with fail
                refine (HP.out _ V3.out).mono ?_
                rintro e v4 ⟨rfl, hv4⟩
                have V4 := Lib.hid (HKE.out.trans (V3.out.trans hv4))
                clear hv4
                go_wp2_with fail
                go_roundw
                case rel => exact ⟨0, by omega, by omega, rfl, V4.out⟩
                case measure => simp [intOf]
              · obtain ⟨k, rfl⟩ := Int.eq_ofNat_of_zero_le (show 0 ≤ c by omega)
                have e1 := rn_pages D k
                have e2 := rk_used D k
                rw [HG.out.hn] at e1 e2
                rw [e1, e2] at HRC
                have HU := Lib.hid (fun Z (hZ : Keeps (fun _ => False) wr Z) => used_any L D Z (HAR.out.quiet hZ) (k : Nat))
                have HP := Lib.hid (fun Z (hZ : Keeps (fun _ => False) wr Z) => pages_any L D Z (HAR.out.quiet hZ) (k : Nat))
                obtain ⟨uu, huu⟩ : ∃ uu, uu = D.used (k : Nat) := ⟨_, rfl⟩
                obtain ⟨pp, hpp⟩ : ∃ pp, pp = D.pages (k : Nat) := ⟨_, rfl⟩
                rw [← huu] at HRC HU
                rw [← hpp] at HRC HP
                have hng : decide (((k : Nat) : Int) < 0) = false := by simp
                clear e1 e2 huu hpp
                unfold AL.ptr RG.val at *
                go_wp2_with fail
                refine HRC.out.mono ?_
                rintro e v1 ⟨rfl, hv1⟩
                have V1 := Lib.hid hv1
                clear hv1
                go_wp2_with fail
                refine (HP.out _ V1.out).mono ?_
                rintro e v2 ⟨rfl, hv2⟩
                have V2 := Lib.hid (V1.out.trans hv2)
                clear hv2
                go_wp2_with fail
                refine (HU.out _ V2.out).mono ?_
                rintro e v3 ⟨rfl, hv3⟩
                have V3 := Lib.hid (HKE.out.trans (V2.out.trans hv3))
                clear hv3
                go_wp2_with fail
                go_roundw
                case rel => exact ⟨(k : Int) + 1, by omega, by omega, rfl, V3.out⟩
                case measure => simp [intOf]; omega
            · obtain rfl : c = 9 := by omega
              go_wp2_with fail
              go_ret
              exact ⟨rfl, ((HK1.out.mono fun k _ hf => hf.elim).trans HG.out.keeps).mono (AgF HO.out HK0.out.size HK1.out.size)⟩
end Go.Proofs.YthnagihgjenimaaDoor
