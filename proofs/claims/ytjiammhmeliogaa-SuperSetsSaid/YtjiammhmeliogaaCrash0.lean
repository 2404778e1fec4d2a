/- Crash, of a slice of no bools, wherever it points. -/
import Derived.Test.YtjiammhmeliogaaMany
namespace Go.Proofs.Ytjiammhmeliogaa
open Go.RowKit
set_option linter.unusedVariables false
attribute [local go_sem ↓] exec_new106 exec_load106 exec_load27 exec_store27
attribute [local go_sem] mayRow_drew padr_some rowAt_drew hasRow_drew rowAt_alloc hasRow_alloc zc_size

set_option maxRecDepth 100000 in
set_option maxHeartbeats 4000000 in
theorem settle_keep0 (L : DL) (D : DD) (w : World) (h : DkAt w L D) (kb : Nat) (ka : Option Addr) (kn kc : Nat) (xs : List Bool) (hkb : Blk w kb 30 [.slice ka kn kc]) (hkr : ∀ W, BoolRow W ka kn xs) (hkn : kn ≤ 140737488355328) :
    Calls Try.prog 64 #[L.ptr, .func (.func 66) #[] #[.pointer (some ⟨kb, 0, none⟩)]] w fun e w' => (∃ v, e = .returned v) ∧ DMoved L { D with f := setl (liveOf xs) 0 D.p D.f, p := [] } w w' := by
  have HD := Lib.hid h
  obtain ⟨pa, pc, hpv, hpc1, hpc2⟩ := own_slice h.pend
  obtain ⟨g, sc, hsv, hsc1, hsc2, hgl⟩ := own_some h.safe h.n1
  obtain ⟨c0, c1, _⟩ := h.cells
  have n2 := h.n2
  have pn := h.pn
  unfold maxLen at hpc2 hsc2
  rw [hsv] at c0
  rw [hpv] at c1
  have HPV := Lib.hid hpv
  have HSV := Lib.hid hsv
  have HS0 : Hid (DkAt w L { D with f := setl (liveOf xs) 0 (D.p.take 0) D.f } ∧ Keeps (fun k => L.sv.ownBlock = some k) w w) := Lib.hid ⟨h, Keeps.refl _ _⟩
  have hlB := h.obj.lt
  have HKB : Hid (∀ W, Keeps (fun k => L.sv.ownBlock = some k) w W → Blk W kb 30 [.slice ka kn kc] ∧ BoolRow W ka kn xs) := Lib.hid (fun W hk => ⟨hk.blk hkb (own_ne_blk hkb h.safe (by decide)), hkr W⟩)
  clear hkb hkr
  clear h hpv hsv
  unfold DL.ptr at *
  go_enter Try.func64, Try.ntmps64
  go_wp2_with fail
  go_loopw [11] (fun i wr => ∃ t : Nat, t ≤ D.p.length ∧ i = .int .i64 t ∧ DkAt wr L { D with f := setl (liveOf xs) 0 (D.p.take t) D.f } ∧ Keeps (fun k => L.sv.ownBlock = some k) w wr) (fun i _ => D.p.length - (intOf i).toNat)
  case atStart => exact ⟨0, Nat.zero_le _, rfl, HS0.out.1, HS0.out.2⟩
  case round =>
    obtain ⟨t, ht, rfl, hd, hk⟩ := hrel
    have HDt := Lib.hid hd
    have HKt := Lib.hid hk
    have hwr := hk.size
    by_cases hlt : t < D.p.length
    · obtain ⟨a, ha⟩ : ∃ a, D.p[t]? = some a := ⟨_, List.getElem?_eq_getElem hlt⟩
      have ham : a ∈ D.p := List.mem_of_getElem? ha
      have hal := hd.pl a ham
      have han := hd.pa a ham
      dsimp only at hal han
      obtain ⟨g2, pc2, hpv2, _, _, hg2⟩ := own_some hd.pend (by show 0 < D.p.length; omega)
      have hpe := hpv2
      rw [HPV.out] at hpe
      injection hpe with hpe1 _ hpe2
      subst hpe1
      subst hpe2
      have hrng : wr.rangeAt g2 (t * 65) (wrc a) := by
        have := hd.pend
        rw [hpv2] at this
        dsimp only at this
        rw [pflat_split ha] at this
        have h2 := own_range this
        rwa [pflat_len (fun b hb => hd.pl b (List.mem_of_mem_take hb)), List.length_take, Nat.min_eq_left ht] at h2
      have hr1 := hasRow_of hrng (n := 65) (wrc_len hal)
      have hr2 := rowAt_of hrng (n := 65) (wrc_len hal)
      obtain ⟨cv, hcv⟩ : ∃ cv, cv = wrc a := ⟨_, rfl⟩
      rw [← hcv] at hr2
      have hcl : cv.length = 65 := by rw [hcv]; exact wrc_len hal
      have hc1 : oneAll cv.toArray = true := by
        rw [hcv]
        unfold oneAll
        exact all_oneCell_toArray wrc_one
      obtain ⟨d0, d1, _⟩ := hd.cells
      try dsimp only at d0 d1
      rw [HSV.out] at d0
      have hlB2 : L.B < wr.heap.size := hd.obj.lt
      have hgS := hd.safe
      rw [HSV.out] at hgS
      have hglw : g < wr.heap.size := (own_heap hgS rfl).2.1
      have hthere : MayRow (wr.alloc (.cells cv.toArray 106)) g (a.1 * 64) 64 := by
        have h1 := own_there hgS (o := a.1 * 64) (m := 64) (by
          rw [flat_len hd.fl]
          show a.1 * 64 + 64 ≤ D.n * 64
          omega)
        exact World.there_alloc h1 _
      have hb0 : Blk (wr.alloc (.cells cv.toArray 106)) wr.heap.size 106 cv := Blk.new wr 106 cv
      have hx0 := hb0.cell (i := 0) (v := .int .i64 (a.1 : Int)) (by rw [hcv]; rfl)
      have hxr : (wr.alloc (.cells cv.toArray 106)).rangeAt wr.heap.size 1 (bk a.2) := by
        intro j v hv
        refine hb0.cell ?_
        rw [hcv, Nat.add_comm]
        exact hv
      have hx1 := hasRow_of hxr (n := 64) (by rw [bk_len]; exact hal)
      have hx2 := rowAt_of hxr (n := 64) (by rw [bk_len]; exact hal)
      obtain ⟨cb, hcb⟩ : ∃ cb, cb = bk a.2 := ⟨_, rfl⟩
      rw [← hcb] at hx2
      have hbl : cb.length = 64 := by rw [hcb, bk_len]; exact hal
      have hb1 : oneAll cb.toArray = true := by
        rw [hcb]
        unfold oneAll
        exact all_oneCell_toArray bk_one
      have HHA := Lib.hid ha
      have HCB := Lib.hid hcb
      have HCV := Lib.hid hcv
      have HAL := Lib.hid hal
      have HN : Hid (∀ W, W = (wr.alloc (.cells cv.toArray 106)).drew.setCells g (a.1 * 64) cb → DkAt W L { D with f := updF (setl (liveOf xs) 0 (D.p.take t) D.f) a.1 a.2 } ∧ Keeps (fun k => L.sv.ownBlock = some k) w W) := Lib.hid (fun W hW => by
        have hq : Keeps (fun _ => False) wr ((wr.alloc (.cells cv.toArray 106)).drew) := ((Keeps.refl _ _).alloc _).drew
        obtain ⟨s1, s2⟩ := safe_store (w' := W) (hd.quiet hq) HSV.out rfl han hal (hW.trans (by rw [HCB.out]))
        exact ⟨s1, (hk.trans (hq.mono fun _ _ h => h.elim)).trans s2⟩)
      have HQ : Hid (DkAt (wr.alloc (.cells cv.toArray 106)) L { D with f := setl (liveOf xs) 0 (D.p.take t) D.f } ∧ Keeps (fun k => L.sv.ownBlock = some k) w (wr.alloc (.cells cv.toArray 106))) := Lib.hid ⟨hd.quiet ((Keeps.refl _ _).alloc _), hk.alloc _⟩
      clear ham hd hk hpv2 hrng hxr hb0 hgS ha hcb hcv hal
      go_wp2_with fail
      refine (keep_fn kb ka kn kc xs t _ (HKB.out _ HQ.out.2).1 (HKB.out _ HQ.out.2).2 hkn (by omega)).mono ?_
      rintro e w2 ⟨rfl, rfl⟩
      by_cases hlv : liveOf xs t = true
      · rw [hlv]
        have HLV := Lib.hid hlv
        clear hlv
        go_wp2_with fail
        go_region
        all_goals
          go_wp2_with fail
          have HT : Hid (DkAt ((wr.alloc (.cells cv.toArray 106)).drew.setCells g (a.1 * 64) cb) L { D with f := setl (liveOf xs) 0 (D.p.take (t + 1)) D.f } ∧ Keeps (fun k => L.sv.ownBlock = some k) w ((wr.alloc (.cells cv.toArray 106)).drew.setCells g (a.1 * 64) cb)) := Lib.hid (by
            rw [setl_take HHA.out, if_pos HLV.out]
            exact HN.out _ rfl)
          generalize (wr.alloc (.cells cv.toArray 106)).drew.setCells g (a.1 * 64) cb = wn at HT ⊢
          go_roundw
          case rel => exact ⟨t + 1, by omega, by go_num, HT.out.1, HT.out.2⟩
          case measure => simp [intOf]; omega

      · have hlf : liveOf xs t = false := by simpa using hlv
        rw [hlf]
        have HLF := Lib.hid hlf
        clear hlv hlf
        go_wp2_with fail
        have HT : Hid (DkAt (wr.alloc (.cells cv.toArray 106)) L { D with f := setl (liveOf xs) 0 (D.p.take (t + 1)) D.f }) := Lib.hid (by
          rw [setl_take HHA.out, HLF.out]
          exact HQ.out.1)
        go_roundw
        case rel => exact ⟨t + 1, by omega, by go_num, HT.out, HQ.out.2⟩
        case measure => simp [intOf]; omega
    · obtain rfl : t = D.p.length := by omega
      have HF : Hid (DMoved L { D with f := setl (liveOf xs) 0 D.p D.f, p := [] } w (wr.setCell ⟨L.B, 1, none⟩ (.slice none 0 0))) := Lib.hid (by
        rw [List.take_length] at hd
        have hk4 : Keeps (fun k => k = L.B) wr (wr.setCell ⟨L.B, 1, none⟩ (.slice none 0 0)) := (Keeps.refl (fun k => k = L.B) wr).store (p := ⟨L.B, 1, none⟩) (.inl rfl) _
        refine ⟨.slice none 0 0, ⟨hd.obj.store 1 _, hk4.own hd.safe fun g hg e => own_ne_blk hd.obj hd.safe (by decide) (by rw [← (show g = L.B from e)]; exact hg), World.ownsRow_nil _ _ _ _, hd.n1, hd.n2, hd.fl, (by intro a ha; cases ha), (by intro a ha; cases ha), Nat.zero_le _, hd.o1, hd.o2, hd.l1, hd.l2, hd.f1, hd.f2⟩, fun g hg => by simp [Value.ownBlock] at hg, (hk.mono fun k _ e => .inr (.inl e)).trans (hk4.mono fun k _ e => .inl e)⟩)
      obtain ⟨d0, d1, _⟩ := hd.cells
      try dsimp only at d0 d1
      have hfr := hd.obj.free 1
      clear hd hk
      go_wp2_with fail
      go_end0
      exact ⟨⟨_, rfl⟩, HF.out⟩

set_option maxHeartbeats 1000000 in
theorem crash_any0 (L : DL) (D : DD) (w : World) (h : DkAt w L D) (ka : Option Addr) (kn kc : Nat) (xs : List Bool) (hkr : ∀ W, BoolRow W ka kn xs) (hkn : kn ≤ 140737488355328) :
    Calls Try.prog 34 #[L.ptr, .slice ka kn kc] w (DP L 0 (D.crash xs) w) := by
  have hk0 : Keeps (fun _ => False) w (w.alloc (.cells #[.slice ka kn kc] 30)) := (Keeps.refl _ w).alloc _
  have HK0 := Lib.hid hk0
  have HF := Lib.hid (settle_keep0 L D _ (h.quiet hk0) w.heap.size ka kn kc xs (Blk.new w 30 [.slice ka kn kc]) hkr hkn)
  clear h hkr hk0
  unfold DL.ptr at *
  go_enter Try.func34, Try.ntmps34
  go_wp2_with fail
  refine HF.out.mono ?_
  rintro e w1 ⟨⟨v, rfl⟩, pv, hd, hpv, hk⟩
  obtain ⟨c0, c1, c2, c3, c4, c5, c6⟩ := hd.cells
  have k2 := hd.obj.free 2
  have k3 := hd.obj.free 3
  have k5 := hd.obj.free 5
  dsimp only at c0 c1 c2 c3 c4 c5 c6 k2 k3 k5
  have HM : Hid (DMoved L (D.crash xs) w (((w1.setCell ⟨L.B, 2, none⟩ (.bool false)).setCell ⟨L.B, 3, none⟩ (.bool false)).setCell ⟨L.B, 5, none⟩ (.int .i64 0))) := Lib.hid (by
    have hk2 : Keeps (fun k => k = L.B) w1 (((w1.setCell ⟨L.B, 2, none⟩ (.bool false)).setCell ⟨L.B, 3, none⟩ (.bool false)).setCell ⟨L.B, 5, none⟩ (.int .i64 0)) :=
      (((Keeps.refl (fun k => k = L.B) w1).store (p := ⟨L.B, 2, none⟩) (.inl rfl) _).store (p := ⟨L.B, 3, none⟩) (.inl rfl) _).store (p := ⟨L.B, 5, none⟩) (.inl rfl) _
    have hm : DMoved L (D.crash xs) (w.alloc (.cells #[.slice ka kn kc] 30)) (((w1.setCell ⟨L.B, 2, none⟩ (.bool false)).setCell ⟨L.B, 3, none⟩ (.bool false)).setCell ⟨L.B, 5, none⟩ (.int .i64 0)) :=
      ⟨pv, hd.turn (D' := D.crash xs) hk2 (((hd.obj.store 2 _).store 3 _).store 5 _) rfl rfl rfl hd.o1 hd.o2 hd.l1 hd.l2 (by show (0 : Int) ≤ 0; omega) (by show (0 : Int) ≤ _; omega), hpv, hk.trans (hk2.mono fun k _ e => .inl e)⟩
    exact hm.quiet HK0.out)
  clear hd hpv hk
  go_wp2_with fail
  go_ret
  exact ⟨rfl, HM.out⟩

theorem Many.crash0 {w0 w : World} {ds : List (DL × DD)} {rs : List RowT} {L : DL} {D : DD} {i : Nat} (h : Many w0 w ds rs) (hx : ds[i]? = some (L, D)) (ka : Option Addr) (kc : Nat) {p : Value} (hp : L.ptr = p) :
    Calls Try.prog 34 #[p, .slice ka 0 kc] w fun e w' => e = .returned (.int .i64 0) ∧ ∃ L' : DL, L'.ptr = p ∧ Many w0 w' (ds.set i (L', D.crash [])) rs := by
  have hr := crash_any0 L D w (h.dk i _ hx) ka 0 kc [] (fun W => ⟨rfl, fun i hi => by omega⟩) (by omega)
  rw [hp] at hr
  refine hr.mono ?_
  rintro e w' ⟨rfl, hm⟩
  obtain ⟨L', e1, e2⟩ := h.moved hx hm
  exact ⟨rfl, L', e1.trans hp, e2⟩
/-- A slice of bools that came in. -/
theorem Many.crashIn {w0 w wi : World} {ds : List (DL × DD)} {rs : List RowT} {L : DL} {D : DD} {i : Nat} (h : Many w0 w ds rs) (hx : ds[i]? = some (L, D)) (ka : Option Addr) (kn kc : Nat) (xs : List Bool) (hkr : BoolRow wi ka kn xs) (hkw : Keeps (fun _ => False) wi w0) (hkn : kn ≤ 140737488355328) {p : Value} (hp : L.ptr = p) :
    Calls Try.prog 34 #[p, .slice ka kn kc] w fun e w' => e = .returned (.int .i64 0) ∧ ∃ L' : DL, L'.ptr = p ∧ Many w0 w' (ds.set i (L', D.crash xs)) rs := by
  by_cases h0 : kn = 0
  · subst h0
    have hx0 : xs = [] := List.eq_nil_of_length_eq_zero hkr.1
    subst hx0
    exact h.crash0 hx ka kc hp
  · obtain ⟨b, off, e, hb, _⟩ := hkr.2 0 (by omega)
    refine h.crash hx ka kn kc xs (hkr.keep (hkw.trans h.k) fun _ _ _ => id) (fun b' off' e' h1 => ?_) hkn hp
    have h2 := h.own i _ hx b' h1
    have h3 := hkw.size
    rw [e] at e'
    injection e' with e'
    injection e' with e'
    omega
end Go.Proofs.Ytjiammhmeliogaa
