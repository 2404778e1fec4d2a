/- Sync, Crash, Write. -/
import Derived.Test.YtjiammhmeliogaaSettle
import Derived.Test.YtjiammhmeliogaaWrite2
namespace Go.Proofs.Ytjiammhmeliogaa
open Go.RowKit
set_option linter.unusedVariables false

/-- All pending writes are safe. -/
def DD.synced (D : DD) : DD := { D with f := setl (fun _ => true) 0 D.p D.f, p := [] }

theorem sync1_fn (L : DL) (D : DD) (w : World) (h : DkAt w L D) (pb : Nat) (h1 : Blk w pb 24 [L.ptr]) :
    Calls Try.prog 63 #[.pointer (some ⟨pb, 0, none⟩)] w fun e w' => (∃ v, e = .returned v) ∧ DMoved L D.synced w w' := by
  have q0 := h1.cell (i := 0) rfl
  have HS := Lib.hid (settle_all L D w h)
  clear h h1
  unfold DL.ptr at *
  go_enter Try.func63, Try.ntmps63
  go_wp2_with fail
  refine HS.out.mono ?_
  rintro e w' ⟨⟨v, rfl⟩, hm⟩
  have HM := Lib.hid hm
  clear hm
  go_wp2_with fail
  go_end0
  exact ⟨⟨_, rfl⟩, HM.out⟩

set_option maxHeartbeats 1000000 in
theorem do_sync (L : DL) (D : DD) (w : World) (h : DkAt w L D) (hla : D.armed = true → 0 < D.left) (hop : D.ops < 1000000000000) (pb : Nat) (h1 : Blk w pb 24 [L.ptr]) :
    Calls Try.prog 62 #[L.ptr, .func (.func 63) #[] #[.pointer (some ⟨pb, 0, none⟩)]] w fun e w' => e = .returned (.int .i64 0) ∧ DMoved L D.done.synced w w' := by
  have HD := Lib.hid h
  obtain ⟨c0, c1, c2, c3, c4, c5, c6⟩ := h.cells
  have k4 := h.obj.free 4
  have k6 := h.obj.free 6
  have o1 := h.o1
  have l1 := h.l1
  have l2 := h.l2
  have hf : Hid (∀ w1, DkAt w1 L D.done → Keeps (fun k => k = L.B) w w1 → Calls Try.prog 63 #[.pointer (some ⟨pb, 0, none⟩)] w1 fun e w' => (∃ v, e = .returned v) ∧ DMoved L D.done.synced w w') := Lib.hid fun w1 hd hk =>
    (sync1_fn L D.done w1 hd pb (hk.blk h1 (h1.ne h.obj (by decide)))).mono fun e w' ⟨a, m⟩ => ⟨a, m.after hk⟩
  clear h h1
  cases ha : D.armed
  · rw [ha] at c3
    have HE : Hid (D.done = { D with ops := D.ops + 1 }) := Lib.hid (by unfold DD.done; simp [ha])
    clear ha hla
    unfold DL.ptr at *
    go_enter Try.func62, Try.ntmps62
    go_wp2_with fail
    have hk : Keeps (fun k => k = L.B) w (w.setCell ⟨L.B, 6, none⟩ (.int .i64 (D.ops + 1))) := (Keeps.refl (fun k => k = L.B) w).store (p := ⟨L.B, 6, none⟩) (.inl rfl) _
    refine (hf.out _ (by rw [HE.out]; exact HD.out.turn hk (HD.out.obj.store 6 _) rfl rfl rfl (by show 0 ≤ D.ops + 1; omega) (by show D.ops + 1 ≤ _; omega) HD.out.l1 HD.out.l2 HD.out.f1 HD.out.f2) hk).mono ?_
    rintro e w' ⟨⟨v, rfl⟩, hm⟩
    have HM := Lib.hid hm
    clear hm
    go_wp2_with fail
    go_ret
    exact ⟨rfl, HM.out⟩
  · rw [ha] at c3
    have hpos := hla ha
    have HE : Hid (D.done = { D with left := D.left - 1, ops := D.ops + 1 }) := Lib.hid (by unfold DD.done; simp [ha])
    have hne : (D.left == 0) = false := by rw [beq_eq_false_iff_ne]; omega
    clear ha hla
    unfold DL.ptr at *
    go_enter Try.func62, Try.ntmps62
    go_wp2_with fail
    have hk : Keeps (fun k => k = L.B) w ((w.setCell ⟨L.B, 4, none⟩ (.int .i64 (D.left - 1))).setCell ⟨L.B, 6, none⟩ (.int .i64 (D.ops + 1))) := ((Keeps.refl (fun k => k = L.B) w).store (p := ⟨L.B, 4, none⟩) (.inl rfl) _).store (p := ⟨L.B, 6, none⟩) (.inl rfl) _
    refine (hf.out _ (by rw [HE.out]; exact HD.out.turn hk ((HD.out.obj.store 4 _).store 6 _) rfl rfl rfl (by show 0 ≤ D.ops + 1; omega) (by show D.ops + 1 ≤ _; omega) (by show _ ≤ D.left - 1; omega) (by show D.left - 1 ≤ _; omega) HD.out.f1 HD.out.f2) hk).mono ?_
    rintro e w' ⟨⟨v, rfl⟩, hm⟩
    have HM := Lib.hid hm
    clear hm
    go_wp2_with fail
    go_ret
    exact ⟨rfl, HM.out⟩

/-- What Sync answers and makes of the disk. -/
def DD.sync (D : DD) : Int × DD :=
  if (D.ready 0).1 ≠ 0 then D.ready 0
  else if (D.ready 0).2.armed = true ∧ (D.ready 0).2.left = 0 then (7, (D.ready 0).2.gone)
  else (0, (D.ready 0).2.done.synced)

/-- A call that answers an Errno. -/
def DP (L : DL) (c : Int) (D' : DD) (w : World) (e : Ending) (w' : World) : Prop := e = .returned (.int .i64 c) ∧ DMoved L D' w w'

set_option maxHeartbeats 1000000 in
theorem sync_any (L : DL) (D : DD) (w : World) (h : DkAt w L D) (hok : D.ok) (hop : D.ops < 1000000000000) : Calls Try.prog 31 #[L.ptr] w (DP L D.sync.1 D.sync.2 w) := by
  have hk0 : Keeps (fun _ => False) w (w.alloc (.cells #[L.ptr] 24)) := (Keeps.refl _ w).alloc _
  have HK0 := Lib.hid hk0
  have hb := Blk.new w 24 [L.ptr]
  have HB := Lib.hid hb
  have HR := Lib.hid (ready_any L D _ (h.quiet hk0) 0)
  have HC := Lib.hid (ready_cases D 0)
  have HS := Lib.hid (ready_same D 0)
  have hlB : L.B ≠ w.heap.size := by have := h.obj.lt; omega
  obtain ⟨c, hc⟩ : ∃ c, c = (D.ready 0).1 := ⟨_, rfl⟩
  obtain ⟨D1, hD1⟩ : ∃ D1, D1 = (D.ready 0).2 := ⟨_, rfl⟩
  rw [← hc, ← hD1] at HR
  rw [← hc] at HC
  rw [← hD1] at HS
  have HE : Hid (D.sync = if c ≠ 0 then (c, D1) else if D1.armed = true ∧ D1.left = 0 then (7, D1.gone) else (0, D1.done.synced)) := Lib.hid (by
    unfold DD.sync
    rw [hc, hD1])
  clear hc hD1 hk0 hb h
  unfold DL.ptr at *
  go_enter Try.func31, Try.ntmps31
  go_wp2_with fail
  refine HR.out.mono ?_
  rintro e w1 ⟨rfl, hd1, hk1⟩
  have hb1 := hk1.blk HB.out (fun e => hlB (by simpa using e.symm))
  have q0 := hb1.cell (i := 0) rfl
  have HD1 := Lib.hid hd1
  have HB1 := Lib.hid hb1
  have HK1 : Hid (DMoved L D1 w w1) := Lib.hid ((DMoved.of_step hd1 hk1).quiet HK0.out)
  have HKK : Hid (Keeps (fun k => k = L.B) w w1) := Lib.hid ((HK0.out.mono fun _ _ h => h.elim).trans hk1)
  clear hd1 hk1 hb1
  by_cases hc : c = 0
  · subst hc
    by_cases hg : D1.armed = true ∧ D1.left = 0
    · have HF := Lib.hid (do_dead L D1 w1 HD1.out (.func (.func 63) #[] #[.pointer (some ⟨w.heap.size, 0, none⟩)]) hg.1 hg.2)
      have HG := Lib.hid hg
      clear hg
      unfold DL.ptr at *
      go_wp2_with fail
      refine HF.out.mono ?_
      rintro e w2 ⟨rfl, hd2, hk2⟩
      have HM : Hid (DMoved L D1.gone w w2) := Lib.hid ((DMoved.of_step hd2 hk2).after HKK.out)
      clear hd2 hk2
      go_wp2_with fail
      go_ret
      rw [HE.out, if_neg (by simp), if_pos HG.out]
      exact ⟨rfl, HM.out⟩
    · have HF := Lib.hid (do_sync L D1 w1 HD1.out (fun ha => by
        have h1 := hok (by rw [← HS.out.2.2.2.2.1]; exact ha)
        rw [← HS.out.2.2.2.2.2.1] at h1
        have : D1.left ≠ 0 := fun e => hg ⟨ha, e⟩
        omega) (by rw [HS.out.2.2.2.2.2.2]; exact hop) w.heap.size HB1.out)
      have HG := Lib.hid hg
      clear hg
      unfold DL.ptr at *
      go_wp2_with fail
      refine HF.out.mono ?_
      rintro e w2 ⟨rfl, hm⟩
      have HM := Lib.hid (hm.after HKK.out)
      clear hm
      go_wp2_with fail
      go_ret
      rw [HE.out, if_neg (by simp), if_neg HG.out]
      exact ⟨rfl, HM.out⟩
  · have hne : (c != 0) = true := by rw [bne_iff_ne]; exact hc
    have HN := Lib.hid hc
    clear hc
    go_wp2_with fail
    go_ret
    rw [HE.out, if_pos HN.out]
    exact ⟨rfl, HK1.out⟩

theorem three_new (w : World) (a b : Value) (cs : List Value) : Blk (((w.alloc (.cells #[a] 24)).alloc (.cells #[b] 3)).alloc (.cells cs.toArray 27)) w.heap.size 24 [a] ∧
    Blk (((w.alloc (.cells #[a] 24)).alloc (.cells #[b] 3)).alloc (.cells cs.toArray 27)) (w.heap.size + 1) 3 [b] ∧ Blk (((w.alloc (.cells #[a] 24)).alloc (.cells #[b] 3)).alloc (.cells cs.toArray 27)) (w.heap.size + 1 + 1) 27 cs := by
  refine ⟨((Blk.new w 24 [a]).alloc _).alloc _, ?_, ?_⟩
  · have := (Blk.new (w.alloc (.cells #[a] 24)) 3 [b]).alloc (.cells cs.toArray 27)
    rwa [World.size_alloc] at this
  · have := Blk.new ((w.alloc (.cells #[a] 24)).alloc (.cells #[b] 3)) 27 cs
    rwa [World.size_alloc, World.size_alloc] at this

set_option maxHeartbeats 1000000 in
theorem write_any (L : DL) (D : DD) (w : World) (h : DkAt w L D) (hok : D.ok) (hop : D.ops < 1000000000000) (hpn : D.p.length < 1000000) (i : Int) (b : List Int) (hb : b.length = 64) :
    Calls Try.prog 50 #[L.ptr, .int .i64 i, .agg (bk b).toArray] w (DP L (D.write i b).1 (D.write i b).2 w) := by
  have hk0 : Keeps (fun _ => False) w (((w.alloc (.cells #[L.ptr] 24)).alloc (.cells #[.int .i64 i] 3)).alloc (.cells (bk b).toArray 27)) := (((Keeps.refl _ w).alloc _).alloc _).alloc _
  have HK0 := Lib.hid hk0
  obtain ⟨b1, b2, b3⟩ := three_new w L.ptr (.int .i64 i) (bk b)
  have HB1 := Lib.hid b1
  have HB2 := Lib.hid b2
  have HB3 := Lib.hid b3
  have HR := Lib.hid (ready_any L D _ (h.quiet hk0) i)
  have HC := Lib.hid (ready_cases D i)
  have HS := Lib.hid (ready_same D i)
  have hlB := h.obj.lt
  obtain ⟨c, hc⟩ : ∃ c, c = (D.ready i).1 := ⟨_, rfl⟩
  obtain ⟨D1, hD1⟩ : ∃ D1, D1 = (D.ready i).2 := ⟨_, rfl⟩
  rw [← hc, ← hD1] at HR
  rw [← hc] at HC
  rw [← hD1] at HS
  have HE : Hid (D.write i b = if c ≠ 0 then (c, D1) else if D1.armed = true ∧ D1.left = 0 then (7, D1.gone) else (0, { D1.done with p := D.p ++ [(i.toNat, b)] })) := Lib.hid (by
    unfold DD.write
    rw [hc, hD1])
  have HBL := Lib.hid hb
  obtain ⟨bs, hbs⟩ : ∃ bs, bs = bk b := ⟨_, rfl⟩
  rw [← hbs] at HK0 HB1 HB2 HB3 HR ⊢
  have HBS := Lib.hid hbs
  clear hc hD1 hk0 h b1 b2 b3 hbs hb
  unfold DL.ptr at *
  go_enter Try.func50, Try.ntmps50
  go_wp2_with fail
  generalize ((w.alloc (.cells #[.pointer (some ⟨L.B, 0, none⟩)] 24)).alloc (.cells #[.int .i64 i] 3)).alloc (.cells bs.toArray 27) = W0 at HK0 HB1 HB2 HB3 HR ⊢
  refine HR.out.mono ?_
  rintro e w1 ⟨rfl, hd1, hk1⟩
  have hb1 := hk1.blk HB1.out (by show ¬ (_ = L.B); omega)
  have hb2 := hk1.blk HB2.out (by show ¬ (_ = L.B); omega)
  have hb3 := hk1.blk HB3.out (by show ¬ (_ = L.B); omega)
  have q0 := hb1.cell (i := 0) rfl
  have HD1 := Lib.hid hd1
  have HB1 := Lib.hid hb1
  have HB2 := Lib.hid hb2
  have HB3 := Lib.hid hb3
  have HK1 : Hid (DMoved L D1 w w1) := Lib.hid ((DMoved.of_step hd1 hk1).quiet HK0.out)
  have HKK : Hid (Keeps (fun k => k = L.B) w w1) := Lib.hid ((HK0.out.mono fun _ _ h => h.elim).trans hk1)
  clear hd1 hk1 hb1 hb2 hb3
  by_cases hc : c = 0
  · subst hc
    by_cases hg : D1.armed = true ∧ D1.left = 0
    · have HF := Lib.hid (do_dead L D1 w1 HD1.out (.func (.func 81) #[] #[.pointer (some ⟨w.heap.size, 0, none⟩), .pointer (some ⟨w.heap.size + 1, 0, none⟩), .pointer (some ⟨w.heap.size + 1 + 1, 0, none⟩)]) hg.1 hg.2)
      have HG := Lib.hid hg
      clear hg
      unfold DL.ptr at *
      go_wp2_with fail
      refine HF.out.mono ?_
      rintro e w2 ⟨rfl, hd2, hk2⟩
      have HM : Hid (DMoved L D1.gone w w2) := Lib.hid ((DMoved.of_step hd2 hk2).after HKK.out)
      clear hd2 hk2
      go_wp2_with fail
      go_ret
      rw [HE.out, if_neg (by simp), if_pos HG.out]
      exact ⟨rfl, HM.out⟩
    · have hin := HC.out.resolve_left (by simp)
      obtain ⟨i, rfl⟩ := Int.eq_ofNat_of_zero_le hin.2.1
      have HF := Lib.hid (do_write L D1 w1 HD1.out (fun ha => by
        have h1 := hok (by rw [← HS.out.2.2.2.2.1]; exact ha)
        rw [← HS.out.2.2.2.2.2.1] at h1
        have : D1.left ≠ 0 := fun e => hg ⟨ha, e⟩
        omega) (by rw [HS.out.2.2.2.2.2.2]; exact hop) w.heap.size (w.heap.size + 1) (w.heap.size + 1 + 1) i b (by rw [HS.out.1]; omega) HBL.out HB1.out HB2.out (by rw [← HBS.out]; exact HB3.out) (by rw [HS.out.2.2.1]; exact hpn))
      have HG := Lib.hid hg
      clear hg hin
      unfold DL.ptr at *
      go_wp2_with fail
      refine HF.out.mono ?_
      rintro e w2 ⟨rfl, hm⟩
      rw [HS.out.2.2.1] at hm
      have HM := Lib.hid (hm.after HKK.out)
      clear hm
      go_wp2_with fail
      go_ret
      rw [HE.out, if_neg (by simp), if_neg HG.out]
      exact ⟨rfl, HM.out⟩
  · have hne : (c != 0) = true := by rw [bne_iff_ne]; exact hc
    have HN := Lib.hid hc
    clear hc
    go_wp2_with fail
    go_ret
    rw [HE.out, if_pos HN.out]
    exact ⟨rfl, HK1.out⟩

/-- Crash: what is kept lives, the power comes. -/
def DD.crash (D : DD) (xs : List Bool) : DD := { D with f := setl (liveOf xs) 0 D.p D.f, p := [], dead := false, armed := false, fails := 0 }

set_option maxHeartbeats 1000000 in
theorem crash_any (L : DL) (D : DD) (w : World) (h : DkAt w L D) (ka : Option Addr) (kn kc : Nat) (xs : List Bool) (hkr : BoolRow w ka kn xs) (hka : ∀ b off, ka = some ⟨b, off, none⟩ → L.sv.ownBlock ≠ some b) (hkn : kn ≤ 140737488355328) :
    Calls Try.prog 34 #[L.ptr, .slice ka kn kc] w (DP L 0 (D.crash xs) w) := by
  have hk0 : Keeps (fun _ => False) w (w.alloc (.cells #[.slice ka kn kc] 30)) := (Keeps.refl _ w).alloc _
  have HK0 := Lib.hid hk0
  have HF := Lib.hid (settle_keep L D _ (h.quiet hk0) w.heap.size ka kn kc xs (Blk.new w 30 [.slice ka kn kc]) (hkr.keep hk0 fun _ _ _ => id) hka hkn)
  clear h hkr hka hk0
  unfold DL.ptr at *
  go_enter Try.func34, Try.ntmps34
  go_wp2_with fail
  refine HF.out.mono ?_
  rintro e w1 ⟨⟨v, rfl⟩, pv, hd, hpv, hk⟩
  obtain ⟨c0, c1, c2, c3, c4, c5, c6⟩ := hd.cells
  have k2 := hd.obj.free 2
  have k3 := hd.obj.free 3
  have k5 := hd.obj.free 5
  dsimp only at c0 c1 c2 c3 c4 c5 c6 k2 k3 k5
  have HM : Hid (DMoved L (D.crash xs) w (((w1.setCell ⟨L.B, 2, none⟩ (.bool false)).setCell ⟨L.B, 3, none⟩ (.bool false)).setCell ⟨L.B, 5, none⟩ (.int .i64 0))) := Lib.hid (by
    have hk2 : Keeps (fun k => k = L.B) w1 (((w1.setCell ⟨L.B, 2, none⟩ (.bool false)).setCell ⟨L.B, 3, none⟩ (.bool false)).setCell ⟨L.B, 5, none⟩ (.int .i64 0)) :=
      (((Keeps.refl (fun k => k = L.B) w1).store (p := ⟨L.B, 2, none⟩) (.inl rfl) _).store (p := ⟨L.B, 3, none⟩) (.inl rfl) _).store (p := ⟨L.B, 5, none⟩) (.inl rfl) _
    have hm : DMoved L (D.crash xs) (w.alloc (.cells #[.slice ka kn kc] 30)) (((w1.setCell ⟨L.B, 2, none⟩ (.bool false)).setCell ⟨L.B, 3, none⟩ (.bool false)).setCell ⟨L.B, 5, none⟩ (.int .i64 0)) :=
      ⟨pv, hd.turn (D' := D.crash xs) hk2 (((hd.obj.store 2 _).store 3 _).store 5 _) rfl rfl rfl hd.o1 hd.o2 hd.l1 hd.l2 (by show (0 : Int) ≤ 0; omega) (by show (0 : Int) ≤ _; omega), hpv, hk.trans (hk2.mono fun k _ e => .inl e)⟩
    exact hm.quiet HK0.out)
  clear hd hpv hk
  go_wp2_with fail
  go_ret
  exact ⟨rfl, HM.out⟩
end Go.Proofs.Ytjiammhmeliogaa
