/- SuperBlocks, walked. -/
import Derived.Test.YtjiammhmeliogaaSupW
namespace Go.Proofs.Ytjiammhmeliogaa
open Go.RowKit
set_option linter.unusedVariables false
set_option linter.unusedSimpArgs false
attribute [local go_sem ↓] exec_load27 exec_store27 exec_new27 exec_alloc27 exec_build27 zeroValue27
attribute [local go_sem] padr_some rowAt_drew hasRow_drew mayRow_drew run_cells27
attribute [local go_sem] eq71

theorem blocks_start (w : World) (x : SX) (b : List Int) : Blk ((w.alloc (.cells x.cells.toArray 71)).alloc (.cells (bk b).toArray 27)) w.heap.size 71 x.cells ∧ Blk ((w.alloc (.cells x.cells.toArray 71)).alloc (.cells (bk b).toArray 27)) (w.heap.size + 1) 27 (bk b) ∧ Keeps (fun _ => False) w ((w.alloc (.cells x.cells.toArray 71)).alloc (.cells (bk b).toArray 27)) := by
  refine ⟨(Blk.new w 71 x.cells).alloc _, ?_, ((Keeps.refl _ w).alloc _).alloc _⟩
  have := Blk.new (w.alloc (.cells x.cells.toArray 71)) 27 (bk b)
  rwa [World.size_alloc] at this

/-- Behind the superblock: a sector is read. -/
theorem dec_cases (b : List Int) : (dec b).2.2 = false ∧ (dec b).1 = SX.zero ∧ (dec b).2.1 = 0 ∨ (dec b).2.2 = true := by
  unfold dec
  split
  · exact .inr rfl
  · exact .inl ⟨rfl, rfl, rfl⟩
set_option maxRecDepth 100000 in
set_option maxHeartbeats 4000000 in
theorem sblocks_law (x : SX) (hx : x.Wf) (t : Int) (ht : u64 t) (b : List Int) (hl : b.length = 64) (hb : ∀ z ∈ b, Byte z) (w : World) : Calls Try.prog 11 #[x.val, .int .u64 t, .agg (bk b).toArray] w fun e w' => e = .returned (.bool true) ∧ Keeps (fun _ => False) w w' := by
  obtain ⟨b0, b1, hk0⟩ := blocks_start w x b
  obtain ⟨W0, hW0⟩ : ∃ W0, W0 = (w.alloc (.cells x.cells.toArray 71)).alloc (.cells (bk b).toArray 27) := ⟨_, rfl⟩
  rw [← hW0] at b0 b1 hk0
  have HE := Lib.hid (fun W => encode_any x hx t ht W)
  have HRM := Lib.hid (fun W => rmay_any x W)
  have HRB := Lib.hid (fun (hm : x.may) W => rblock_any x hm hx t ht W)
  obtain ⟨Z, hZ⟩ : ∃ Z : List Int, Z = if x.mayB then sup x t else zb := ⟨_, rfl⟩
  have hZl : Z.length = 64 := by rw [hZ]; split <;> first | exact sup_len _ _ | exact zb_len
  obtain ⟨c, hc⟩ : ∃ c : Int, c = if x.mayB then 0 else 2 := ⟨_, rfl⟩
  unfold EncP at HE
  rw [← hZ, ← hc] at HE
  obtain ⟨d, hd⟩ : ∃ d, d = dec b := ⟨_, rfl⟩
  have HDEC : Hid (∀ W, Calls Try.prog 45 #[.agg (bk b).toArray] W (DecP b W)) := Lib.hid (fun W => decode_any b hl hb W)
  have HRR : Hid (∀ W, Calls Try.prog 46 #[.agg (bk b).toArray] W (RReadP b W)) := Lib.hid (fun W => rread_any b hl hb W)
  unfold DecP at HDEC
  unfold RReadP at HRR
  have hdc := dec_cases b
  rw [← hd] at HDEC HRR hdc
  obtain ⟨y, u, ok⟩ := d
  obtain ⟨yg, yc, ye, yr, ys, yl⟩ := y
  have HDC := Lib.hid hdc
  have HW0 := Lib.hid hW0
  have HB0 := Lib.hid b0
  have HB1 := Lib.hid b1
  have HK0 := Lib.hid hk0
  have HZ := Lib.hid hZ
  have HC := Lib.hid hc
  have hbl : (bk b).length = 64 := by rw [bk_len, hl]
  have honeb : oneAll (bk b).toArray = true := one_bk _
  clear b0 b1 hk0 hd hdc hW0 hZ hc hx ht
  have F : Hid (∀ W, Keeps (fun _ => False) W0 W → Blk W w.heap.size 71 x.cells ∧ Blk W (w.heap.size + 1) 27 (bk b)) := Lib.hid (fun W hk => ⟨hk.blk HB0.out id, hk.blk HB1.out id⟩)
  have hmm : x.mayB = true ∨ x.mayB = false := by cases x.mayB <;> simp
  have HMB := Lib.hid (fun (h : x.mayB = true) => (mayB_iff x).1 h)
  obtain ⟨sg, sc, ge, re, rs, fl⟩ := x
  unfold SX.val SX.cells at *
  simp only at HDEC HRR
  go_enter Try.func11, Try.ntmps11
  go_upto_region 1 with fail
  rw [← HW0.out]
  go_wp2_with fail
  refine (swakes_any _).mono ?_
  rintro e w1 ⟨rfl, hk1⟩
  have hb1 := (F.out _ hk1).1
  have x0 := hb1.cell (i := 0) rfl
  have x1 := hb1.cell (i := 1) rfl
  have x2 := hb1.cell (i := 2) rfl
  have x3 := hb1.cell (i := 3) rfl
  have x4 := hb1.cell (i := 4) rfl
  have x5 := hb1.cell (i := 5) rfl
  have HK1 := Lib.hid hk1
  clear hk1 hb1
  go_wp2_with fail
  refine (HE.out _).mono ?_
  rintro e w2 ⟨rfl, hk2⟩
  have hz64 : (bk zb).toArray.size = 64 := by simp [bk_len, zb_len]
  have hone : oneAll (bk Z).toArray = true := one_bk _
  have hzz : (bk Z).length = 64 := by rw [bk_len, hZl]
  have k3 : Keeps (fun _ => False) w2 (w2.alloc (.cells (bk Z).toArray 27)) := (Keeps.refl _ _).alloc _
  have hk3 := HK1.out.trans (hk2.trans k3)
  have HBZ := Lib.hid (Blk.new w2 27 (bk Z))
  have hb3 := (F.out _ hk3).1
  have x0 := hb3.cell (i := 0) rfl
  have x1 := hb3.cell (i := 1) rfl
  have x2 := hb3.cell (i := 2) rfl
  have x3 := hb3.cell (i := 3) rfl
  have x4 := hb3.cell (i := 4) rfl
  have x5 := hb3.cell (i := 5) rfl
  have HK3 := Lib.hid hk3
  clear k3 hk2 hk3 hb3
  go_wp2_with fail
  refine (HRM.out _).mono ?_
  rintro e w4 ⟨rfl, hk4⟩
  have HK4 := Lib.hid (HK3.out.trans hk4)
  have HBZ4 := Lib.hid (hk4.blk HBZ.out id)
  obtain ⟨r1, r2, r3⟩ := blkRow HBZ4.out (n := 64) hzz
  obtain ⟨w4', rfl⟩ : ∃ w4', w4' = w4 := ⟨_, rfl⟩
  clear hk4
  rcases hmm with hmb | hmb
  · have hc0 : c = 0 := by rw [HC.out, hmb]; rfl
    have hzs : Z = sup ⟨sg, sc, ge, re, rs, fl⟩ t := by rw [HZ.out, hmb]; rfl
    have HRB' := Lib.hid (fun W => HRB.out (HMB.out hmb) W)
    unfold RBlkP at HRB'
    rw [← hzs] at HRB'
    subst hc0
    clear hzs
    rw [hmb]
    have hu27 := Try.underlying27
    have hs27 : (Try.prog.info? 27).map (·.size) = some (bk Z).length := by rw [hzz]; kernel_rfl
    have hE : ∀ W, (Op.equalIn 10000 27 (.agg (bk Z).toArray) (.agg (bk Z).toArray)).run Try.prog W = .ok true W := fun W => eq27_self Z hZl W
    have HCL : Hid (∀ W, Keeps (fun _ => False) w4' W → W.cell? ⟨w.heap.size, 0, none⟩ = some (.int .i64 sg) ∧ W.cell? ⟨w.heap.size, 1, none⟩ = some (.int .i64 sc) ∧ W.cell? ⟨w.heap.size, 2, none⟩ = some (.int .u64 ge) ∧ W.cell? ⟨w.heap.size, 3, none⟩ = some (.int .u64 re) ∧ W.cell? ⟨w.heap.size, 4, none⟩ = some (.int .u64 rs) ∧ W.cell? ⟨w.heap.size, 5, none⟩ = some (.int .u64 fl) ∧ W.rangeAt w2.heap.size 0 (bk Z)) := Lib.hid (fun W hk => by
      have h := (F.out W (HK4.out.trans hk)).1
      exact ⟨h.cell (i := 0) rfl, h.cell (i := 1) rfl, h.cell (i := 2) rfl, h.cell (i := 3) rfl, h.cell (i := 4) rfl, h.cell (i := 5) rfl, fun j v hv => by rw [Nat.zero_add]; exact (hk.blk HBZ4.out id).cell hv⟩)
    clear x0 x1 x2 x3 x4 x5 r1 r2 r3
    go_upto_region 7 with fail
    first
    | go_region_held3 (fun W => W.cell? ⟨w.heap.size, 0, none⟩ = some (.int .i64 sg) ∧ W.cell? ⟨w.heap.size, 1, none⟩ = some (.int .i64 sc) ∧ W.cell? ⟨w.heap.size, 2, none⟩ = some (.int .u64 ge) ∧ W.cell? ⟨w.heap.size, 3, none⟩ = some (.int .u64 re) ∧ W.cell? ⟨w.heap.size, 4, none⟩ = some (.int .u64 rs) ∧ W.cell? ⟨w.heap.size, 5, none⟩ = some (.int .u64 fl) ∧ W.rangeAt w2.heap.size 0 (bk Z)) (first | exact HCL.out _ (Keeps.refl _ _).drew | exact HCL.out _ hk5') (first
        | (go_at_call 43; refine (HRB'.out _).mono ?_; rintro e w5 ⟨rfl, hk5⟩; have hk5' : Keeps (fun _ => False) w4' w5 := (Keeps.refl (fun _ => False) w4').drew.trans hk5))
    | fail
    rename_i hHeld
    clear hHeld
    have hk5'' := HK4.out.trans hk5'
    obtain ⟨r1, r2, r3⟩ := blkRow (F.out _ hk5'').2 (n := 64) hbl
    have HK5 := Lib.hid hk5''
    rcases HDC.out with ⟨rfl, hy, rfl⟩ | rfl
    · unfold SX.zero at hy
      injection hy with h0 h1 h2 h3 h4 h5
      subst h0 h1 h2 h3 h4 h5
      simp only [Bool.false_eq_true, if_false] at HDEC HRR
      go_wp2_with fail
      refine (HDEC.out _).mono ?_
      rintro e w6 ⟨rfl, hk6⟩
      have kx6 : Keeps (fun _ => False) w5 (w6.alloc (.cells #[.int .i64 0, .int .i64 0, .int .u64 0, .int .u64 0, .int .u64 0, .int .u64 0] 71)) := hk6.alloc _
      have HK6 := Lib.hid (HK5.out.trans kx6)
      have HQ6 := Lib.hid (Blk.new w6 71 [.int .i64 0, .int .i64 0, .int .u64 0, .int .u64 0, .int .u64 0, .int .u64 0])
      obtain ⟨r1, r2, r3⟩ := blkRow (F.out _ HK6.out).2 (n := 64) hbl
      clear hk6 kx6
      go_wp2_with fail
      refine (HRR.out _).mono ?_
      rintro e w7 ⟨rfl, hk7⟩
      have kx7 := hk7.alloc (.cells #[.int .i64 0, .int .i64 0, .int .u64 0, .int .u64 0, .int .u64 0, .int .u64 0] 71)
      have hq7 := kx7.blk HQ6.out id
      have x0 := hq7.cell (i := 0) rfl
      have x1 := hq7.cell (i := 1) rfl
      have x2 := hq7.cell (i := 2) rfl
      have x3 := hq7.cell (i := 3) rfl
      have x4 := hq7.cell (i := 4) rfl
      have x5 := hq7.cell (i := 5) rfl
      have HK7 := Lib.hid ((HK0.out.trans HK6.out).trans kx7)
      clear hk7 kx7 hq7 r1 r2 r3
      go_wp2_with fail
      go_ret
      exact ⟨rfl, HK7.out⟩
    · simp only [if_true] at HDEC HRR
      go_wp2_with fail
      refine (HDEC.out _).mono ?_
      rintro e w6 ⟨rfl, hk6⟩
      have kx6 : Keeps (fun _ => False) w5 (w6.alloc (.cells #[.int .i64 yg, .int .i64 yc, .int .u64 ye, .int .u64 yr, .int .u64 ys, .int .u64 yl] 71)) := hk6.alloc _
      have HK6 := Lib.hid (HK5.out.trans kx6)
      have HQ6 := Lib.hid (Blk.new w6 71 [.int .i64 yg, .int .i64 yc, .int .u64 ye, .int .u64 yr, .int .u64 ys, .int .u64 yl])
      obtain ⟨r1, r2, r3⟩ := blkRow (F.out _ HK6.out).2 (n := 64) hbl
      clear hk6 kx6
      go_wp2_with fail
      refine (HRR.out _).mono ?_
      rintro e w7 ⟨rfl, hk7⟩
      have kx7 := hk7.alloc (.cells #[.int .i64 yg, .int .i64 yc, .int .u64 ye, .int .u64 yr, .int .u64 ys, .int .u64 yl] 71)
      have hq7 := kx7.blk HQ6.out id
      have hq8 := Blk.new w7 71 [.int .i64 yg, .int .i64 yc, .int .u64 ye, .int .u64 yr, .int .u64 ys, .int .u64 yl]
      have x0 := hq7.cell (i := 0) rfl
      have x1 := hq7.cell (i := 1) rfl
      have x2 := hq7.cell (i := 2) rfl
      have x3 := hq7.cell (i := 3) rfl
      have x4 := hq7.cell (i := 4) rfl
      have x5 := hq7.cell (i := 5) rfl
      have z0 := hq8.cell (i := 0) rfl
      have z1 := hq8.cell (i := 1) rfl
      have z2 := hq8.cell (i := 2) rfl
      have z3 := hq8.cell (i := 3) rfl
      have z4 := hq8.cell (i := 4) rfl
      have z5 := hq8.cell (i := 5) rfl
      have HK7 := Lib.hid ((HK0.out.trans HK6.out).trans kx7)
      clear hk7 kx7 hq7 hq8 r1 r2 r3
      go_wp2_with fail
      go_ret
      exact ⟨rfl, HK7.out⟩
  · have hc0 : c = 2 := by rw [HC.out, hmb]; rfl
    have hzs : Z = zb := by rw [HZ.out, hmb]; rfl
    subst hc0
    subst hzs
    rw [hmb]
    have heq : ∀ W, (Op.equalIn 10000 27 (.agg (bk zb).toArray) (.agg (bk zb).toArray)).run Try.prog W = .ok true W := fun W => eq27_self zb zb_len W
    have HK5 := HK4
    obtain ⟨s1, s2, s3⟩ := blkRow (F.out _ HK5.out).2 (n := 64) hbl
    clear x0 x1 x2 x3 x4 x5
    rcases HDC.out with ⟨rfl, hy, rfl⟩ | rfl
    · unfold SX.zero at hy
      injection hy with h0 h1 h2 h3 h4 h5
      subst h0 h1 h2 h3 h4 h5
      simp only [Bool.false_eq_true, if_false] at HDEC HRR
      go_wp2_with fail
      refine (HDEC.out _).mono ?_
      rintro e w6 ⟨rfl, hk6⟩
      have kx6 : Keeps (fun _ => False) w4' (w6.alloc (.cells #[.int .i64 0, .int .i64 0, .int .u64 0, .int .u64 0, .int .u64 0, .int .u64 0] 71)) := hk6.alloc _
      have HK6 := Lib.hid (HK5.out.trans kx6)
      have HQ6 := Lib.hid (Blk.new w6 71 [.int .i64 0, .int .i64 0, .int .u64 0, .int .u64 0, .int .u64 0, .int .u64 0])
      obtain ⟨r1, r2, r3⟩ := blkRow (F.out _ HK6.out).2 (n := 64) hbl
      clear hk6 kx6
      go_wp2_with fail
      refine (HRR.out _).mono ?_
      rintro e w7 ⟨rfl, hk7⟩
      have kx7 := hk7.alloc (.cells #[.int .i64 0, .int .i64 0, .int .u64 0, .int .u64 0, .int .u64 0, .int .u64 0] 71)
      have hq7 := kx7.blk HQ6.out id
      have x0 := hq7.cell (i := 0) rfl
      have x1 := hq7.cell (i := 1) rfl
      have x2 := hq7.cell (i := 2) rfl
      have x3 := hq7.cell (i := 3) rfl
      have x4 := hq7.cell (i := 4) rfl
      have x5 := hq7.cell (i := 5) rfl
      have HK7 := Lib.hid ((HK0.out.trans HK6.out).trans kx7)
      clear hk7 kx7 hq7 r1 r2 r3
      go_wp2_with fail
      go_ret
      exact ⟨rfl, HK7.out⟩
    · simp only [if_true] at HDEC HRR
      go_wp2_with fail
      refine (HDEC.out _).mono ?_
      rintro e w6 ⟨rfl, hk6⟩
      have kx6 : Keeps (fun _ => False) w4' (w6.alloc (.cells #[.int .i64 yg, .int .i64 yc, .int .u64 ye, .int .u64 yr, .int .u64 ys, .int .u64 yl] 71)) := hk6.alloc _
      have HK6 := Lib.hid (HK5.out.trans kx6)
      have HQ6 := Lib.hid (Blk.new w6 71 [.int .i64 yg, .int .i64 yc, .int .u64 ye, .int .u64 yr, .int .u64 ys, .int .u64 yl])
      obtain ⟨r1, r2, r3⟩ := blkRow (F.out _ HK6.out).2 (n := 64) hbl
      clear hk6 kx6
      go_wp2_with fail
      refine (HRR.out _).mono ?_
      rintro e w7 ⟨rfl, hk7⟩
      have kx7 := hk7.alloc (.cells #[.int .i64 yg, .int .i64 yc, .int .u64 ye, .int .u64 yr, .int .u64 ys, .int .u64 yl] 71)
      have hq7 := kx7.blk HQ6.out id
      have hq8 := Blk.new w7 71 [.int .i64 yg, .int .i64 yc, .int .u64 ye, .int .u64 yr, .int .u64 ys, .int .u64 yl]
      have x0 := hq7.cell (i := 0) rfl
      have x1 := hq7.cell (i := 1) rfl
      have x2 := hq7.cell (i := 2) rfl
      have x3 := hq7.cell (i := 3) rfl
      have x4 := hq7.cell (i := 4) rfl
      have x5 := hq7.cell (i := 5) rfl
      have z0 := hq8.cell (i := 0) rfl
      have z1 := hq8.cell (i := 1) rfl
      have z2 := hq8.cell (i := 2) rfl
      have z3 := hq8.cell (i := 3) rfl
      have z4 := hq8.cell (i := 4) rfl
      have z5 := hq8.cell (i := 5) rfl
      have HK7 := Lib.hid ((HK0.out.trans HK6.out).trans kx7)
      clear hk7 kx7 hq7 hq8 r1 r2 r3
      go_wp2_with fail
      go_ret
      exact ⟨rfl, HK7.out⟩
end Go.Proofs.Ytjiammhmeliogaa
