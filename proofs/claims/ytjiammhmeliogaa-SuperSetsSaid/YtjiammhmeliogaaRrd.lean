/- the document: Read. -/
import Derived.Test.YtjiammhmeliogaaDec
import Derived.Deep.RegionHeld3
namespace Go.Proofs.Ytjiammhmeliogaa
open Go.RowKit
set_option linter.unusedVariables false
set_option linter.unusedSimpArgs false
attribute [local go_sem ↓] exec_load27 exec_store27 exec_new27 exec_alloc27 exec_build27 zeroValue27
attribute [local go_sem] padr_some rowAt_drew hasRow_drew mayRow_drew run_cells27

/-- What Read answers. -/
def RReadP (b : List Int) (w : World) (e : Ending) (w' : World) : Prop := e = .returned (.tuple #[(dec b).1.val, .int .u64 (dec b).2.1, .bool (dec b).2.2]) ∧ Keeps (fun _ => False) w w'
theorem part_byte {b : List Int} {k n : Nat} (hb : ∀ z ∈ b, Byte z) : ∀ z ∈ (b.drop k).take n, Byte z := fun z hz => hb z (List.mem_of_mem_drop (List.mem_of_mem_take hz))
theorem rnum_at {w : World} {g : Nat} {b : List Int} (h : Blk w g 27 (bk b)) (hb : ∀ z ∈ b, Byte z) (hl : b.length = 64) (k n c : Nat) (hn : k + n ≤ 64) (h8 : n ≤ 8) : Calls Try.prog 80 #[.slice (some ⟨g, k, none⟩) n c] w fun e w' => e = .returned (.int .u64 (part b k n)) ∧ w = w' :=
  rnumber_any _ n c _ w (row_mid h (by omega)) (part_byte hb) h8
theorem wrap_i64 {x : Int} (h0 : 0 ≤ x) (h : x ≤ 9223372036854775807) : IntKind.i64.wrap x = x := by
  simp [IntKind.wrap, IntKind.signed, IntKind.bits]
  omega
theorem rrd_fin {w W1 W2 W3 : World} {g : Nat} (h1 : Keeps (fun _ => False) w W1) (h2 : Keeps (fun _ => False) W1 W2) (h3 : Keeps (fun z => z = g) W2 W3) (hg : w.heap.size ≤ g) : Keeps (fun _ => False) w W3 :=
  (((h1.trans h2).mono fun _ _ h => h.elim).trans h3).mono fun k hk e => by have e : k = g := e; omega
set_option maxRecDepth 100000 in
set_option maxHeartbeats 4000000 in
theorem rread_any (b : List Int) (hl : b.length = 64) (hb : ∀ z ∈ b, Byte z) (w : World) : Calls Try.prog 46 #[.agg (bk b).toArray] w (RReadP b w) := by
  obtain ⟨b0, b1, hk0⟩ := dec_start w b
  obtain ⟨W0, hW0⟩ : ∃ W0, W0 = (w.alloc (.cells (bk b).toArray 27)).alloc (.cells s71.toArray 71) := ⟨_, rfl⟩
  rw [← hW0] at b0 b1 hk0
  have HW0 := Lib.hid hW0
  have HB0 := Lib.hid b0
  have HB1 := Lib.hid b1
  have HK0 := Lib.hid hk0
  have hbl : (bk b).length = 64 := by rw [bk_len, hl]
  have hwf := sparse_wf hb hl
  have htu := sturn_u64 hb hl
  obtain ⟨p1, p2⟩ : 0 ≤ (sparse b).sg ∧ (sparse b).sg ≤ 65535 := part16 hb (by omega)
  obtain ⟨p3, p4⟩ : 0 ≤ (sparse b).sc ∧ (sparse b).sc ≤ 65535 := part16 hb (by omega)
  have HDE : Hid (dec b = if sayB b then (sparse b, sturn b, true) else (SX.zero, 0, false)) := Lib.hid rfl
  have HSY : Hid (sayB b = ((sparse b).mayB && decide (sup (sparse b) (sturn b) = b))) := Lib.hid rfl
  obtain ⟨x, hx⟩ : ∃ x, x = sparse b := ⟨_, rfl⟩
  obtain ⟨tt, htt⟩ : ∃ tt, tt = sturn b := ⟨_, rfl⟩
  rw [← hx] at hwf p1 p2 p3 p4 HDE HSY
  rw [← htt] at htu HDE HSY
  have HN : Hid (∀ W k n c, Keeps (fun _ => False) W0 W → k + n ≤ 64 → n ≤ 8 → Calls Try.prog 80 #[.slice (some ⟨w.heap.size, k, none⟩) n c] W fun e w' => e = .returned (.int .u64 (part b k n)) ∧ W = w') := Lib.hid (fun W k n c hk hn h8 => rnum_at (hk.blk HB0.out id) hb hl k n c hn h8)
  have E0 : Hid (part b 8 8 = tt) := Lib.hid htt.symm
  have HMAY := Lib.hid (fun W => rmay_any x W)
  have HBLK := Lib.hid (fun (hm : x.may) W => rblock_any x hm hwf tt htu W)
  obtain ⟨sg, sc, ge, re, rs, fl⟩ := x
  have E1 : Hid (part b 16 2 = sg) := Lib.hid (congrArg SX.sg hx).symm
  have E2 : Hid (part b 18 2 = sc) := Lib.hid (congrArg SX.sc hx).symm
  have E3 : Hid (part b 20 8 = ge) := Lib.hid (congrArg SX.ge hx).symm
  have E4 : Hid (part b 28 8 = re) := Lib.hid (congrArg SX.re hx).symm
  have E5 : Hid (part b 36 8 = rs) := Lib.hid (congrArg SX.rs hx).symm
  have E6 : Hid (part b 44 8 = fl) := Lib.hid (congrArg SX.fl hx).symm
  simp only at p1 p2 p3 p4
  clear b0 b1 hk0 hW0 hwf htu hx htt
  unfold s71 SX.zero SX.cells at *
  go_enter Try.func46, Try.ntmps46
  go_upto_region 1 with fail
  rw [← HW0.out]
  go_cut [5] (fun v wx => v = .pointer (some ⟨W0.heap.size, 0, none⟩) ∧ Blk wx W0.heap.size 71 (SX.cells ⟨sg, sc, ge, re, rs, fl⟩) ∧ Keeps (fun _ => False) W0 wx)
  case first =>
    obtain ⟨z1, z2⟩ : 0 ≤ part b 16 2 ∧ part b 16 2 ≤ 65535 := part16 hb (by omega)
    obtain ⟨z3, z4⟩ : 0 ≤ part b 18 2 ∧ part b 18 2 ≤ 65535 := part16 hb (by omega)
    go_region_held3 (fun W => Keeps (fun _ => False) W0 W) (repeat (first | exact Keeps.refl _ _ | refine Keeps.drew ?_ | refine Keeps.alloc ?_ _ | refine Keeps.store ?_ (.inr (Nat.le_refl _)) _)) (first
      | (go_at_call 80; refine (HN.out _ _ _ _ (by (repeat (first | exact Keeps.refl _ _ | refine Keeps.drew ?_ | refine Keeps.alloc ?_ _))) (by omega) (by omega)).mono ?_; rintro e wx ⟨rfl, rfl⟩))
    all_goals
      rename_i hHeld
      have e := Blk.new W0 71 (SX.cells ⟨sg, sc, ge, re, rs, fl⟩)
      go_wp2_with fail
      go_meet
      rw [E1.out, E2.out, E3.out, E4.out, E5.out, E6.out, wrap_i64 (x := sg) (by omega) (by omega), wrap_i64 (x := sc) (by omega) (by omega)]
      exact ⟨rfl, e.drew, ((Keeps.refl _ _).alloc _).drew⟩
  case rest =>
    obtain ⟨rfl, hb2, hk2⟩ := hcut
    obtain ⟨w2, rfl⟩ : ∃ w2, w2 = wc := ⟨_, rfl⟩
    go_upto_region 3 with (first
      | (go_at_call 80; refine (HN.out _ _ _ _ (by (repeat (first | exact hk2 | refine Keeps.drew ?_ | refine Keeps.alloc ?_ _))) (by omega) (by omega)).mono ?_; rintro e wx ⟨rfl, rfl⟩))
    rw [E0.out]
    obtain ⟨Z, hZ⟩ : ∃ Z : List Int, Z = sup ⟨sg, sc, ge, re, rs, fl⟩ tt := ⟨_, rfl⟩
    have hZl : Z.length = 64 := by rw [hZ]; exact sup_len _ _
    have hzz : (bk Z).length = 64 := by rw [bk_len, hZl]
    unfold RBlkP at HBLK
    rw [← hZ] at HBLK HSY
    clear hZ
    have F : Hid (∀ W, Keeps (fun _ => False) w2 W → Blk W W0.heap.size 71 (SX.cells ⟨sg, sc, ge, re, rs, fl⟩) ∧ Blk W w.heap.size 27 (bk b) ∧ Blk W (w.heap.size + 1) 71 (SX.cells SX.zero)) := Lib.hid (fun W hk => ⟨hk.blk hb2 id, (hk2.trans hk).blk HB0.out id, (hk2.trans hk).blk HB1.out id⟩)
    have HK2 : Hid (Keeps (fun _ => False) w w2) := Lib.hid (HK0.out.trans hk2)
    have hlt : w.heap.size < w2.heap.size := Nat.lt_of_lt_of_le HB0.out.lt hk2.size
    have x70 := hb2.cell (i := 0) rfl
    have x71 := hb2.cell (i := 1) rfl
    have x72 := hb2.cell (i := 2) rfl
    have x73 := hb2.cell (i := 3) rfl
    have x74 := hb2.cell (i := 4) rfl
    have x75 := hb2.cell (i := 5) rfl
    unfold SX.cells at x70 x71 x72 x73 x74 x75
    clear hb2 hk2
    cases hmb : SX.mayB ⟨sg, sc, ge, re, rs, fl⟩
    · have HD : Hid (dec b = (SX.zero, 0, false)) := Lib.hid (by rw [HDE.out, HSY.out, hmb]; rfl)
      rw [hmb] at HMAY
      first
        | go_region_with (go_at_call 40; refine (HMAY.out _).mono ?_; rintro e w3 ⟨rfl, hk3⟩; have hk3' : Keeps (fun _ => False) w2 w3 := (by first | exact hk3 | exact (Keeps.refl (fun _ => False) w2).drew.trans hk3))
        | fail
      all_goals
        have hb1 := (F.out _ hk3').2.2
        unfold SX.cells SX.zero at hb1
        have z0 := hb1.free 0
        have z1 := hb1.free 1
        have z2 := hb1.free 2
        have z3 := hb1.free 3
        have z4 := hb1.free 4
        have z5 := hb1.free 5
        have y0 := hb1.cell (i := 0) rfl
        have y1 := hb1.cell (i := 1) rfl
        have y2 := hb1.cell (i := 2) rfl
        have y3 := hb1.cell (i := 3) rfl
        have y4 := hb1.cell (i := 4) rfl
        have y5 := hb1.cell (i := 5) rfl
        go_wp2_with fail
        obtain ⟨hb9, hk9⟩ := six_store hb1 rfl (.int .i64 0) (.int .i64 0) (.int .u64 0) (.int .u64 0) (.int .u64 0) (.int .u64 0)
        have q0 := hb9.cell (i := 0) rfl
        have q1 := hb9.cell (i := 1) rfl
        have q2 := hb9.cell (i := 2) rfl
        have q3 := hb9.cell (i := 3) rfl
        have q4 := hb9.cell (i := 4) rfl
        have q5 := hb9.cell (i := 5) rfl
        refine bodyPost_ret (v := .tuple #[.agg #[.int .i64 0, .int .i64 0, .int .u64 0, .int .u64 0, .int .u64 0, .int .u64 0], .int .u64 0, .bool false]) (by simp [results, Try.f46, go_sem, q0, q1, q2, q3, q4, q5]) rfl ⟨by rw [HD.out]; rfl, rrd_fin HK2.out hk3' hk9 (Nat.le_succ _)⟩
    · rw [hmb] at HMAY
      have HB := Lib.hid (fun W => HBLK.out ((mayB_iff _).1 hmb) W)
      have hE : ∀ W, (Op.equalIn 10000 27 (.agg (bk Z).toArray) (.agg (bk b).toArray)).run Try.prog W = .ok (decide (Z = b)) W := fun W => eq27 Z b hZl hl W
      have HD : Hid (dec b = if Z = b then (⟨sg, sc, ge, re, rs, fl⟩, tt, true) else (SX.zero, 0, false)) := Lib.hid (by rw [HDE.out, HSY.out, hmb]; by_cases h : Z = b <;> simp [h, SX.zero])
      have hone : oneAll (bk b).toArray = true := one_bk _
      have hu27 := Try.underlying27
      have hs27 : (Try.prog.info? 27).map (·.size) = some (bk b).length := by rw [hbl]; kernel_rfl
      have HC : Hid (∀ W, Keeps (fun _ => False) w2 W → W.cell? ⟨W0.heap.size, 0, none⟩ = some (.int .i64 sg) ∧ W.cell? ⟨W0.heap.size, 1, none⟩ = some (.int .i64 sc) ∧ W.cell? ⟨W0.heap.size, 2, none⟩ = some (.int .u64 ge) ∧ W.cell? ⟨W0.heap.size, 3, none⟩ = some (.int .u64 re) ∧ W.cell? ⟨W0.heap.size, 4, none⟩ = some (.int .u64 rs) ∧ W.cell? ⟨W0.heap.size, 5, none⟩ = some (.int .u64 fl) ∧ W.rangeAt w.heap.size 0 (bk b)) := Lib.hid (fun W hk => by
        have h := (F.out W hk).1
        exact ⟨h.cell (i := 0) rfl, h.cell (i := 1) rfl, h.cell (i := 2) rfl, h.cell (i := 3) rfl, h.cell (i := 4) rfl, h.cell (i := 5) rfl, fun j v hv => by rw [Nat.zero_add]; exact (F.out W hk).2.1.cell hv⟩)
      clear x70 x71 x72 x73 x74 x75
      first
      | go_region_held3 (fun W => W.cell? ⟨W0.heap.size, 0, none⟩ = some (.int .i64 sg) ∧ W.cell? ⟨W0.heap.size, 1, none⟩ = some (.int .i64 sc) ∧ W.cell? ⟨W0.heap.size, 2, none⟩ = some (.int .u64 ge) ∧ W.cell? ⟨W0.heap.size, 3, none⟩ = some (.int .u64 re) ∧ W.cell? ⟨W0.heap.size, 4, none⟩ = some (.int .u64 rs) ∧ W.cell? ⟨W0.heap.size, 5, none⟩ = some (.int .u64 fl) ∧ W.rangeAt w.heap.size 0 (bk b)) (first | exact HC.out _ (Keeps.refl _ _).drew | exact HC.out _ hk3' | exact HC.out _ hk4') (first
          | (go_at_call 40; refine (HMAY.out _).mono ?_; rintro e w3 ⟨rfl, hk3⟩; have hk3' : Keeps (fun _ => False) w2 w3 := (Keeps.refl (fun _ => False) w2).drew.trans hk3)
          | (go_at_call 43; refine (HB.out _).mono ?_; rintro e w4 ⟨rfl, hk4⟩; have hk4' : Keeps (fun _ => False) w2 w4 := hk3'.trans hk4))
      | fail
      rename_i hHeld
      clear hHeld
      by_cases hsb : Z = b
      · have HD : Hid (dec b = (⟨sg, sc, ge, re, rs, fl⟩, tt, true)) := Lib.hid (by rw [HD.out, if_pos hsb])
        rw [decide_eq_true hsb]
        have hb1 := (F.out _ hk4').2.2
        unfold SX.cells SX.zero at hb1
        have z0 := hb1.free 0
        have z1 := hb1.free 1
        have z2 := hb1.free 2
        have z3 := hb1.free 3
        have z4 := hb1.free 4
        have z5 := hb1.free 5
        have y0 := hb1.cell (i := 0) rfl
        have y1 := hb1.cell (i := 1) rfl
        have y2 := hb1.cell (i := 2) rfl
        have y3 := hb1.cell (i := 3) rfl
        have y4 := hb1.cell (i := 4) rfl
        have y5 := hb1.cell (i := 5) rfl
        have h71 := (F.out _ hk4').1
        unfold SX.cells at h71
        have x0 := h71.cell (i := 0) rfl
        have x1 := h71.cell (i := 1) rfl
        have x2 := h71.cell (i := 2) rfl
        have x3 := h71.cell (i := 3) rfl
        have x4 := h71.cell (i := 4) rfl
        have x5 := h71.cell (i := 5) rfl
        go_wp2_with fail
        obtain ⟨hb9, hk9⟩ := six_store hb1 rfl (.int .i64 sg) (.int .i64 sc) (.int .u64 ge) (.int .u64 re) (.int .u64 rs) (.int .u64 fl)
        have q0 := hb9.cell (i := 0) rfl
        have q1 := hb9.cell (i := 1) rfl
        have q2 := hb9.cell (i := 2) rfl
        have q3 := hb9.cell (i := 3) rfl
        have q4 := hb9.cell (i := 4) rfl
        have q5 := hb9.cell (i := 5) rfl
        refine bodyPost_ret (v := .tuple #[.agg #[.int .i64 sg, .int .i64 sc, .int .u64 ge, .int .u64 re, .int .u64 rs, .int .u64 fl], .int .u64 tt, .bool true]) (by simp [results, Try.f46, go_sem, q0, q1, q2, q3, q4, q5]) rfl ⟨by rw [HD.out]; rfl, rrd_fin HK2.out hk4' hk9 (Nat.le_succ _)⟩
      · have HD : Hid (dec b = (SX.zero, 0, false)) := Lib.hid (by rw [HD.out, if_neg hsb])
        rw [decide_eq_false hsb]
        have hb1 := (F.out _ hk4').2.2
        unfold SX.cells SX.zero at hb1
        have z0 := hb1.free 0
        have z1 := hb1.free 1
        have z2 := hb1.free 2
        have z3 := hb1.free 3
        have z4 := hb1.free 4
        have z5 := hb1.free 5
        have y0 := hb1.cell (i := 0) rfl
        have y1 := hb1.cell (i := 1) rfl
        have y2 := hb1.cell (i := 2) rfl
        have y3 := hb1.cell (i := 3) rfl
        have y4 := hb1.cell (i := 4) rfl
        have y5 := hb1.cell (i := 5) rfl
        go_wp2_with fail
        obtain ⟨hb9, hk9⟩ := six_store hb1 rfl (.int .i64 0) (.int .i64 0) (.int .u64 0) (.int .u64 0) (.int .u64 0) (.int .u64 0)
        have q0 := hb9.cell (i := 0) rfl
        have q1 := hb9.cell (i := 1) rfl
        have q2 := hb9.cell (i := 2) rfl
        have q3 := hb9.cell (i := 3) rfl
        have q4 := hb9.cell (i := 4) rfl
        have q5 := hb9.cell (i := 5) rfl
        refine bodyPost_ret (v := .tuple #[.agg #[.int .i64 0, .int .i64 0, .int .u64 0, .int .u64 0, .int .u64 0, .int .u64 0], .int .u64 0, .bool false]) (by simp [results, Try.f46, go_sem, q0, q1, q2, q3, q4, q5]) rfl ⟨by rw [HD.out]; rfl, rrd_fin HK2.out hk4' hk9 (Nat.le_succ _)⟩
end Go.Proofs.Ytjiammhmeliogaa
