/- super: Decode. -/
import Derived.Test.YtjiammhmeliogaaRblk
import Derived.Test.YtjiammhmeliogaaSame
namespace Go.Proofs.Ytjiammhmeliogaa
open Go.RowKit
set_option linter.unusedVariables false
set_option linter.unusedSimpArgs false
attribute [local go_sem ↓] exec_load27 exec_store27 exec_new27 exec_alloc27 exec_build27 zeroValue27
attribute [local go_sem] padr_some rowAt_drew hasRow_drew mayRow_drew run_cells27

theorem part_drop (b : List Int) (k i n : Nat) : part (b.drop k) i n = part b (k + i) n := by
  unfold part
  rw [List.drop_drop]
theorem part64 {b : List Int} {i : Nat} (hb : ∀ z ∈ b, Byte z) (h : i + 8 ≤ b.length) : u64 (part b i 8) := by
  obtain ⟨h1, h2⟩ := part_range hb h
  have e : (256 : Int) ^ 8 = 18446744073709551616 := by decide
  exact ⟨h1, by omega⟩
theorem part16 {b : List Int} {i : Nat} (hb : ∀ z ∈ b, Byte z) (h : i + 2 ≤ b.length) : 0 ≤ part b i 2 ∧ part b i 2 ≤ 65535 := by
  obtain ⟨h1, h2⟩ := part_range hb h
  have e : (256 : Int) ^ 2 = 65536 := by decide
  exact ⟨h1, by omega⟩
theorem sparse_wf {b : List Int} (hb : ∀ z ∈ b, Byte z) (hl : b.length = 64) : (sparse b).Wf :=
  ⟨part64 hb (by omega), part64 hb (by omega), part64 hb (by omega), part64 hb (by omega)⟩
theorem sturn_u64 {b : List Int} (hb : ∀ z ∈ b, Byte z) (hl : b.length = 64) : u64 (sturn b) := part64 hb (by omega)
/-- What Decode answers. -/
def DecP (b : List Int) (w : World) (e : Ending) (w' : World) : Prop := e = .returned (.tuple #[(dec b).1.val, .int .u64 (dec b).2.1, .int .i64 (if (dec b).2.2 then 0 else 170)]) ∧ Keeps (fun _ => False) w w'
theorem row_mid {w : World} {g t : Nat} {b : List Int} (h : Blk w g t (bk b)) {k n : Nat} (hn : k + n ≤ b.length) : Row .u8 w (some ⟨g, k, none⟩) n ((b.drop k).take n) := by
  refine ⟨by simp; omega, fun i hi => ⟨_, rfl, ?_⟩⟩
  have e2 : ((b.drop k).take n).getD i 0 = b.getD (k + i) 0 := by simp [List.getD_eq_getElem?_getD, hi]
  have e3 : (⟨g, k, none⟩ : Addr).add i = ⟨g, k + i, none⟩ := by unfold Addr.add; split <;> simp_all
  rw [e3, e2]
  exact h.cell (bk_at (by omega))
def s71 : List Value := SX.zero.cells
theorem dec_start (w : World) (b : List Int) : Blk ((w.alloc (.cells (bk b).toArray 27)).alloc (.cells s71.toArray 71)) w.heap.size 27 (bk b) ∧ Blk ((w.alloc (.cells (bk b).toArray 27)).alloc (.cells s71.toArray 71)) (w.heap.size + 1) 71 s71 ∧ Keeps (fun _ => False) w ((w.alloc (.cells (bk b).toArray 27)).alloc (.cells s71.toArray 71)) := by
  refine ⟨(Blk.new w 27 (bk b)).alloc _, ?_, ((Keeps.refl _ w).alloc _).alloc _⟩
  have := Blk.new (w.alloc (.cells (bk b).toArray 27)) 71 s71
  rwa [World.size_alloc] at this
theorem six_store {W : World} {g : Nat} {cs : List Value} (h : Blk W g 71 cs) (hl : cs.length = 6) (x0 x1 x2 x3 x4 x5 : Value) :
    Blk ((((((W.setCell ⟨g, 0, none⟩ x0).setCell ⟨g, 1, none⟩ x1).setCell ⟨g, 2, none⟩ x2).setCell ⟨g, 3, none⟩ x3).setCell ⟨g, 4, none⟩ x4).setCell ⟨g, 5, none⟩ x5) g 71 [x0, x1, x2, x3, x4, x5] ∧
    Keeps (fun k => k = g) W ((((((W.setCell ⟨g, 0, none⟩ x0).setCell ⟨g, 1, none⟩ x1).setCell ⟨g, 2, none⟩ x2).setCell ⟨g, 3, none⟩ x3).setCell ⟨g, 4, none⟩ x4).setCell ⟨g, 5, none⟩ x5) := by
  refine ⟨?_, ((((((Keeps.refl (fun k => k = g) W).store (p := ⟨g, 0, none⟩) (.inl rfl) _).store (p := ⟨g, 1, none⟩) (.inl rfl) _).store (p := ⟨g, 2, none⟩) (.inl rfl) _).store (p := ⟨g, 3, none⟩) (.inl rfl) _).store (p := ⟨g, 4, none⟩) (.inl rfl) _).store (p := ⟨g, 5, none⟩) (.inl rfl) _⟩
  match cs, hl with
  | [a0, a1, a2, a3, a4, a5], _ => exact (((((h.store 0 x0).store 1 x1).store 2 x2).store 3 x3).store 4 x4).store 5 x5
theorem dec_fin {w W0 W1 W2 : World} {B g : Nat} (hk0 : Keeps (fun _ => False) w W0) (h1 : Keeps (fun z => z = B) W0 W1) (h2 : Keeps (fun z => z = g) W1 W2) (hB : W0.heap.size ≤ B) (hg : w.heap.size ≤ g) : Keeps (fun _ => False) w W2 :=
  ((hk0.mono (S' := fun z => z = B ∨ z = g) fun _ _ h => h.elim).trans ((h1.mono fun _ _ e => .inl e).trans (h2.mono fun _ _ e => .inr e))).mono fun k hk e => by
    have := hk0.size
    rcases e with e | e <;> omega
set_option maxRecDepth 100000 in
set_option maxHeartbeats 4000000 in
theorem decode_any (b : List Int) (hl : b.length = 64) (hb : ∀ z ∈ b, Byte z) (w : World) : Calls Try.prog 45 #[.agg (bk b).toArray] w (DecP b w) := by
  obtain ⟨b0, b1, hk0⟩ := dec_start w b
  obtain ⟨W0, hW0⟩ : ∃ W0, W0 = (w.alloc (.cells (bk b).toArray 27)).alloc (.cells s71.toArray 71) := ⟨_, rfl⟩
  rw [← hW0] at b0 b1 hk0
  have HW0 := Lib.hid hW0
  have HB0 := Lib.hid b0
  have HB1 := Lib.hid b1
  have HK0 := Lib.hid hk0
  have HBY : Hid (∀ z ∈ b.drop 8, Byte z) := Lib.hid (fun z hz => hb z (List.mem_of_mem_drop hz))
  have HDL : Hid ((b.drop 8).length = 56) := Lib.hid (by simp [hl])
  have hbl : (bk b).length = 64 := by rw [bk_len, hl]
  have HRD := Lib.hid (oread_any (some ⟨w.heap.size, 8, none⟩) 56 56 _ W0 (row_mid b0 (k := 8) (n := 56) (by omega)) (by omega) (by omega))
  have HTK : Hid ((b.drop 8).take 56 = b.drop 8) := Lib.hid (List.take_of_length_le (by simp [hl]))
  rw [HTK.out] at HRD
  clear b0 b1 hk0 hW0
  unfold s71 SX.zero SX.cells at *
  go_enter Try.func45, Try.ntmps45
  go_upto_region 1 with fail
  rw [← HW0.out]
  go_wp2_with fail
  refine HRD.out.mono ?_
  rintro e v0 ⟨B, g, cap, rfl, hrd, hBge, hk⟩
  obtain ⟨c, hc⟩ : ∃ c, c = b.drop 8 := ⟨_, rfl⟩
  have E0 : Hid (part c 0 8 = sturn b) := Lib.hid (by rw [hc, part_drop]; rfl)
  have E1 : Hid (part c 8 2 = (sparse b).sg) := Lib.hid (by rw [hc, part_drop]; rfl)
  have E2 : Hid (part c 10 2 = (sparse b).sc) := Lib.hid (by rw [hc, part_drop]; rfl)
  have E3 : Hid (part c 12 8 = (sparse b).ge) := Lib.hid (by rw [hc, part_drop]; rfl)
  have E4 : Hid (part c 20 8 = (sparse b).re) := Lib.hid (by rw [hc, part_drop]; rfl)
  have E5 : Hid (part c 28 8 = (sparse b).rs) := Lib.hid (by rw [hc, part_drop]; rfl)
  have E6 : Hid (part c 36 8 = (sparse b).fl) := Lib.hid (by rw [hc, part_drop]; rfl)
  have hwf := sparse_wf hb hl
  have htu := sturn_u64 hb hl
  obtain ⟨p1, p2⟩ : 0 ≤ (sparse b).sg ∧ (sparse b).sg ≤ 65535 := part16 hb (by omega)
  obtain ⟨p3, p4⟩ : 0 ≤ (sparse b).sc ∧ (sparse b).sc ≤ 65535 := part16 hb (by omega)
  have HDE : Hid (dec b = if sayB b then (sparse b, sturn b, true) else (SX.zero, 0, false)) := Lib.hid rfl
  have HSY : Hid (sayB b = ((sparse b).mayB && decide (sup (sparse b) (sturn b) = b))) := Lib.hid rfl
  obtain ⟨x, hx⟩ : ∃ x, x = sparse b := ⟨_, rfl⟩
  obtain ⟨tt, htt⟩ : ∃ tt, tt = sturn b := ⟨_, rfl⟩
  rw [← hc] at hrd HBY HDL
  rw [← hx] at E1 E2 E3 E4 E5 E6 hwf p1 p2 p3 p4 HDE HSY
  rw [← htt] at E0 htu HDE HSY
  have HU64 : Hid (∀ k W, RdrAt W B c g cap k → k + 8 ≤ 56 → Calls Try.prog 78 #[.pointer (some ⟨B, 0, none⟩)] W (NumP c B g cap k 8 W)) := Lib.hid (fun k W h hk => ou64_any B g cap k c W h HBY.out (by rw [HDL.out]; exact hk) (by rw [HDL.out]; omega))
  have HU16 : Hid (∀ k W, RdrAt W B c g cap k → k + 2 ≤ 56 → Calls Try.prog 79 #[.pointer (some ⟨B, 0, none⟩)] W (U16P c B g cap k W)) := Lib.hid (fun k W h hk => ou16_any B g cap k c W h HBY.out (by rw [HDL.out]; exact hk) (by rw [HDL.out]; omega))
  have HENC := Lib.hid (fun W => encode_any x hwf tt htu W)
  obtain ⟨sg, sc, ge, re, rs, fl⟩ := x
  simp only at E1 E2 E3 E4 E5 E6 p1 p2 p3 p4
  have HKA : Hid (Keeps (fun z => z = B) W0 v0) := Lib.hid (hk.mono fun _ _ h => h.elim)
  have HRB := Lib.hid hBge
  have HR := Lib.hid hrd
  clear hk hrd hBge hc hx htt hwf htu HRD HTK
  go_wp2_with fail
  refine (HU64.out 0 _ HR.out (by omega)).mono ?_
  rintro e v1 ⟨rfl, hrd, hk⟩
  rw [E0.out]
  have HR' := Lib.hid hrd
  have HKA' := Lib.hid (HKA.out.trans hk)
  clear hrd hk HR HKA
  have HR := HR'
  have HKA := HKA'
  clear HR' HKA'
  go_wp2_with fail
  refine (HU16.out 8 _ HR.out (by omega)).mono ?_
  rintro e v2 ⟨rfl, hrd, hk⟩
  rw [E1.out]
  have HR' := Lib.hid hrd
  have HKA' := Lib.hid (HKA.out.trans hk)
  clear hrd hk HR HKA
  have HR := HR'
  have HKA := HKA'
  clear HR' HKA'
  go_wp2_with fail
  refine (HU16.out 10 _ HR.out (by omega)).mono ?_
  rintro e v3 ⟨rfl, hrd, hk⟩
  rw [E2.out]
  have HR' := Lib.hid hrd
  have HKA' := Lib.hid (HKA.out.trans hk)
  clear hrd hk HR HKA
  have HR := HR'
  have HKA := HKA'
  clear HR' HKA'
  go_wp2_with fail
  refine (HU64.out 12 _ HR.out (by omega)).mono ?_
  rintro e v4 ⟨rfl, hrd, hk⟩
  rw [E3.out]
  have HR' := Lib.hid hrd
  have HKA' := Lib.hid (HKA.out.trans hk)
  clear hrd hk HR HKA
  have HR := HR'
  have HKA := HKA'
  clear HR' HKA'
  go_wp2_with fail
  refine (HU64.out 20 _ HR.out (by omega)).mono ?_
  rintro e v5 ⟨rfl, hrd, hk⟩
  rw [E4.out]
  have HR' := Lib.hid hrd
  have HKA' := Lib.hid (HKA.out.trans hk)
  clear hrd hk HR HKA
  have HR := HR'
  have HKA := HKA'
  clear HR' HKA'
  go_wp2_with fail
  refine (HU64.out 28 _ HR.out (by omega)).mono ?_
  rintro e v6 ⟨rfl, hrd, hk⟩
  rw [E5.out]
  have HR' := Lib.hid hrd
  have HKA' := Lib.hid (HKA.out.trans hk)
  clear hrd hk HR HKA
  have HR := HR'
  have HKA := HKA'
  clear HR' HKA'
  go_wp2_with fail
  refine (HU64.out 36 _ HR.out (by omega)).mono ?_
  rintro e v7 ⟨rfl, hrd, hk⟩
  rw [E6.out]
  have HR' := Lib.hid hrd
  have HKA' := Lib.hid (HKA.out.trans hk)
  clear hrd hk HR HKA
  have HR := HR'
  have HKA := HKA'
  clear HR' HKA'
  go_wp2_with fail
  refine (HENC.out _).mono ?_
  rintro e v8 ⟨rfl, hk8⟩
  have k78 : Keeps (fun _ => False) v7 v8 := ((Keeps.refl (fun _ => False) v7).alloc _).trans hk8
  have hb7 : Blk v8 v7.heap.size 71 (SX.cells ⟨sg, sc, ge, re, rs, fl⟩) := hk8.blk (Blk.new v7 71 (SX.cells ⟨sg, sc, ge, re, rs, fl⟩)) id
  have hBn : ∀ z, z < W0.heap.size → z ≠ B := fun z hz e => by have := HRB.out; omega
  have hl0 := HB0.out.lt
  have hl1 := HB1.out.lt
  have kW : Keeps (fun z => z = B) W0 v8 := HKA.out.trans (k78.mono fun _ _ h => h.elim)
  have hbb := kW.blk HB0.out (hBn _ hl0)
  have hb1 := kW.blk HB1.out (hBn _ hl1)
  have HKW := Lib.hid kW
  have HBB := Lib.hid hbb
  have HB1' := Lib.hid hb1
  have HB7 := Lib.hid hb7
  have HRB' := HRB
  clear hk8 k78 hb7 kW hbb hb1 hBn HKA HR HU64 HU16 HENC E0 E1 E2 E3 E4 E5 E6 HDL HBY
  obtain ⟨Z, hZ⟩ : ∃ Z : List Int, Z = if (SX.mayB ⟨sg, sc, ge, re, rs, fl⟩) then sup ⟨sg, sc, ge, re, rs, fl⟩ tt else zb := ⟨_, rfl⟩
  have hZl : Z.length = 64 := by rw [hZ]; split <;> first | exact sup_len _ _ | exact zb_len
  rw [← hZ]
  have HZ := Lib.hid hZ
  have hzz : (bk Z).length = 64 := by rw [bk_len, hZl]
  have hone : oneAll (bk Z).toArray = true := one_bk _
  have hz64 : (bk zb).toArray.size = 64 := by simp [bk_len, zb_len]
  have kx : Keeps (fun _ => False) v8 (v8.alloc (.cells (bk Z).toArray 27)) := (Keeps.refl _ _).alloc _
  obtain ⟨a1, a2, a3⟩ := blkRow (Blk.new v8 27 (bk Z)) (n := 64) hzz
  obtain ⟨c1, c2, c3⟩ := blkRow (kx.blk HBB.out id) (n := 64) hbl
  have HBX1 := Lib.hid (kx.blk HB1'.out id)
  have x70 := (kx.blk HB7.out id).cell (i := 0) rfl
  have x71 := (kx.blk HB7.out id).cell (i := 1) rfl
  have x72 := (kx.blk HB7.out id).cell (i := 2) rfl
  have x73 := (kx.blk HB7.out id).cell (i := 3) rfl
  have x74 := (kx.blk HB7.out id).cell (i := 4) rfl
  have x75 := (kx.blk HB7.out id).cell (i := 5) rfl
  have y0 := HBX1.out.cell (i := 0) rfl
  have y1 := HBX1.out.cell (i := 1) rfl
  have y2 := HBX1.out.cell (i := 2) rfl
  have y3 := HBX1.out.cell (i := 3) rfl
  have y4 := HBX1.out.cell (i := 4) rfl
  have y5 := HBX1.out.cell (i := 5) rfl
  have z0 := HBX1.out.free 0
  have z1 := HBX1.out.free 1
  have z2 := HBX1.out.free 2
  have z3 := HBX1.out.free 3
  have z4 := HBX1.out.free 4
  have z5 := HBX1.out.free 5
  have HKX : Hid (Keeps (fun z => z = B) W0 (v8.alloc (.cells (bk Z).toArray 27))) := Lib.hid (HKW.out.trans (kx.mono fun _ _ h => h.elim))
  clear hZ kx
  cases hmb : SX.mayB ⟨sg, sc, ge, re, rs, fl⟩
  · have HD : Hid (dec b = (SX.zero, 0, false)) := Lib.hid (by rw [HDE.out, HSY.out, hmb]; rfl)
    go_wp2_with fail
    obtain ⟨hb9, hk9⟩ := six_store HBX1.out rfl (.int .i64 0) (.int .i64 0) (.int .u64 0) (.int .u64 0) (.int .u64 0) (.int .u64 0)
    have q0 := hb9.cell (i := 0) rfl
    have q1 := hb9.cell (i := 1) rfl
    have q2 := hb9.cell (i := 2) rfl
    have q3 := hb9.cell (i := 3) rfl
    have q4 := hb9.cell (i := 4) rfl
    have q5 := hb9.cell (i := 5) rfl
    refine bodyPost_ret (v := .tuple #[.agg #[.int .i64 0, .int .i64 0, .int .u64 0, .int .u64 0, .int .u64 0, .int .u64 0], .int .u64 0, .int .i64 170]) (by simp [results, Try.f45, go_sem, q0, q1, q2, q3, q4, q5]) rfl ⟨by rw [HD.out]; rfl, dec_fin HK0.out HKX.out hk9 HRB.out (Nat.le_succ _)⟩
  · have hzs : Z = sup ⟨sg, sc, ge, re, rs, fl⟩ tt := by rw [HZ.out, hmb]; rfl
    by_cases hsb : Z = b
    · have heq : ∀ W, (Op.equalIn 10000 27 (.agg (bk Z).toArray) (.agg (bk b).toArray)).run Try.prog W = .ok true W := fun W => by rw [eq27 Z b hZl hl, decide_eq_true hsb]
      have HD : Hid (dec b = (⟨sg, sc, ge, re, rs, fl⟩, tt, true)) := Lib.hid (by rw [HDE.out, HSY.out, hmb, ← hzs, decide_eq_true hsb]; rfl)
      clear hsb hzs
      go_wp2_with fail
      obtain ⟨hb9, hk9⟩ := six_store HBX1.out rfl (.int .i64 sg) (.int .i64 sc) (.int .u64 ge) (.int .u64 re) (.int .u64 rs) (.int .u64 fl)
      have q0 := hb9.cell (i := 0) rfl
      have q1 := hb9.cell (i := 1) rfl
      have q2 := hb9.cell (i := 2) rfl
      have q3 := hb9.cell (i := 3) rfl
      have q4 := hb9.cell (i := 4) rfl
      have q5 := hb9.cell (i := 5) rfl
      refine bodyPost_ret (v := .tuple #[.agg #[.int .i64 sg, .int .i64 sc, .int .u64 ge, .int .u64 re, .int .u64 rs, .int .u64 fl], .int .u64 tt, .int .i64 0]) (by simp [results, Try.f45, go_sem, q0, q1, q2, q3, q4, q5]) rfl ⟨by rw [HD.out]; rfl, dec_fin HK0.out HKX.out hk9 HRB.out (Nat.le_succ _)⟩
    · have heq : ∀ W, (Op.equalIn 10000 27 (.agg (bk Z).toArray) (.agg (bk b).toArray)).run Try.prog W = .ok false W := fun W => by rw [eq27 Z b hZl hl, decide_eq_false hsb]
      have HD : Hid (dec b = (SX.zero, 0, false)) := Lib.hid (by rw [HDE.out, HSY.out, hmb, ← hzs, decide_eq_false hsb]; rfl)
      clear hsb hzs
      go_wp2_with fail
      obtain ⟨hb9, hk9⟩ := six_store HBX1.out rfl (.int .i64 0) (.int .i64 0) (.int .u64 0) (.int .u64 0) (.int .u64 0) (.int .u64 0)
      have q0 := hb9.cell (i := 0) rfl
      have q1 := hb9.cell (i := 1) rfl
      have q2 := hb9.cell (i := 2) rfl
      have q3 := hb9.cell (i := 3) rfl
      have q4 := hb9.cell (i := 4) rfl
      have q5 := hb9.cell (i := 5) rfl
      refine bodyPost_ret (v := .tuple #[.agg #[.int .i64 0, .int .i64 0, .int .u64 0, .int .u64 0, .int .u64 0, .int .u64 0], .int .u64 0, .int .i64 170]) (by simp [results, Try.f45, go_sem, q0, q1, q2, q3, q4, q5]) rfl ⟨by rw [HD.out]; rfl, dec_fin HK0.out HKX.out hk9 HRB.out (Nat.le_succ _)⟩
end Go.Proofs.Ytjiammhmeliogaa
