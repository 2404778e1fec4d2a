/- SuperBack, walked. -/
import Derived.Test.YtjiammhmeliogaaSupW
namespace Go.Proofs.Ytjiammhmeliogaa
open Go.RowKit
set_option linter.unusedVariables false
set_option linter.unusedSimpArgs false
attribute [local go_sem ↓] exec_load27 exec_store27 exec_new27 exec_alloc27 exec_build27 zeroValue27
attribute [local go_sem] padr_some rowAt_drew hasRow_drew mayRow_drew run_cells27

/-- A bit is turned. -/
def turned (b : List Int) (q r : Nat) : List Int := b.set q (bits .xor .u8 (b.getD q 0) (2 ^ r % 256))
theorem turned_len (b : List Int) (q r : Nat) : (turned b q r).length = b.length := by simp [turned]
theorem bit_ne : ∀ a : Fin 256, ∀ r : Fin 8, bits .xor .u8 (a.val : Int) (2 ^ r.val % 256) ≠ (a.val : Int) := by decide +kernel
theorem bits_byte (a b : Int) : Byte (bits .xor .u8 a b) := by
  have h := wf_bits .xor .u8 a b
  unfold Byte
  simpa [Lit.wf, IntKind.min, IntKind.max, IntKind.signed, IntKind.bits] using h
theorem turned_byte {b : List Int} (hb : ∀ z ∈ b, Byte z) (q r : Nat) : ∀ z ∈ turned b q r, Byte z := by
  intro z hz
  rcases List.mem_or_eq_of_mem_set hz with h | h
  · exact hb z h
  · rw [h]
    exact bits_byte _ _
theorem turned_ne {b : List Int} (hb : ∀ z ∈ b, Byte z) {q r : Nat} (hq : q < b.length) (hr : r < 8) : turned b q r ≠ b := by
  intro h
  have e : (turned b q r).getD q 0 = b.getD q 0 := by rw [h]
  have e2 : (turned b q r).getD q 0 = bits .xor .u8 (b.getD q 0) (2 ^ r % 256) := by
    unfold turned
    rw [List.getD_eq_getElem?_getD, List.getElem?_set_self hq]
    rfl
  rw [e2] at e
  have hz : Byte (b.getD q 0) := by
    rw [List.getD_eq_getElem?_getD, List.getElem?_eq_getElem hq]
    exact hb _ (List.getElem_mem _)
  have h1 := hz.1
  have h2 := hz.2
  have := bit_ne ⟨(b.getD q 0).toNat, by omega⟩ ⟨r, hr⟩
  simp only [Int.toNat_of_nonneg h1] at this
  exact this e
/-- It is none, or says something else. -/
theorem turned_dec {x : SX} {t : Int} {q r : Nat} (hq : q < 64) (hr : r < 8) (hb : ∀ z ∈ sup x t, Byte z) : ((dec (turned (sup x t) q r)).2.2 = false ∧ (dec (turned (sup x t) q r)).1 = SX.zero) ∨ (dec (turned (sup x t) q r)).2.2 = true ∧ ¬ ((dec (turned (sup x t) q r)).1 = x ∧ (dec (turned (sup x t) q r)).2.1 = t) := by
  cases h : sayB (turned (sup x t) q r)
  · left
    unfold dec
    rw [h]
    exact ⟨rfl, rfl⟩
  · right
    have e := (say_sup h).1
    refine ⟨by unfold dec; rw [h]; rfl, fun he => ?_⟩
    unfold dec at he
    rw [h, if_pos rfl] at he
    rw [show sparse (turned (sup x t) q r) = x from he.1, show sturn (turned (sup x t) q r) = t from he.2] at e
    exact turned_ne hb (by rw [sup_len]; exact hq) hr e.symm
theorem sup_byte (x : SX) (t : Int) : ∀ z ∈ sup x t, Byte z := by
  intro z hz
  unfold sup shead letters at hz
  simp only [List.mem_append] at hz
  rcases hz with (h | h | h | h | h | h | h | h | h) | h
  · simp at h
    rcases h with h | h | h | h | h | h | h | h <;> subst h <;> exact ⟨by decide, by decide⟩
  · exact hi_range _ _ _ h
  · exact hi_range _ _ _ h
  · exact hi_range _ _ _ h
  · exact hi_range _ _ _ h
  · exact hi_range _ _ _ h
  · exact hi_range _ _ _ h
  · exact hi_range _ _ _ h
  · simp at h
    subst h
    exact ⟨by decide, by decide⟩
  · exact hi_range _ _ _ h
set_option maxRecDepth 100000 in
set_option maxHeartbeats 2000000 in
theorem sback_law (x : SX) (hx : x.Wf) (t : Int) (ht : u64 t) (at' : Int) (w : World) : Calls Try.prog 12 #[x.val, .int .u64 t, .int .i64 at'] w fun e w' => e = .returned (.bool true) ∧ Keeps (fun _ => False) w w' := by
  have hk : Keeps (fun _ => False) w (w.alloc (.cells x.cells.toArray 71)) := (Keeps.refl _ _).alloc _
  have hb := Blk.new w 71 x.cells
  have HE := Lib.hid (fun W => encode_any x hx t ht W)
  have HDS := Lib.hid (fun (hm : x.may) => dec_sup hm hx ht)
  have HTD := Lib.hid (fun q r (hq : q < 64) (hr : r < 8) => turned_dec (x := x) (t := t) hq hr (sup_byte x t))
  obtain ⟨Z, hZ⟩ : ∃ Z : List Int, Z = sup x t := ⟨_, rfl⟩
  have hZl : Z.length = 64 := by rw [hZ]; exact sup_len _ _
  have HZB : Hid (∀ z ∈ Z, Byte z) := Lib.hid (by rw [hZ]; exact sup_byte x t)
  unfold EncP at HE
  rw [← hZ] at HE HDS HTD
  have HK := Lib.hid hk
  have HB := Lib.hid hb
  clear hk hb hZ
  cases hmb : x.mayB
  · simp only [hmb, Bool.false_eq_true, if_false] at HE
    obtain ⟨Y, hY⟩ : ∃ Y, Y = zb := ⟨_, rfl⟩
    have hYl : Y.length = 64 := by rw [hY]; exact zb_len
    have heq : ∀ W, (Op.equalIn 10000 27 (.agg (bk Y).toArray) (.agg (bk zb).toArray)).run Try.prog W = .ok true W := fun W => by rw [hY]; exact eq27_self zb zb_len W
    rw [← hY] at HE
    clear hY
    obtain ⟨sg, sc, ge, re, rs, fl⟩ := x
    unfold SX.val SX.cells at *
    clear hmb HDS HTD hx ht
    go_enter Try.func12, Try.ntmps12
    go_wp2_with fail
    refine (swakes_any _).mono ?_
    rintro e w1 ⟨rfl, hk1⟩
    have hb1 := hk1.blk HB.out id
    have x0 := hb1.cell (i := 0) rfl
    have x1 := hb1.cell (i := 1) rfl
    have x2 := hb1.cell (i := 2) rfl
    have x3 := hb1.cell (i := 3) rfl
    have x4 := hb1.cell (i := 4) rfl
    have x5 := hb1.cell (i := 5) rfl
    have HK1 := Lib.hid (HK.out.trans hk1)
    clear hk1 hb1
    go_wp2_with fail
    refine (HE.out _).mono ?_
    rintro e w2 ⟨rfl, hk2⟩
    have hz64 : (bk zb).toArray.size = 64 := by simp [bk_len, zb_len]
    have hone : oneAll (bk Y).toArray = true := one_bk _
    have hzz : (bk Y).length = 64 := by rw [bk_len, hYl]
    obtain ⟨r1, r2, r3⟩ := blkRow (Blk.new w2 27 (bk Y)) (n := 64) hzz
    have HK2 := Lib.hid (HK1.out.trans (hk2.alloc (.cells (bk Y).toArray 27)))
    clear hk2
    go_wp2_with fail
    go_ret
    exact ⟨rfl, HK2.out⟩
  · simp only [hmb, if_true] at HE
    have HDEC : Hid (∀ W, Calls Try.prog 45 #[.agg (bk Z).toArray] W (DecP Z W)) := Lib.hid (fun W => decode_any Z hZl HZB.out W)
    unfold DecP at HDEC
    rw [HDS.out ((mayB_iff x).1 hmb)] at HDEC
    obtain ⟨sg, sc, ge, re, rs, fl⟩ := x
    unfold SX.val SX.cells at *
    clear hmb hx ht HDS
    go_enter Try.func12, Try.ntmps12
    go_wp2_with fail
    refine (swakes_any _).mono ?_
    rintro e w1 ⟨rfl, hk1⟩
    have hb1 := hk1.blk HB.out id
    have x0 := hb1.cell (i := 0) rfl
    have x1 := hb1.cell (i := 1) rfl
    have x2 := hb1.cell (i := 2) rfl
    have x3 := hb1.cell (i := 3) rfl
    have x4 := hb1.cell (i := 4) rfl
    have x5 := hb1.cell (i := 5) rfl
    have HK1 := Lib.hid (HK.out.trans hk1)
    have HB1 := Lib.hid hb1
    have hl1 := hb1.lt
    clear hk1 hb1
    go_wp2_with fail
    refine (HE.out _).mono ?_
    rintro e w2 ⟨rfl, hk2⟩
    have hz64 : (bk zb).toArray.size = 64 := by simp [bk_len, zb_len]
    have hone : oneAll (bk Z).toArray = true := one_bk _
    have hzz : (bk Z).length = 64 := by rw [bk_len, hZl]
    obtain ⟨r1, r2, r3⟩ := blkRow (Blk.new w2 27 (bk Z)) (n := 64) hzz
    have k3 : Keeps (fun _ => False) w2 (w2.alloc (.cells (bk Z).toArray 27)) := (Keeps.refl _ _).alloc _
    have HK3 := Lib.hid (HK1.out.trans (hk2.trans k3))
    have HBZ := Lib.hid (Blk.new w2 27 (bk Z))
    have HNE : Hid (w.heap.size < w2.heap.size) := Lib.hid (Nat.lt_of_lt_of_le hl1 hk2.size)
    have hl3 := (Blk.new w2 27 (bk Z)).lt
    clear hl1
    have HB3 := Lib.hid ((hk2.trans k3).blk HB1.out id)
    clear hk2 k3 x0 x1 x2 x3 x4 x5
    go_wp2_with fail
    refine (HDEC.out _).mono ?_
    rintro e w4 ⟨rfl, hk4⟩
    have HK4 := Lib.hid (HK3.out.trans (hk4.alloc (.cells #[.int .i64 sg, .int .i64 sc, .int .u64 ge, .int .u64 re, .int .u64 rs, .int .u64 fl] 71)))
    have HBZ4 := Lib.hid ((hk4.alloc (.cells #[.int .i64 sg, .int .i64 sc, .int .u64 ge, .int .u64 re, .int .u64 rs, .int .u64 fl] 71)).blk HBZ.out id)
    have HB4 := Lib.hid ((hk4.alloc (.cells #[.int .i64 sg, .int .i64 sc, .int .u64 ge, .int .u64 re, .int .u64 rs, .int .u64 fl] 71)).blk HB3.out id)
    have HQ4 := Lib.hid (Blk.new w4 71 [.int .i64 sg, .int .i64 sc, .int .u64 ge, .int .u64 re, .int .u64 rs, .int .u64 fl])
    have HLT : Hid (w2.heap.size < w4.heap.size) := Lib.hid (Nat.lt_of_lt_of_le hl3 hk4.size)
    clear hk4 r1 r2 r3 hl3
    go_upto_region 8 with fail
    obtain ⟨k, hk, hk512⟩ : ∃ k : Nat, (if at' < 0 then 0 else at') % 512 = (k : Int) ∧ k < 512 := ⟨((if at' < 0 then 0 else at') % 512).toNat, by split <;> omega, by split <;> omega⟩
    rw [hk]
    obtain ⟨m, hm⟩ : ∃ m, m = (if at' < 0 then 0 else at') := ⟨_, rfl⟩
    rw [← hm]
    rw [← hm] at hk
    clear hm
    have hk8 : k / 8 < 64 := by omega
    have e1 : (k : Int).tdiv 8 = ((k / 8 : Nat) : Int) := by rw [Int.tdiv_eq_ediv_of_nonneg (by omega)]; omega
    have e2 : (k : Int).tmod 8 = ((k % 8 : Nat) : Int) := by rw [Int.tmod_eq_emod_of_nonneg (by omega)]; omega
    obtain ⟨q, hq⟩ : ∃ q, q = k / 8 := ⟨_, rfl⟩
    obtain ⟨r, hr⟩ : ∃ r, r = k % 8 := ⟨_, rfl⟩
    rw [← hq] at e1 hk8
    rw [← hr] at e2
    have hr8 : r < 8 := by omega
    have c0 := HBZ4.out.cell (i := q) (bk_at (by omega))
    have f0 := HBZ4.out.free q
    clear hk hq hr
    go_region
    have e3 : Z[q] = Z.getD q 0 := by rw [List.getD_eq_getElem?_getD, List.getElem?_eq_getElem (by omega)]; rfl
    rw [e3]
    have hbt : Blk ((w4.alloc (.cells #[.int .i64 sg, .int .i64 sc, .int .u64 ge, .int .u64 re, .int .u64 rs, .int .u64 fl] 71)).setCell ⟨w2.heap.size, q, none⟩ (.int .u8 (bits .xor .u8 (Z.getD q 0) (2 ^ r % 256)))).drew w2.heap.size 27 (bk (turned Z q r)) := by
      have := (HBZ4.out.store q (.int .u8 (bits .xor .u8 (Z.getD q 0) (2 ^ r % 256)))).drew
      rwa [show (bk Z).set q (.int .u8 (bits .xor .u8 (Z.getD q 0) (2 ^ r % 256))) = bk (turned Z q r) from by simp [bk, turned, List.map_set]] at this
    have kbt : Keeps (fun k => k = w2.heap.size) (w4.alloc (.cells #[.int .i64 sg, .int .i64 sc, .int .u64 ge, .int .u64 re, .int .u64 rs, .int .u64 fl] 71)) ((w4.alloc (.cells #[.int .i64 sg, .int .i64 sc, .int .u64 ge, .int .u64 re, .int .u64 rs, .int .u64 fl] 71)).setCell ⟨w2.heap.size, q, none⟩ (.int .u8 (bits .xor .u8 (Z.getD q 0) (2 ^ r % 256)))).drew := ((Keeps.refl (fun k => k = w2.heap.size) _).store (p := ⟨w2.heap.size, q, none⟩) (.inl rfl) _).drew
    obtain ⟨W8, hW8⟩ : ∃ W8, W8 = ((w4.alloc (.cells #[.int .i64 sg, .int .i64 sc, .int .u64 ge, .int .u64 re, .int .u64 rs, .int .u64 fl] 71)).setCell ⟨w2.heap.size, q, none⟩ (.int .u8 (bits .xor .u8 (Z.getD q 0) (2 ^ r % 256)))).drew := ⟨_, rfl⟩
    rw [← hW8] at hbt kbt ⊢
    obtain ⟨T, hT⟩ : ∃ T, T = turned Z q r := ⟨_, rfl⟩
    have hTl : T.length = 64 := by rw [hT, turned_len]; exact hZl
    have hTB : ∀ z ∈ T, Byte z := by rw [hT]; exact turned_byte HZB.out q r
    have htd := HTD.out q r hk8 hr8
    rw [← hT] at htd hbt
    have HDT : Hid (∀ W, Calls Try.prog 45 #[.agg (bk T).toArray] W (DecP T W)) := Lib.hid (fun W => decode_any T hTl hTB W)
    unfold DecP SX.val SX.cells at HDT
    obtain ⟨d, hd⟩ : ∃ d, d = dec T := ⟨_, rfl⟩
    rw [← hd] at htd HDT
    obtain ⟨y, u, ok⟩ := d
    obtain ⟨yg, yc, ye, yr, ys, yl⟩ := y
    have HKT : Hid (Keeps (fun _ => False) w W8) := Lib.hid (((HK4.out.mono (S' := fun k => k = w2.heap.size) fun _ _ h => h.elim).trans kbt).mono fun k hk e => by have := HNE.out; have e : k = w2.heap.size := e; omega)
    have HX8 := Lib.hid (kbt.blk HB4.out (fun e => by have := HNE.out; have e : w.heap.size = w2.heap.size := e; omega))
    have HQ8 := Lib.hid (kbt.blk HQ4.out (fun e => by have := HLT.out; have e : w4.heap.size = w2.heap.size := e; omega))
    have hTT : (bk T).length = 64 := by rw [bk_len, hTl]
    obtain ⟨r1, r2, r3⟩ := blkRow hbt (n := 64) hTT
    have heq0 : ∀ W, (Op.equalIn 10000 71 (.agg #[.int .i64 sg, .int .i64 sc, .int .u64 ge, .int .u64 re, .int .u64 rs, .int .u64 fl]) (.agg #[.int .i64 sg, .int .i64 sc, .int .u64 ge, .int .u64 re, .int .u64 rs, .int .u64 fl])).run Try.prog W = .ok true W := fun W => by rw [eq71]; simp
    have HTDC := Lib.hid htd
    clear hbt kbt hW8 hT hTl hTB htd hd e1 e2 e3 c0 f0 hk8 hk512 hr8
    rcases HTDC.out with ⟨h1, h2⟩ | ⟨h1, h2⟩
    · unfold SX.zero at h2
      injection h2 with g0 g1 g2 g3 g4 g5
      simp only at h1
      subst h1 g0 g1 g2 g3 g4 g5
      simp only [Bool.false_eq_true, if_false] at HDT
      have heq1 : ∀ W, (Op.equalIn 10000 71 (.agg #[.int .i64 0, .int .i64 0, .int .u64 0, .int .u64 0, .int .u64 0, .int .u64 0]) (.agg #[.int .i64 0, .int .i64 0, .int .u64 0, .int .u64 0, .int .u64 0, .int .u64 0])).run Try.prog W = .ok true W := fun W => by rw [eq71]; simp
      go_wp2_with fail
      refine (HDT.out _).mono ?_
      rintro e w9 ⟨rfl, hk9⟩
      have kx9 := hk9.alloc (.cells #[.int .i64 0, .int .i64 0, .int .u64 0, .int .u64 0, .int .u64 0, .int .u64 0] 71)
      have hx9 := kx9.blk HX8.out id
      have hq9 := kx9.blk HQ8.out id
      have hp9 := Blk.new w9 71 [.int .i64 0, .int .i64 0, .int .u64 0, .int .u64 0, .int .u64 0, .int .u64 0]
      have x0 := hx9.cell (i := 0) rfl
      have x1 := hx9.cell (i := 1) rfl
      have x2 := hx9.cell (i := 2) rfl
      have x3 := hx9.cell (i := 3) rfl
      have x4 := hx9.cell (i := 4) rfl
      have x5 := hx9.cell (i := 5) rfl
      have y0 := hq9.cell (i := 0) rfl
      have y1 := hq9.cell (i := 1) rfl
      have y2 := hq9.cell (i := 2) rfl
      have y3 := hq9.cell (i := 3) rfl
      have y4 := hq9.cell (i := 4) rfl
      have y5 := hq9.cell (i := 5) rfl
      have HKF := Lib.hid (HKT.out.trans kx9)
      clear hk9 kx9 hx9 hq9 hp9 r1 r2 r3
      go_wp2_with fail
      go_ret
      exact ⟨rfl, HKF.out⟩
    · simp only at h1
      subst h1
      simp only [if_true] at HDT
      obtain ⟨bb, hbb, heq1⟩ : ∃ bb : Bool, (bb = false ∨ bb = true ∧ u ≠ t) ∧ ∀ W, (Op.equalIn 10000 71 (.agg #[.int .i64 yg, .int .i64 yc, .int .u64 ye, .int .u64 yr, .int .u64 ys, .int .u64 yl]) (.agg #[.int .i64 sg, .int .i64 sc, .int .u64 ge, .int .u64 re, .int .u64 rs, .int .u64 fl])).run Try.prog W = .ok bb W := by
        refine ⟨_, ?_, fun W => eq71 _ _ _ _ _ _ _ _ _ _ _ _ W⟩
        by_cases h : (⟨yg, yc, ye, yr, ys, yl⟩ : SX) = ⟨sg, sc, ge, re, rs, fl⟩
        · exact .inr ⟨decide_eq_true h, fun e => h2 ⟨h, e⟩⟩
        · exact .inl (decide_eq_false h)
      have HBB := Lib.hid hbb
      clear h2 hbb HTDC
      go_wp2_with fail
      refine (HDT.out _).mono ?_
      rintro e w9 ⟨rfl, hk9⟩
      have kx9 := hk9.alloc (.cells #[.int .i64 yg, .int .i64 yc, .int .u64 ye, .int .u64 yr, .int .u64 ys, .int .u64 yl] 71)
      have hx9 := kx9.blk HX8.out id
      have hq9 := kx9.blk HQ8.out id
      have hp9 := Blk.new w9 71 [.int .i64 yg, .int .i64 yc, .int .u64 ye, .int .u64 yr, .int .u64 ys, .int .u64 yl]
      have x0 := hx9.cell (i := 0) rfl
      have x1 := hx9.cell (i := 1) rfl
      have x2 := hx9.cell (i := 2) rfl
      have x3 := hx9.cell (i := 3) rfl
      have x4 := hx9.cell (i := 4) rfl
      have x5 := hx9.cell (i := 5) rfl
      have y0 := hq9.cell (i := 0) rfl
      have y1 := hq9.cell (i := 1) rfl
      have y2 := hq9.cell (i := 2) rfl
      have y3 := hq9.cell (i := 3) rfl
      have y4 := hq9.cell (i := 4) rfl
      have y5 := hq9.cell (i := 5) rfl
      have z0 := hp9.cell (i := 0) rfl
      have z1 := hp9.cell (i := 1) rfl
      have z2 := hp9.cell (i := 2) rfl
      have z3 := hp9.cell (i := 3) rfl
      have z4 := hp9.cell (i := 4) rfl
      have z5 := hp9.cell (i := 5) rfl
      have HKF := Lib.hid (HKT.out.trans kx9)
      clear hk9 kx9 hx9 hq9 hp9 r1 r2 r3
      rcases HBB.out with rfl | ⟨rfl, hut⟩
      · go_wp2_with fail
        go_ret
        exact ⟨rfl, HKF.out⟩
      · have e9 : (u != t) = true := by simpa using hut
        go_wp2_with fail
        go_ret
        exact ⟨rfl, HKF.out⟩
end Go.Proofs.Ytjiammhmeliogaa
