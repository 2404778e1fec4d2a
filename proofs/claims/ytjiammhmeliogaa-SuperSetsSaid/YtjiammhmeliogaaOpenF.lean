/- super: Open. -/
import Derived.Test.YtjiammhmeliogaaSupW
namespace Go.Proofs.Ytjiammhmeliogaa
open Go.RowKit
set_option linter.unusedVariables false
set_option linter.unusedSimpArgs false
attribute [local go_sem ↓] exec_load27 exec_store27 exec_new27 exec_alloc27 exec_build27 zeroValue27
attribute [local go_sem] padr_some rowAt_drew hasRow_drew mayRow_drew run_cells27

def DD.tick (D : DD) : DD := { D with ops := D.ops + 1 }
theorem Alive.tick {D : DD} (h : Alive D) : Alive D.tick := ⟨h.dead, h.armed, h.fails⟩
theorem Alive.read {D : DD} (h : Alive D) (hp : D.p = []) {i : Int} (h0 : 0 ≤ i) (h1 : i < (D.n : Int)) : D.read i = (D.f i.toNat, 0, D.tick) := by
  unfold DD.read
  rw [h.ready h0 h1]
  simp [h.armed, DD.done, DD.tick, DD.holds, hp, setl]
theorem Fine.tick {k : Nat} {D : DD} (h : Fine (k + 1) D) : Fine k D.tick := ⟨h.1, by have := h.2.1; show D.ops + 1 + k < _; omega, by have := h.2.2; show D.p.length + k < _; omega⟩

/-- A store is found. -/
def OpenFP (w0 : World) (R : Nat → Prop) (B : Nat) (D' : DD) (x : SX) (t : Int) (w : World) (e : Ending) (w' : World) : Prop := ∃ S, e = .returned (.tuple #[.pointer (some ⟨S, 0, none⟩), .int .i64 0]) ∧ Dr w0 w' R B D' ∧ Blk w' S 114 (stp x t B) ∧ Keeps (fun k => ¬ R k) w w'
/-- A superblock stored over one. -/
theorem over71 {w : World} {g : Nat} {y : SX} (h : Blk w g 71 y.cells) (z : SX) :
    Blk ((((((w.setCell ⟨g, 0, none⟩ (.int .i64 z.sg)).setCell ⟨g, 1, none⟩ (.int .i64 z.sc)).setCell ⟨g, 2, none⟩ (.int .u64 z.ge)).setCell ⟨g, 3, none⟩ (.int .u64 z.re)).setCell ⟨g, 4, none⟩ (.int .u64 z.rs)).setCell ⟨g, 5, none⟩ (.int .u64 z.fl)) g 71 z.cells ∧
    Keeps (fun k => k = g) w ((((((w.setCell ⟨g, 0, none⟩ (.int .i64 z.sg)).setCell ⟨g, 1, none⟩ (.int .i64 z.sc)).setCell ⟨g, 2, none⟩ (.int .u64 z.ge)).setCell ⟨g, 3, none⟩ (.int .u64 z.re)).setCell ⟨g, 4, none⟩ (.int .u64 z.rs)).setCell ⟨g, 5, none⟩ (.int .u64 z.fl)) :=
  ⟨(((((h.store 0 _).store 1 _).store 2 _).store 3 _).store 4 _).store 5 _,
   ((((((Keeps.refl (fun k => k = g) w).store (p := ⟨g, 0, none⟩) (.inl rfl) _).store (p := ⟨g, 1, none⟩) (.inl rfl) _).store (p := ⟨g, 2, none⟩) (.inl rfl) _).store (p := ⟨g, 3, none⟩) (.inl rfl) _).store (p := ⟨g, 4, none⟩) (.inl rfl) _).store (p := ⟨g, 5, none⟩) (.inl rfl) _⟩
set_option maxRecDepth 100000 in
set_option maxHeartbeats 2000000 in
theorem open_any {w0 w : World} {R : Nat → Prop} {B : Nat} {D : DD} (h : Dr w0 w R B D) (hl : Alive D) (hp : D.p = []) (hn : D.n = 98) {m : Nat} (hf : Fine (m + 2) D) (hb0 : ∀ z ∈ D.f 0, Byte z) (hb1 : ∀ z ∈ D.f 1, Byte z) (x : SX) (t : Int) (ho : openS (D.f 0) (D.f 1) = some (x, t)) (hx : x.may) (hr : 2 + x.sg * x.sc ≤ 98) :
    Calls Try.prog 47 #[.pointer (some ⟨B, 0, none⟩)] w (OpenFP w0 R B D.tick.tick x t w) := by
  have HL : Hid _ := Lib.hid h.len
  rw [hn] at HL
  have hlen := h.fine.2.2
  have e0 := hl.read hp (i := 0) (Int.le_refl 0) (by rw [hn]; decide)
  have e1 := hl.tick.read (D := D.tick) hp (i := 1) (by decide) (by show (1 : Int) < (D.n : Int); rw [hn]; decide)
  obtain ⟨A, hA⟩ : ∃ A, A = D.f 0 := ⟨_, rfl⟩
  obtain ⟨C, hC⟩ : ∃ C, C = D.f 1 := ⟨_, rfl⟩
  have hAl : A.length = 64 := by rw [hA]; exact hlen 0 (by omega)
  have hCl : C.length = 64 := by rw [hC]; exact hlen 1 (by omega)
  have HR0 := Lib.hid (h.read (hf.less (by omega)) 0)
  rw [e0] at HR0
  simp only [Int.toNat_zero] at HR0
  rw [← hA] at HR0 ho hb0
  have HR1 : Hid (∀ W {R : Nat → Prop}, Dr w0 W R B D.tick → Calls Try.prog 27 #[.pointer (some ⟨B, 0, none⟩), .int .i64 1] W (DrR w0 R B D.tick.tick C 0 W)) := Lib.hid (fun W R hd => by
    have := hd.read ((hf.tick).less (by omega)) 1
    rw [e1] at this
    simp only at this
    rw [show D.tick.f (Int.toNat 1) = C from hC.symm] at this
    exact this)
  rw [← hC] at ho hb1
  have HDA : Hid (∀ W, Calls Try.prog 45 #[.agg (bk A).toArray] W (DecP A W)) := Lib.hid (fun W => decode_any A hAl hb0 W)
  have HDC : Hid (∀ W, Calls Try.prog 45 #[.agg (bk C).toArray] W (DecP C W)) := Lib.hid (fun W => decode_any C hCl hb1 W)
  unfold DecP at HDA HDC
  unfold openS at ho
  obtain ⟨da, hda⟩ : ∃ d, d = dec A := ⟨_, rfl⟩
  obtain ⟨dc, hdc⟩ : ∃ d, d = dec C := ⟨_, rfl⟩
  rw [← hda] at HDA ho
  rw [← hdc] at HDC ho
  have HRM : Hid (∀ W, Dr w0 W R B D.tick.tick → Calls Try.prog 69 #[.pointer (some ⟨B, 0, none⟩), x.val] W (BoolP true W)) := Lib.hid (fun W hd => by
    have := hd.room x hx
    rwa [decide_eq_true (show 2 + x.sg * x.sc ≤ ((D.tick.tick).n : Int) from by show 2 + x.sg * x.sc ≤ (D.n : Int); rw [hn]; exact hr)] at this)
  have HD := Lib.hid h
  obtain ⟨y, u, oa⟩ := da
  obtain ⟨z, v, oc⟩ := dc
  obtain ⟨ysg, ysc, yge, yre, yrs, yfl⟩ := y
  obtain ⟨zsg, zsc, zge, zre, zrs, zfl⟩ := z
  obtain ⟨D2, hD2⟩ : ∃ D2, D2 = D.tick.tick := ⟨_, rfl⟩
  rw [← hD2] at HR1 HRM ⊢
  have HFIN : Hid (∀ W, Dr w0 W R B D2 → Keeps (fun k => ¬ R k) w W → OpenFP w0 R B D2 x t w (.returned (.tuple #[.pointer (some ⟨W.heap.size, 0, none⟩), .int .i64 0])) (W.alloc (.cells (stp x t B).toArray 114))) := Lib.hid (fun W hd hk => ⟨_, rfl, hd.quiet ((Keeps.refl _ _).alloc _), Blk.new W 114 _, hk.alloc _⟩)
  have hA64 : (bk A).length = 64 := by rw [bk_len, hAl]
  have hC64 : (bk C).length = 64 := by rw [bk_len, hCl]
  have hz64 : (bk zb).toArray.size = 64 := by simp [bk_len, zb_len]
  have honA : oneAll (bk A).toArray = true := one_bk _
  have honC : oneAll (bk C).toArray = true := one_bk _
  have HHO := Lib.hid ho
  unfold SX.val SX.cells at *
  unfold stp stc DL.ptr at HFIN
  dsimp only at HDA HDC
  obtain ⟨ea, hea⟩ : ∃ ea : Int, ea = if oa = true then 0 else 170 := ⟨_, rfl⟩
  obtain ⟨ec, hec⟩ : ∃ ec : Int, ec = if oc = true then 0 else 170 := ⟨_, rfl⟩
  rw [← hea] at HDA
  rw [← hec] at HDC
  have HEA := Lib.hid hea
  have HEC := Lib.hid hec
  clear hea hec
  clear h hl hp hn hf hb0 hb1 ho hx hr hlen e0 e1 hda hdc hD2 hA hC
  go_enter Try.func47, Try.ntmps47
  go_wp2_with fail
  refine HL.out.mono ?_
  rintro e w1 ⟨rfl, rfl⟩
  have e98 : ((98 : Nat) : Int) = 98 := rfl
  rw [e98]
  clear e98
  go_wp2_with fail
  refine HR0.out.mono ?_
  rintro e w2 ⟨rfl, hd2, hk2⟩
  have HA2 := Lib.hid (Blk.new w2 27 (bk A))
  have HD2 := Lib.hid (hd2.more ((Keeps.refl (fun _ => False) w2).alloc (.cells (bk A).toArray 27)))
  have HK2 := Lib.hid (hk2.alloc (.cells (bk A).toArray 27))
  clear hd2 hk2
  go_wp2_with fail
  refine (HR1.out _ HD2.out).mono ?_
  rintro e w3 ⟨rfl, hd3, hk3⟩
  have HA3 := Lib.hid ((hk3.alloc (.cells (bk C).toArray 27)).blk ((HA2.out)) (fun hn => hn (.inr ⟨Nat.le_refl _, by simp⟩)))
  have HC3 := Lib.hid (Blk.new w3 27 (bk C))
  have HD3 := Lib.hid ((hd3.less (fun k h => .inl h)).quiet ((Keeps.refl (fun _ => False) w3).alloc (.cells (bk C).toArray 27)))
  have HK3 := Lib.hid (HK2.out.trans ((hk3.mono fun k _ hn hr => hn (.inl hr)).alloc (.cells (bk C).toArray 27)))
  have HRL : Hid (∀ k, R k → k < w3.heap.size) := Lib.hid (fun k hr => by
    obtain ⟨_, _, _, _, h3, _⟩ := hd3
    exact (h3 k (.inl hr)).2)
  clear hd3 hk3
  obtain ⟨r1, r2, r3⟩ := blkRow HA3.out (n := 64) hA64
  go_wp2_with fail
  refine (HDA.out _).mono ?_
  rintro e w4 ⟨rfl, hk4⟩
  have ka : Keeps (fun _ => False) (w3.alloc (.cells (bk C).toArray 27)) (w4.alloc (.cells #[.int .i64 ysg, .int .i64 ysc, .int .u64 yge, .int .u64 yre, .int .u64 yrs, .int .u64 yfl] 71)) := hk4.alloc _
  have HY4 := Lib.hid (Blk.new w4 71 [.int .i64 ysg, .int .i64 ysc, .int .u64 yge, .int .u64 yre, .int .u64 yrs, .int .u64 yfl])
  have HD4 := Lib.hid (HD3.out.more ka)
  have HK4 := Lib.hid (HK3.out.trans (ka.mono (S' := fun k => ¬ R k) fun _ _ h => h.elim))
  have HC4 := Lib.hid (ka.blk HC3.out id)
  have hk4s := hk4.size
  clear hk4 ka r1 r2 r3
  obtain ⟨r1, r2, r3⟩ := blkRow HC4.out (n := 64) hC64
  go_wp2_with fail
  refine (HDC.out _).mono ?_
  rintro e w5 ⟨rfl, hk5⟩
  have ka : Keeps (fun _ => False) (w4.alloc (.cells #[.int .i64 ysg, .int .i64 ysc, .int .u64 yge, .int .u64 yre, .int .u64 yrs, .int .u64 yfl] 71)) (w5.alloc (.cells #[.int .i64 zsg, .int .i64 zsc, .int .u64 zge, .int .u64 zre, .int .u64 zrs, .int .u64 zfl] 71)) := hk5.alloc _
  have HZ5 := Lib.hid (Blk.new w5 71 [.int .i64 zsg, .int .i64 zsc, .int .u64 zge, .int .u64 zre, .int .u64 zrs, .int .u64 zfl])
  have HY5 := Lib.hid (ka.blk HY4.out id)
  have HD5 := Lib.hid (HD4.out.quiet ka)
  have HK5 := Lib.hid (HK4.out.trans (ka.mono (S' := fun k => ¬ R k) fun _ _ h => h.elim))
  have HG4 : Hid ((w3.alloc (.cells (bk C).toArray 27)).heap.size ≤ w4.heap.size) := Lib.hid hk4s
  have HNE : Hid (w4.heap.size < w5.heap.size) := Lib.hid (by
    have h1 := HY4.out.lt
    have h2 := hk5.size
    omega)
  clear hk4s hk5 ka r1 r2 r3 HR0 HR1 HDA HDC HA2 HA3 HC3 HC4 HL HD HD2 HD3 HD4
  have y0 := HY5.out.cell (i := 0) rfl
  have y1 := HY5.out.cell (i := 1) rfl
  have y2 := HY5.out.cell (i := 2) rfl
  have y3 := HY5.out.cell (i := 3) rfl
  have y4 := HY5.out.cell (i := 4) rfl
  have y5 := HY5.out.cell (i := 5) rfl
  have f0 := HY5.out.free 0
  have f1 := HY5.out.free 1
  have f2 := HY5.out.free 2
  have f3 := HY5.out.free 3
  have f4 := HY5.out.free 4
  have f5 := HY5.out.free 5
  have z0 := HZ5.out.cell (i := 0) rfl
  have z1 := HZ5.out.cell (i := 1) rfl
  have z2 := HZ5.out.cell (i := 2) rfl
  have z3 := HZ5.out.cell (i := 3) rfl
  have z4 := HZ5.out.cell (i := 4) rfl
  have z5 := HZ5.out.cell (i := 5) rfl
  have HFK : Hid (∀ W', Keeps (fun k => k = w4.heap.size) (w5.alloc (.cells #[.int .i64 zsg, .int .i64 zsc, .int .u64 zge, .int .u64 zre, .int .u64 zrs, .int .u64 zfl] 71)) W' → Keeps (fun k => ¬ R k) (w5.alloc (.cells #[.int .i64 zsg, .int .i64 zsc, .int .u64 zge, .int .u64 zre, .int .u64 zrs, .int .u64 zfl] 71)) W') := Lib.hid (fun W' hk => hk.mono fun k _ e hr => by
    have := HRL.out k hr
    have := HG4.out
    rw [World.size_alloc] at this
    have e : k = w4.heap.size := e
    omega)
  rcases oa with _ | _ <;> rcases oc with _ | _
  · exact absurd HHO.out (by simp)
  · obtain rfl : ea = 170 := HEA.out
    obtain rfl : ec = 0 := HEC.out
    have hh := HHO.out
    simp at hh
    obtain ⟨rfl, rfl⟩ := hh
    dsimp only at HRM HFIN
    go_upto_region 17 with fail
    obtain ⟨fb, fk⟩ := over71 (y := ⟨ysg, ysc, yge, yre, yrs, yfl⟩) HY5.out ⟨zsg, zsc, zge, zre, zrs, zfl⟩
    dsimp only at fb fk
    obtain ⟨W6, hW6⟩ : ∃ W6, W6 = (((((((w5.alloc (.cells #[.int .i64 zsg, .int .i64 zsc, .int .u64 zge, .int .u64 zre, .int .u64 zrs, .int .u64 zfl] 71)).setCell ⟨w4.heap.size, 0, none⟩ (.int .i64 zsg)).setCell ⟨w4.heap.size, 1, none⟩ (.int .i64 zsc)).setCell ⟨w4.heap.size, 2, none⟩ (.int .u64 zge)).setCell ⟨w4.heap.size, 3, none⟩ (.int .u64 zre)).setCell ⟨w4.heap.size, 4, none⟩ (.int .u64 zrs)).setCell ⟨w4.heap.size, 5, none⟩ (.int .u64 zfl)) := ⟨_, rfl⟩
    rw [← hW6] at fb fk ⊢
    have HD6 := Lib.hid (HD5.out.turn (fk.mono fun k _ e => .inr ⟨by rw [show k = w4.heap.size from e]; exact HG4.out, by rw [show k = w4.heap.size from e]; exact HY4.out.lt⟩))
    have HK6 := Lib.hid (HK5.out.trans (HFK.out _ fk))
    have HF6 := Lib.hid fb
    have g0 := fb.cell (i := 0) rfl
    have g1 := fb.cell (i := 1) rfl
    have g2 := fb.cell (i := 2) rfl
    have g3 := fb.cell (i := 3) rfl
    have g4 := fb.cell (i := 4) rfl
    have g5 := fb.cell (i := 5) rfl
    clear fb fk hW6 y0 y1 y2 y3 y4 y5 f0 f1 f2 f3 f4 f5 z0 z1 z2 z3 z4 z5
    go_wp2_with fail
    refine (HRM.out _ (HD6.out.less fun k h => .inl h)).mono ?_
    rintro e w7 ⟨rfl, hk7⟩
    have HD7 := Lib.hid (HD6.out.quiet hk7)
    have HK7 := Lib.hid (HK6.out.trans (hk7.mono (S' := fun k => ¬ R k) fun _ _ h => h.elim))
    have hy := hk7.blk HF6.out id
    clear g0 g1 g2 g3 g4 g5
    have y0 := hy.cell (i := 0) rfl
    have y1 := hy.cell (i := 1) rfl
    have y2 := hy.cell (i := 2) rfl
    have y3 := hy.cell (i := 3) rfl
    have y4 := hy.cell (i := 4) rfl
    have y5 := hy.cell (i := 5) rfl
    clear hk7 hy
    go_wp2_with fail
    refine bodyPost_ret (v := .tuple #[.pointer (some ⟨w7.heap.size, 0, none⟩), .int .i64 0]) (by simp [results, Try.f47, go_sem]) rfl (HFIN.out _ (HD7.out.less fun k h => .inl h) HK7.out)
  · obtain rfl : ea = 0 := HEA.out
    obtain rfl : ec = 170 := HEC.out
    have hh := HHO.out
    simp at hh
    obtain ⟨rfl, rfl⟩ := hh
    dsimp only at HRM HFIN
    go_wp2_with fail
    refine (HRM.out _ (HD5.out.less fun k h => .inl h)).mono ?_
    rintro e w6 ⟨rfl, hk6⟩
    have HD6 := Lib.hid (HD5.out.quiet hk6)
    have HK6 := Lib.hid (HK5.out.trans (hk6.mono (S' := fun k => ¬ R k) fun _ _ h => h.elim))
    have hy := hk6.blk HY5.out id
    clear y0 y1 y2 y3 y4 y5 f0 f1 f2 f3 f4 f5 z0 z1 z2 z3 z4 z5
    have y0 := hy.cell (i := 0) rfl
    have y1 := hy.cell (i := 1) rfl
    have y2 := hy.cell (i := 2) rfl
    have y3 := hy.cell (i := 3) rfl
    have y4 := hy.cell (i := 4) rfl
    have y5 := hy.cell (i := 5) rfl
    clear hk6 hy
    go_wp2_with fail
    refine bodyPost_ret (v := .tuple #[.pointer (some ⟨w6.heap.size, 0, none⟩), .int .i64 0]) (by simp [results, Try.f47, go_sem]) rfl (HFIN.out _ (HD6.out.less fun k h => .inl h) HK6.out)
  · obtain rfl : ea = 0 := HEA.out
    obtain rfl : ec = 0 := HEC.out
    have hh := HHO.out
    by_cases huv : u < v
    · simp [huv] at hh
      obtain ⟨rfl, rfl⟩ := hh
      dsimp only at HRM HFIN
      go_upto_region 17 with fail
      obtain ⟨fb, fk⟩ := over71 (y := ⟨ysg, ysc, yge, yre, yrs, yfl⟩) HY5.out ⟨zsg, zsc, zge, zre, zrs, zfl⟩
      dsimp only at fb fk
      obtain ⟨W6, hW6⟩ : ∃ W6, W6 = (((((((w5.alloc (.cells #[.int .i64 zsg, .int .i64 zsc, .int .u64 zge, .int .u64 zre, .int .u64 zrs, .int .u64 zfl] 71)).setCell ⟨w4.heap.size, 0, none⟩ (.int .i64 zsg)).setCell ⟨w4.heap.size, 1, none⟩ (.int .i64 zsc)).setCell ⟨w4.heap.size, 2, none⟩ (.int .u64 zge)).setCell ⟨w4.heap.size, 3, none⟩ (.int .u64 zre)).setCell ⟨w4.heap.size, 4, none⟩ (.int .u64 zrs)).setCell ⟨w4.heap.size, 5, none⟩ (.int .u64 zfl)) := ⟨_, rfl⟩
      rw [← hW6] at fb fk ⊢
      have HD6 := Lib.hid (HD5.out.turn (fk.mono fun k _ e => .inr ⟨by rw [show k = w4.heap.size from e]; exact HG4.out, by rw [show k = w4.heap.size from e]; exact HY4.out.lt⟩))
      have HK6 := Lib.hid (HK5.out.trans (HFK.out _ fk))
      have HF6 := Lib.hid fb
      have g0 := fb.cell (i := 0) rfl
      have g1 := fb.cell (i := 1) rfl
      have g2 := fb.cell (i := 2) rfl
      have g3 := fb.cell (i := 3) rfl
      have g4 := fb.cell (i := 4) rfl
      have g5 := fb.cell (i := 5) rfl
      clear fb fk hW6 y0 y1 y2 y3 y4 y5 f0 f1 f2 f3 f4 f5 z0 z1 z2 z3 z4 z5
      go_wp2_with fail
      refine (HRM.out _ (HD6.out.less fun k h => .inl h)).mono ?_
      rintro e w7 ⟨rfl, hk7⟩
      have HD7 := Lib.hid (HD6.out.quiet hk7)
      have HK7 := Lib.hid (HK6.out.trans (hk7.mono (S' := fun k => ¬ R k) fun _ _ h => h.elim))
      have hy := hk7.blk HF6.out id
      clear g0 g1 g2 g3 g4 g5
      have y0 := hy.cell (i := 0) rfl
      have y1 := hy.cell (i := 1) rfl
      have y2 := hy.cell (i := 2) rfl
      have y3 := hy.cell (i := 3) rfl
      have y4 := hy.cell (i := 4) rfl
      have y5 := hy.cell (i := 5) rfl
      clear hk7 hy
      go_wp2_with fail
      refine bodyPost_ret (v := .tuple #[.pointer (some ⟨w7.heap.size, 0, none⟩), .int .i64 0]) (by simp [results, Try.f47, go_sem]) rfl (HFIN.out _ (HD7.out.less fun k h => .inl h) HK7.out)
    · simp [huv] at hh
      obtain ⟨rfl, rfl⟩ := hh
      dsimp only at HRM HFIN
      go_wp2_with fail
      refine (HRM.out _ (HD5.out.less fun k h => .inl h)).mono ?_
      rintro e w6 ⟨rfl, hk6⟩
      have HD6 := Lib.hid (HD5.out.quiet hk6)
      have HK6 := Lib.hid (HK5.out.trans (hk6.mono (S' := fun k => ¬ R k) fun _ _ h => h.elim))
      have hy := hk6.blk HY5.out id
      clear y0 y1 y2 y3 y4 y5 f0 f1 f2 f3 f4 f5 z0 z1 z2 z3 z4 z5
      have y0 := hy.cell (i := 0) rfl
      have y1 := hy.cell (i := 1) rfl
      have y2 := hy.cell (i := 2) rfl
      have y3 := hy.cell (i := 3) rfl
      have y4 := hy.cell (i := 4) rfl
      have y5 := hy.cell (i := 5) rfl
      clear hk6 hy
      go_wp2_with fail
      refine bodyPost_ret (v := .tuple #[.pointer (some ⟨w6.heap.size, 0, none⟩), .int .i64 0]) (by simp [results, Try.f47, go_sem]) rfl (HFIN.out _ (HD6.out.less fun k h => .inl h) HK6.out)
end Go.Proofs.Ytjiammhmeliogaa
