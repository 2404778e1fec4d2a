/- SuperCuts, walked. -/
import Derived.Test.YtjiammhmeliogaaCutP
import Derived.Test.YtjiammhmeliogaaAppB
import Derived.BigQuiet
import Derived.Deep.Quiet
namespace Go.Proofs.Ytjiammhmeliogaa
open Go.RowKit
set_option linter.unusedVariables false
set_option linter.unusedSimpArgs false
/-- Are these the same? -/
def eqX (a b : SX) : Bool := decide (a = b)
theorem eqX_self (a : SX) : eqX a a = true := by unfold eqX; simp
theorem eqX_ne {a b : SX} (h : a ≠ b) : eqX a b = false := by unfold eqX; simpa using h
theorem eq71x (a b c d e f a' b' c' d' e' f' : Int) (w : World) : (Op.equalIn 10000 71 (.agg #[.int .i64 a, .int .i64 b, .int .u64 c, .int .u64 d, .int .u64 e, .int .u64 f]) (.agg #[.int .i64 a', .int .i64 b', .int .u64 c', .int .u64 d', .int .u64 e', .int .u64 f'])).run Try.prog w =
    .ok (eqX ⟨a, b, c, d, e, f⟩ ⟨a', b', c', d', e', f'⟩) w := eq71 a b c d e f a' b' c' d' e' f' w
attribute [local go_sem ↓] empty30
/-- A region that draws its order, all of it quiet but for new blocks: one walk serves every order. -/
theorem wp_region_keeps {P : Program} {id : Nat} {Q : Exit → Act → World → Prop} {a : Act} {w : World} {l : List Oper} (w0 : World) (hm : P.follows .mixedOrders = true) (hB : Region.lexB .any l.toArray = true) (hw : Keeps (fun _ => False) w0 w)
    (h : wpQuiet P l.toArray (fun W => Keeps (fun _ => False) w0 W) (fun a' => ∀ w', Keeps (fun _ => False) w0 w' → Q .normal a' w') l a) : (Code.region id l.toArray true).wp P Q a w :=
  wp_region_quiet (C := fun W => Keeps (fun _ => False) w0 W) hm hB (hw.trans (Keeps.refl _ w).drew) (by simpa using h)
attribute [local go_sem] Oper.quietAt Oper.quietUpon
/-- The six cells of a superblock. -/
def SixAt (W : World) (b : Nat) (x : SX) : Prop := W.cell? ⟨b, 0, none⟩ = some (.int .i64 x.sg) ∧ W.cell? ⟨b, 1, none⟩ = some (.int .i64 x.sc) ∧ W.cell? ⟨b, 2, none⟩ = some (.int .u64 x.ge) ∧ W.cell? ⟨b, 3, none⟩ = some (.int .u64 x.re) ∧ W.cell? ⟨b, 4, none⟩ = some (.int .u64 x.rs) ∧ W.cell? ⟨b, 5, none⟩ = some (.int .u64 x.fl)
theorem six_of {W : World} {b : Nat} {x : SX} (h : Blk W b 71 x.cells) : SixAt W b x := ⟨h.cell (i := 0) rfl, h.cell (i := 1) rfl, h.cell (i := 2) rfl, h.cell (i := 3) rfl, h.cell (i := 4) rfl, h.cell (i := 5) rfl⟩

/-- An older beginning: what lies between is reserved. -/
theorem Dr.back {w w0 W : World} {R : Nat → Prop} {B : Nat} {D : DD} (h : Dr w0 W R B D) (hk : Keeps (fun _ => False) w w0) : Dr w W (fun k => R k ∨ (w.heap.size ≤ k ∧ k < w0.heap.size)) B D := by
  obtain ⟨L, e, h1, h2, h3, h4⟩ := h
  refine ⟨L, e, h1, fun k ho => ⟨Nat.le_trans hk.size (h2 k ho).1, fun hr => hr.elim (h2 k ho).2 fun hr => ?_⟩, fun k hr => hr.elim (fun hr => ⟨Nat.le_trans hk.size (h3 k hr).1, (h3 k hr).2⟩) fun hr => ⟨hr.1, Nat.lt_of_lt_of_le hr.2 h4.size⟩, hk.trans h4⟩
  have := (h2 k ho).1
  omega
theorem cuts_start (w : World) (x y : SX) (a f : Int) (s : Value) : Blk (((w.alloc (.cells x.cells.toArray 71)).alloc (.cells y.cells.toArray 71)).alloc (.cells #[.int .i64 a, .int .i64 f, s] 89)) w.heap.size 71 x.cells ∧ Blk (((w.alloc (.cells x.cells.toArray 71)).alloc (.cells y.cells.toArray 71)).alloc (.cells #[.int .i64 a, .int .i64 f, s] 89)) (w.heap.size + 1) 71 y.cells ∧
    Blk (((w.alloc (.cells x.cells.toArray 71)).alloc (.cells y.cells.toArray 71)).alloc (.cells #[.int .i64 a, .int .i64 f, s] 89)) (w.heap.size + 2) 89 [.int .i64 a, .int .i64 f, s] ∧ Keeps (fun _ => False) w (((w.alloc (.cells x.cells.toArray 71)).alloc (.cells y.cells.toArray 71)).alloc (.cells #[.int .i64 a, .int .i64 f, s] 89)) := by
  refine ⟨((Blk.new w 71 x.cells).alloc _).alloc _, ?_, ?_, (((Keeps.refl _ w).alloc _).alloc _).alloc _⟩
  · have := Blk.new (w.alloc (.cells x.cells.toArray 71)) 71 y.cells
    rw [World.size_alloc] at this
    exact this.alloc _
  · have := Blk.new ((w.alloc (.cells x.cells.toArray 71)).alloc (.cells y.cells.toArray 71)) 89 [.int .i64 a, .int .i64 f, s]
    rwa [World.size_alloc, World.size_alloc] at this
theorem cuts_four {w : World} {g h : Nat} {x y : SX} (h0 : Blk w g 71 x.cells) (h1 : Blk w h 71 y.cells) (hgh : g ≠ h) :
    Blk ((((w.setCell ⟨g, 0, none⟩ (.int .i64 4)).setCell ⟨g, 1, none⟩ (.int .i64 24)).setCell ⟨h, 0, none⟩ (.int .i64 4)).setCell ⟨h, 1, none⟩ (.int .i64 24)) g 71 (four x).cells ∧
    Blk ((((w.setCell ⟨g, 0, none⟩ (.int .i64 4)).setCell ⟨g, 1, none⟩ (.int .i64 24)).setCell ⟨h, 0, none⟩ (.int .i64 4)).setCell ⟨h, 1, none⟩ (.int .i64 24)) h 71 (four y).cells ∧
    Keeps (fun k => k = g ∨ k = h) w ((((w.setCell ⟨g, 0, none⟩ (.int .i64 4)).setCell ⟨g, 1, none⟩ (.int .i64 24)).setCell ⟨h, 0, none⟩ (.int .i64 4)).setCell ⟨h, 1, none⟩ (.int .i64 24)) := by
  refine ⟨(((h0.store 0 _).store 1 _).other (p := ⟨h, 0, none⟩) hgh _).other (p := ⟨h, 1, none⟩) hgh _, (((h1.other (p := ⟨g, 0, none⟩) (Ne.symm hgh) _).other (p := ⟨g, 1, none⟩) (Ne.symm hgh) _).store 0 _).store 1 _, ?_⟩
  exact ((((Keeps.refl (fun k => k = g ∨ k = h) w).store (p := ⟨g, 0, none⟩) (.inl (.inl rfl)) _).store (p := ⟨g, 1, none⟩) (.inl (.inl rfl)) _).store (p := ⟨h, 0, none⟩) (.inl (.inr rfl)) _).store (p := ⟨h, 1, none⟩) (.inl (.inr rfl)) _

/-- Up to the setting that is cut. -/
def CutR (w : World) (R : Nat → Prop) (B : Nat) (k : SX) (t : Int) (w7 wx : World) : Prop := ∃ D, Dr w wx R B D ∧ Kn D k t ∧ Fine 700 D ∧ Keeps (fun k => ¬ R k) w7 wx
theorem wf_mod {a : Int} (h0 : 0 ≤ a) (h1 : a < 10) : (Lit.int .i64 a).wf = true := by
  simp [Lit.wf, IntKind.min, IntKind.max, IntKind.signed, IntKind.bits]
  omega
set_option maxRecDepth 100000 in
set_option maxHeartbeats 4000000 in
theorem scuts_law (x : SX) (hx : x.Wf) (y : SX) (hy : y.Wf) (at' fl : Int) (hfl : (Lit.int .i64 fl).wf = true) (ka : Option Addr) (kn kc : Nat) (ks : List Bool) (w : World) (hr : BoolRow w ka kn ks) (hn : kn ≤ 140737488351232) (hnil : ka = none → kc = 0) :
    Calls Try.prog 14 #[x.val, y.val, .agg #[.int .i64 at', .int .i64 fl, .slice ka kn kc]] w fun e w' => e = .returned (.bool true) ∧ Keeps (fun _ => False) w w' := by
  obtain ⟨b0, b1, b2, hk0⟩ := cuts_start w x y at' fl (.slice ka kn kc)
  obtain ⟨W0, hW0⟩ : ∃ W0, W0 = ((w.alloc (.cells x.cells.toArray 71)).alloc (.cells y.cells.toArray 71)).alloc (.cells #[.int .i64 at', .int .i64 fl, .slice ka kn kc] 89) := ⟨_, rfl⟩
  rw [← hW0] at b0 b1 b2 hk0
  have HW0 := Lib.hid hW0
  have HB0 := Lib.hid b0
  have HB1 := Lib.hid b1
  have HB2 := Lib.hid b2
  have HK0 := Lib.hid hk0
  have HX := Lib.hid hx
  have HY := Lib.hid hy
  have HR := Lib.hid hr
  have HFL := Lib.hid hfl
  have HN := Lib.hid hn
  have HNIL := Lib.hid hnil
  have hw0 : w.heap.size + 2 < W0.heap.size := b2.lt
  clear hW0 b0 b1 b2 hk0 hx hy hr hn hnil hfl
  obtain ⟨xsg, xsc, xge, xre, xrs, xfl⟩ := x
  obtain ⟨ysg, ysc, yge, yre, yrs, yfl⟩ := y
  unfold SX.val SX.cells at *
  dsimp only at HW0 HB0 HB1
  go_enter Try.func14, Try.ntmps14
  go_upto_region 1 with fail
  rw [← HW0.out]
  go_wp2_with fail
  refine (swakes_any _).mono ?_
  rintro e w1 ⟨rfl, hk1⟩
  have HK1 := Lib.hid hk1
  clear hk1
  go_wp2_with fail
  refine (new_dr 98 (by omega) (by omega) _).mono ?_
  rintro e w2 ⟨B, rfl, hd2⟩
  have HD2 := Lib.hid ((hd2.back (HK0.out.trans HK1.out)).less (R' := fun k => w.heap.size ≤ k ∧ k < w1.heap.size) (fun k h => .inr h))
  have HK2 := Lib.hid (HK1.out.trans hd2.keep)
  have HF := Lib.hid (format_ok HD2.out 4 24 first4_may (by decide))
  clear hd2
  go_wp2_with fail
  refine HF.out.mono ?_
  rintro e w3 ⟨S, rfl, hd3, hs3, hk3⟩
  have hw1 := HK1.out.size
  have c0 := hk3.blk (HK2.out.blk HB0.out id) (fun h => h ⟨Nat.le_refl _, by omega⟩)
  have c1 := hk3.blk (HK2.out.blk HB1.out id) (fun h => h ⟨by omega, by omega⟩)
  have c2 := hk3.blk (HK2.out.blk HB2.out id) (fun h => h ⟨by omega, by omega⟩)
  have hS0 : w.heap.size ≠ S := c0.ne hs3 (by decide)
  have hS1 : w.heap.size + 1 ≠ S := c1.ne hs3 (by decide)
  have HC := Lib.hid (cuts_four (x := ⟨xsg, xsc, xge, xre, xrs, xfl⟩) (y := ⟨ysg, ysc, yge, yre, yrs, yfl⟩) c0 c1 (by omega))
  have f0 := c0.free 0
  have f1 := c0.free 1
  have f2 := c1.free 0
  have f3 := c1.free 1
  have x0 := c0.cell (i := 0) rfl
  have x1 := c0.cell (i := 1) rfl
  have y0 := c1.cell (i := 0) rfl
  have y1 := c1.cell (i := 1) rfl
  have HC2 := Lib.hid c2
  have HS3 := Lib.hid hs3
  have HD3 := Lib.hid hd3
  clear hd3 hs3 hk3 c0 c1 c2 HF
  go_upto_region 10 with fail
  obtain ⟨W4, hW4⟩ : ∃ W4, W4 = ((((w3.setCell ⟨w.heap.size, 0, none⟩ (.int .i64 4)).setCell ⟨w.heap.size, 1, none⟩ (.int .i64 24)).setCell ⟨w.heap.size + 1, 0, none⟩ (.int .i64 4)).setCell ⟨w.heap.size + 1, 1, none⟩ (.int .i64 24)) := ⟨_, rfl⟩
  rw [← hW4]
  have hc := HC.out
  rw [← hW4] at hc
  obtain ⟨c0, c1, k4⟩ := hc
  obtain ⟨R, hR⟩ : ∃ R : Nat → Prop, R = fun k => (w.heap.size ≤ k ∧ k < w1.heap.size) ∨ k = S := ⟨_, rfl⟩
  have hRS : R S := by rw [hR]; exact .inr rfl
  have hR0 : R w.heap.size := by rw [hR]; exact .inl ⟨Nat.le_refl _, by omega⟩
  have hR1 : R (w.heap.size + 1) := by rw [hR]; exact .inl ⟨by omega, by omega⟩
  have hR2 : R (w.heap.size + 2) := by rw [hR]; exact .inl ⟨by omega, by omega⟩
  have hd3 := HD3.out
  rw [← hR] at hd3
  have HD4 := Lib.hid (hd3.turn (k4.mono fun k _ e => by rcases e with rfl | rfl <;> assumption))
  have HS4 := Lib.hid (k4.blk HS3.out (by rintro (e | e) <;> omega))
  have HT4 := Lib.hid (k4.blk HC2.out (by rintro (e | e) <;> omega))
  have HX4 := Lib.hid c0
  have HY4 := Lib.hid c1
  have HRR := Lib.hid (And.intro hRS (And.intro hR0 (And.intro hR1 hR2)))
  have HST := Lib.hid (set_any (m := 800) HD4.out hRS (SX.first 4 24) 0 HS4.out (first_wf 4 24) (Int.le_refl 0) (by decide) ((fmt_fine 98 4 24).less (by omega)) (four ⟨xsg, xsc, xge, xre, xrs, xfl⟩) (four_wf HX.out))
  obtain ⟨r, hr⟩ : ∃ r, r = setS (fmtD 98 4 24) (SX.first 4 24) 0 (four ⟨xsg, xsc, xge, xre, xrs, xfl⟩) := ⟨_, rfl⟩
  rw [← hr] at HST
  have HKN := Lib.hid (was_kn HX.out hr)
  obtain ⟨ec, D1, k, t⟩ := r
  obtain ⟨ksg, ksc, kge, kre, krs, kfl⟩ := k
  unfold SetP at HST
  unfold four SX.val at HST
  unfold four SX.cells at HX4 HY4
  dsimp only at HST HX4 HY4 HKN
  have hx4 := HX4.out
  clear f0 f1 f2 f3 x0 x1 y0 y1 hd3 c0 c1 k4 hRS hR0 hR1 hR2 hR hr hW4 HC HD3 HS3 HC2 HD2
  have x0 := hx4.cell (i := 0) rfl
  have x1 := hx4.cell (i := 1) rfl
  have x2 := hx4.cell (i := 2) rfl
  have x3 := hx4.cell (i := 3) rfl
  have x4 := hx4.cell (i := 4) rfl
  have x5 := hx4.cell (i := 5) rfl
  clear hx4
  go_wp2_with fail
  refine HST.out.mono ?_
  rintro e w5 ⟨rfl, hd5, hs5, hk5⟩
  have HY5 := Lib.hid (hk5.blk HY4.out (fun h => h.elim (fun hn => hn HRR.out.2.2.1) hS1))
  have HT5 := Lib.hid (hk5.blk HT4.out (fun h => h.elim (fun hn => hn HRR.out.2.2.2) (HT4.out.ne HS4.out (by decide))))
  have HS5 := Lib.hid hs5
  have HD5 := Lib.hid hd5
  have HG := Lib.hid (get_any S ⟨ksg, ksc, kge, kre, krs, kfl⟩ t ⟨B, undef, undef⟩ w5 hs5)
  unfold SXP SX.val SX.cells at HG
  dsimp only at HG
  clear hd5 hs5 hk5 x0 x1 x2 x3 x4 x5
  go_wp2_with fail
  refine HG.out.mono ?_
  rintro e w6 ⟨rfl, hk6⟩
  have k7 : Keeps (fun _ => False) w5 (w6.alloc (.cells #[.int .i64 ksg, .int .i64 ksc, .int .u64 kge, .int .u64 kre, .int .u64 krs, .int .u64 kfl] 71)) := hk6.alloc _
  have HY7 := Lib.hid (k7.blk HY5.out id)
  have HT7 := Lib.hid (k7.blk HT5.out id)
  have HS7 := Lib.hid (k7.blk HS5.out id)
  have HK7 := Lib.hid (Blk.new w6 71 [.int .i64 ksg, .int .i64 ksc, .int .u64 kge, .int .u64 kre, .int .u64 krs, .int .u64 kfl])
  have hd7 := HD5.out.more k7
  have hh6 := hk6.size
  obtain ⟨Q, hQ⟩ : ∃ Q : Nat → Prop, Q = fun k => R k ∨ (w5.heap.size ≤ k ∧ k < (w6.alloc (.cells #[.int .i64 ksg, .int .i64 ksc, .int .u64 kge, .int .u64 kre, .int .u64 krs, .int .u64 kfl] 71)).heap.size) := ⟨_, rfl⟩
  rw [← hQ] at hd7
  have HQQ : Hid (Q S ∧ Q (w.heap.size + 1) ∧ Q (w.heap.size + 2) ∧ Q w6.heap.size) := Lib.hid (by
    have h := HRR.out
    rw [hQ]
    exact ⟨.inl h.1, .inl h.2.2.1, .inl h.2.2.2, .inr ⟨hh6, by simp⟩⟩)
  have HD7 := Lib.hid hd7
  have ht7 := HT7.out
  have t0 := ht7.cell (i := 0) rfl
  have t1 := ht7.cell (i := 1) rfl
  have t2 := ht7.cell (i := 2) rfl
  clear ht7 hd7 hQ hk6 k7 hh6 HG HST HD5 HS5 HT5 HY5 HX4 HY4 HS4 HT4 HD4 HRR
  obtain ⟨W7, hW7⟩ : ∃ W7, W7 = w6.alloc (.cells #[.int .i64 ksg, .int .i64 ksc, .int .u64 kge, .int .u64 kre, .int .u64 krs, .int .u64 kfl] 71) := ⟨_, rfl⟩
  go_upto_region 12 with fail
  rw [← hW7]
  rw [← hW7] at HY7 HT7 HS7 HK7 HD7 t0 t1 t2
  clear hW7
  go_cut [] (fun wx => CutR w Q B ⟨ksg, ksc, kge, kre, krs, kfl⟩ t W7 wx)
  case first =>
    go_wp2_with fail
    all_goals
      refine (HD7.out.arm _ (wf_mod (by omega) (by omega))).mono ?_
      rintro e w8 ⟨rfl, hd8, hk8⟩
      have HC8 : Hid (CutR w Q B ⟨ksg, ksc, kge, kre, krs, kfl⟩ t W7 w8) := Lib.hid ⟨_, hd8, HKN.out.1.arm _, (HKN.out.2.2.less (by omega)).arm _, hk8⟩
      clear hd8 hk8
      go_wp2_with fail
      go_meet
      exact HC8.out
  case rest =>
    obtain ⟨D2, hd8, hkn8, hf8, hk8⟩ := hcut
    obtain ⟨w8, rfl⟩ : ∃ w8, w8 = wc := ⟨_, rfl⟩
    have HY8 := Lib.hid (hk8.blk HY7.out (fun hn => hn HQQ.out.2.1))
    have HT8 := Lib.hid (hk8.blk HT7.out (fun hn => hn HQQ.out.2.2.1))
    have HS8 := Lib.hid (hk8.blk HS7.out (fun hn => hn HQQ.out.1))
    have HK8 := Lib.hid (hk8.blk HK7.out (fun hn => hn HQQ.out.2.2.2))
    have HD8 := Lib.hid hd8
    have HN8 := Lib.hid hkn8
    have HF8 := Lib.hid hf8
    have ht8 := HT8.out
    clear hd8 hkn8 hf8 hk8 t0 t1 t2 HY7 HT7 HS7 HK7 HD7
    have t0 := ht8.cell (i := 0) rfl
    have t1 := ht8.cell (i := 1) rfl
    have t2 := ht8.cell (i := 2) rfl
    clear ht8
    go_upto_if 46 with fail
    go_cut [] (fun wx => CutR w Q B ⟨ksg, ksc, kge, kre, krs, kfl⟩ t w8 wx)
    case first =>
      by_cases hpos : 0 < fl
      · have e0 : decide (0 < fl) = true := by simpa using hpos
        go_wp2_with fail
        refine (HD8.out.arm (-1) (by decide)).mono ?_
        rintro e w9 ⟨rfl, hd9, hk9⟩
        have HD9 := Lib.hid hd9
        have HK9 := Lib.hid hk9
        have ht9 := hk9.blk HT8.out (fun hn => hn HQQ.out.2.2.1)
        clear t0 t1 t2 hd9 hk9
        have t1 := ht9.cell (i := 1) rfl
        clear ht9
        go_wp2_with fail
        refine (HD9.out.fail _).mono ?_
        rintro e w10 ⟨rfl, hd10, hk10⟩
        have HC8 : Hid (CutR w Q B ⟨ksg, ksc, kge, kre, krs, kfl⟩ t w8 w10) := Lib.hid ⟨_, hd10, (HN8.out.arm _).fail _, (HF8.out.arm _).fail _, HK9.out.trans hk10⟩
        clear hd10 hk10
        go_wp2_with fail
        go_meet
        exact HC8.out
      · have e0 : decide (0 < fl) = false := by simpa using hpos
        have HC8 : Hid (CutR w Q B ⟨ksg, ksc, kge, kre, krs, kfl⟩ t w8 w8) := Lib.hid ⟨_, HD8.out, HN8.out, HF8.out, Keeps.refl _ _⟩
        go_wp2_with fail
        go_meet
        exact HC8.out
    case rest =>
      obtain ⟨D3, hd9, hkn9, hf9, hk9⟩ := hcut
      obtain ⟨w9, rfl⟩ : ∃ w9, w9 = wc := ⟨_, rfl⟩
      have HY9 := Lib.hid (hk9.blk HY8.out (fun hn => hn HQQ.out.2.1))
      have HT9 := Lib.hid (hk9.blk HT8.out (fun hn => hn HQQ.out.2.2.1))
      have HS9 := Lib.hid (hk9.blk HS8.out (fun hn => hn HQQ.out.1))
      have HK9 := Lib.hid (hk9.blk HK8.out (fun hn => hn HQQ.out.2.2.2))
      have HST := Lib.hid (set_any (m := 600) hd9 HQQ.out.1 ⟨ksg, ksc, kge, kre, krs, kfl⟩ t HS9.out hkn9.known.wf hkn9.known.t0 hkn9.known.t1 (hf9.less (by omega)) (four ⟨ysg, ysc, yge, yre, yrs, yfl⟩) (four_wf HY.out))
      obtain ⟨r, hr⟩ : ∃ r, r = setS D3 ⟨ksg, ksc, kge, kre, krs, kfl⟩ t (four ⟨ysg, ysc, yge, yre, yrs, yfl⟩) := ⟨_, rfl⟩
      obtain ⟨E, hE⟩ : ∃ E, E = r.2.1.crash ks := ⟨_, rfl⟩
      have HCK := Lib.hid (cut_kn hkn9 HKN.out.2.1 (m := 600) (hf9.less (by omega)) HY.out ks hr hE)
      rw [← hr] at HST
      have HEE := Lib.hid hE
      obtain ⟨rc, rD, rk, rt⟩ := r
      obtain ⟨nsg, nsc, nge, nre, nrs, nfl⟩ := rk
      unfold SetP at HST
      unfold four SX.val at HST
      unfold four at HCK
      dsimp only at HST HCK HEE
      clear hd9 hkn9 hf9 hk9 hr hE t0 t1 t2 HY8 HT8 HS8 HK8 HD8 HN8 HF8
      have hy9 := HY9.out
      have y0 := hy9.cell (i := 0) rfl
      have y1 := hy9.cell (i := 1) rfl
      have y2 := hy9.cell (i := 2) rfl
      have y3 := hy9.cell (i := 3) rfl
      have y4 := hy9.cell (i := 4) rfl
      have y5 := hy9.cell (i := 5) rfl
      clear hy9
      go_wp2_with fail
      refine HST.out.mono ?_
      rintro e w10 ⟨rfl, hd10, hs10, hk10⟩
      have HY10 := Lib.hid (hk10.blk HY9.out (fun h => h.elim (fun hn => hn HQQ.out.2.1) (HY9.out.ne HS9.out (by decide))))
      have HT10 := Lib.hid (hk10.blk HT9.out (fun h => h.elim (fun hn => hn HQQ.out.2.2.1) (HT9.out.ne HS9.out (by decide))))
      have HK10 := Lib.hid (hk10.blk HK9.out (fun h => h.elim (fun hn => hn HQQ.out.2.2.2) (HK9.out.ne HS9.out (by decide))))
      have HG := Lib.hid (get_any S ⟨nsg, nsc, nge, nre, nrs, nfl⟩ rt ⟨B, undef, undef⟩ w10 hs10)
      unfold SXP SX.val SX.cells at HG
      dsimp only at HG
      have HD10 := Lib.hid hd10
      clear hd10 hs10 hk10 y0 y1 y2 y3 y4 y5 HST HS9
      go_wp2_with fail
      refine HG.out.mono ?_
      rintro e w11 ⟨rfl, hk11⟩
      go_upto_region 18 with fail
      obtain ⟨W12, hW12⟩ : ∃ W12, W12 = w11.alloc (.cells #[.int .i64 nsg, .int .i64 nsc, .int .u64 nge, .int .u64 nre, .int .u64 nrs, .int .u64 nfl] 71) := ⟨_, rfl⟩
      have k12 : Keeps (fun _ => False) w10 W12 := by rw [hW12]; exact hk11.alloc _
      have hnew : Blk W12 w11.heap.size 71 [.int .i64 nsg, .int .i64 nsc, .int .u64 nge, .int .u64 nre, .int .u64 nrs, .int .u64 nfl] := by rw [hW12]; exact Blk.new w11 71 _
      rw [← hW12]
      have hh11 := hk11.size
      have hl11 := hnew.lt
      have HNOW := Lib.hid hnew
      have HY12 := Lib.hid (k12.blk HY10.out id)
      have HK12 := Lib.hid (k12.blk HK10.out id)
      have ht12 := k12.blk HT10.out id
      have hd12 := HD10.out.more k12
      have HR12 : Hid (BoolRow W12 ka kn ks) := Lib.hid (HR.out.keep hd12.keep (fun _ _ _ => id))
      obtain ⟨Q2, hQ2⟩ : ∃ Q2 : Nat → Prop, Q2 = fun k => Q k ∨ (w10.heap.size ≤ k ∧ k < W12.heap.size) := ⟨_, rfl⟩
      rw [← hQ2] at hd12
      have HQ2 : Hid (Q2 (w.heap.size + 1) ∧ Q2 w6.heap.size ∧ Q2 w11.heap.size) := Lib.hid (by
        have h := HQQ.out
        rw [hQ2]
        exact ⟨.inl h.2.1, .inl h.2.2.2, .inr ⟨hh11, hl11⟩⟩)
      have HD12 := Lib.hid hd12
      have t2 := (ht12.alloc (.cells #[] 4)).cell (i := 2) rfl
      clear hd12 ht12 hnew k12 hW12 hk11 hQ2 HG HT10 HY10 HK10 HD10
      go_wp2_with (at_builtin; refine wpList_append_bools rfl _ _ rfl rfl rfl ka kn kc ks rfl HR12.out HNIL.out HN.out ?_; intro va vc w13 hr13 hb13 hk13; have HR13 := Lib.hid hr13; have HB13 := Lib.hid hb13; have HK13 := Lib.hid hk13; clear hr13 hb13 hk13)
      have hd13 := HD12.out.more HK13.out
      obtain ⟨Q3, hQ3⟩ : ∃ Q3 : Nat → Prop, Q3 = fun k => Q2 k ∨ (W12.heap.size ≤ k ∧ k < w13.heap.size) := ⟨_, rfl⟩
      rw [← hQ3] at hd13
      have HQ3 : Hid (Q3 (w.heap.size + 1) ∧ Q3 w6.heap.size ∧ Q3 w11.heap.size) := Lib.hid (by
        have h := HQ2.out
        rw [hQ3]
        exact ⟨.inl h.1, .inl h.2.1, .inl h.2.2⟩)
      have HCR := Lib.hid (hd13.crash va kn vc ks HR13.out (fun b off e => .inr (by rw [hQ3]; exact .inr (HB13.out b off e))) (by have := HN.out; omega))
      unfold DrP at HCR
      rw [← HEE.out] at HCR
      have HY13 := Lib.hid (HK13.out.blk HY12.out id)
      have HK13' := Lib.hid (HK13.out.blk HK12.out id)
      have HN13 := Lib.hid (HK13.out.blk HNOW.out id)
      clear hd13 hQ3 t2 HY12 HK12 HNOW HD12
      go_wp2_with fail
      refine HCR.out.mono ?_
      rintro e w14 ⟨rfl, hd14, hk14⟩
      obtain ⟨al, ap, an, af, ab, z, u, ho, hm, hroom, hz⟩ := HCK.out
      have HOP := Lib.hid (open_any (m := 598) hd14 al ap an af ab.1 ab.2 z u ho hm hroom)
      have HZ := Lib.hid hz
      have HY14 := Lib.hid (hk14.blk HY13.out (fun hn => hn HQ3.out.1))
      have HK14 := Lib.hid (hk14.blk HK13'.out (fun hn => hn HQ3.out.2.1))
      have HN14 := Lib.hid (hk14.blk HN13.out (fun hn => hn HQ3.out.2.2))
      obtain ⟨zsg, zsc, zge, zre, zrs, zfl⟩ := z
      unfold OpenFP at HOP
      clear hd14 hk14 al ap an af ab ho hm hroom hz HY13 HK13' HN13 HCR HCK
      go_wp2_with fail
      refine HOP.out.mono ?_
      rintro e w15 ⟨T, rfl, hd15, hs15, hk15⟩
      have HKE := Lib.hid hd15.keep
      have HY15 := Lib.hid (hk15.blk HY14.out (fun hn => hn HQ3.out.1))
      have HK15 := Lib.hid (hk15.blk HK14.out (fun hn => hn HQ3.out.2.1))
      have HN15 := Lib.hid (hk15.blk HN14.out (fun hn => hn HQ3.out.2.2))
      have HG15 : Hid (∀ W, Keeps (fun _ => False) w15 W → Calls Try.prog 42 #[.pointer (some ⟨T, 0, none⟩)] W (SXP ⟨zsg, zsc, zge, zre, zrs, zfl⟩ W)) := Lib.hid (fun W hk => get_any T ⟨zsg, zsc, zge, zre, zrs, zfl⟩ u ⟨B, undef, undef⟩ W (hk.blk hs15 id))
      unfold SXP SX.val SX.cells at HG15
      dsimp only at HG15
      have HC15 : Hid (∀ W, Keeps (fun _ => False) w15 W → W.cell? ⟨w.heap.size + 1, 0, none⟩ = some (.int .i64 4) ∧ W.cell? ⟨w.heap.size + 1, 1, none⟩ = some (.int .i64 24) ∧ W.cell? ⟨w.heap.size + 1, 2, none⟩ = some (.int .u64 yge) ∧ W.cell? ⟨w.heap.size + 1, 3, none⟩ = some (.int .u64 yre) ∧ W.cell? ⟨w.heap.size + 1, 4, none⟩ = some (.int .u64 yrs) ∧ W.cell? ⟨w.heap.size + 1, 5, none⟩ = some (.int .u64 yfl) ∧ W.cell? ⟨w6.heap.size, 0, none⟩ = some (.int .i64 ksg) ∧ W.cell? ⟨w6.heap.size, 1, none⟩ = some (.int .i64 ksc) ∧ W.cell? ⟨w6.heap.size, 2, none⟩ = some (.int .u64 kge) ∧ W.cell? ⟨w6.heap.size, 3, none⟩ = some (.int .u64 kre) ∧ W.cell? ⟨w6.heap.size, 4, none⟩ = some (.int .u64 krs) ∧ W.cell? ⟨w6.heap.size, 5, none⟩ = some (.int .u64 kfl) ∧ W.cell? ⟨w11.heap.size, 0, none⟩ = some (.int .i64 nsg) ∧ W.cell? ⟨w11.heap.size, 1, none⟩ = some (.int .i64 nsc) ∧ W.cell? ⟨w11.heap.size, 2, none⟩ = some (.int .u64 nge) ∧ W.cell? ⟨w11.heap.size, 3, none⟩ = some (.int .u64 nre) ∧ W.cell? ⟨w11.heap.size, 4, none⟩ = some (.int .u64 nrs) ∧ W.cell? ⟨w11.heap.size, 5, none⟩ = some (.int .u64 nfl)) := Lib.hid (fun W hk => by
        obtain ⟨a0, a1, a2, a3, a4, a5⟩ := six_of (x := ⟨4, 24, yge, yre, yrs, yfl⟩) (hk.blk HY15.out id)
        obtain ⟨b0, b1, b2, b3, b4, b5⟩ := six_of (x := ⟨ksg, ksc, kge, kre, krs, kfl⟩) (hk.blk HK15.out id)
        obtain ⟨c0, c1, c2, c3, c4, c5⟩ := six_of (x := ⟨nsg, nsc, nge, nre, nrs, nfl⟩) (hk.blk HN15.out id)
        exact ⟨a0, a1, a2, a3, a4, a5, b0, b1, b2, b3, b4, b5, c0, c1, c2, c3, c4, c5⟩)
      clear hd15 hs15 hk15 HOP HY14 HK14 HN14
      go_wp2_with fail
      go_loopw [12, 13, 70] (fun a b v wr => ∃ i : Nat, i ≤ 3 ∧ v = .int .i64 i ∧ a = .pointer (some ⟨T, 0, none⟩) ∧ b = .int .i64 0 ∧ wr = w15) (fun _ _ v _ => 3 - (intOf v).toNat)
      case atStart => exact ⟨0, by omega, rfl, rfl, rfl, rfl⟩
      case round =>
        obtain ⟨i, hi, rfl, rfl, rfl, hwr⟩ := hrel
        obtain rfl : w15 = wr := hwr.symm
        by_cases hlt : i < 3
        · go_wp2_with fail
          go_roundw
          case rel =>
            refine ⟨i + 1, by omega, by go_num, ?_⟩
            simp
          case measure => simp [intOf]; omega
        · obtain rfl : i = 3 := by omega
          clear hi hlt
          rcases HZ.out with ⟨rfl, hn, hz⟩ | ⟨hrc, hn, hz⟩
          · injection hn with n0 n1 n2 n3 n4 n5
            injection hz with z0 z1 z2 z3 z4 z5
            subst n0 n1 n2 n3 n4 n5 z0 z1 z2 z3 z4 z5
            clear HZ
            go_upto_region 28 with fail
            have hE1 : ∀ W, (Op.equalIn 10000 71 (.agg #[.int .i64 4, .int .i64 24, .int .u64 zge, .int .u64 zre, .int .u64 zrs, .int .u64 zfl]) (.agg #[.int .i64 4, .int .i64 24, .int .u64 zge, .int .u64 zre, .int .u64 zrs, .int .u64 zfl])).run Try.prog W = .ok true W := fun W => by rw [eq71x, eqX_self]
            go_region_held3 (fun W => W.cell? ⟨w.heap.size + 1, 0, none⟩ = some (.int .i64 4) ∧ W.cell? ⟨w.heap.size + 1, 1, none⟩ = some (.int .i64 24) ∧ W.cell? ⟨w.heap.size + 1, 2, none⟩ = some (.int .u64 zge) ∧ W.cell? ⟨w.heap.size + 1, 3, none⟩ = some (.int .u64 zre) ∧ W.cell? ⟨w.heap.size + 1, 4, none⟩ = some (.int .u64 zrs) ∧ W.cell? ⟨w.heap.size + 1, 5, none⟩ = some (.int .u64 zfl) ∧ W.cell? ⟨w6.heap.size, 0, none⟩ = some (.int .i64 ksg) ∧ W.cell? ⟨w6.heap.size, 1, none⟩ = some (.int .i64 ksc) ∧ W.cell? ⟨w6.heap.size, 2, none⟩ = some (.int .u64 kge) ∧ W.cell? ⟨w6.heap.size, 3, none⟩ = some (.int .u64 kre) ∧ W.cell? ⟨w6.heap.size, 4, none⟩ = some (.int .u64 krs) ∧ W.cell? ⟨w6.heap.size, 5, none⟩ = some (.int .u64 kfl) ∧ W.cell? ⟨w11.heap.size, 0, none⟩ = some (.int .i64 4) ∧ W.cell? ⟨w11.heap.size, 1, none⟩ = some (.int .i64 24) ∧ W.cell? ⟨w11.heap.size, 2, none⟩ = some (.int .u64 zge) ∧ W.cell? ⟨w11.heap.size, 3, none⟩ = some (.int .u64 zre) ∧ W.cell? ⟨w11.heap.size, 4, none⟩ = some (.int .u64 zrs) ∧ W.cell? ⟨w11.heap.size, 5, none⟩ = some (.int .u64 zfl)) (first | exact HC15.out _ (Keeps.refl _ _).drew | exact HC15.out _ hk16') (first
              | (go_at_call 42; refine (HG15.out _ (Keeps.refl _ _).drew).mono ?_; rintro e w16 ⟨rfl, hk16⟩; have hk16' : Keeps (fun _ => False) w15 w16 := (Keeps.refl (fun _ => False) w15).drew.trans hk16))
            all_goals
              go_wp2_with fail
              go_ret
              exact ⟨rfl, HKE.out.trans hk16'⟩
          · injection hn with n0 n1 n2 n3 n4 n5
            subst n0 n1 n2 n3 n4 n5
            clear HZ
            go_upto_region 29 with fail
            by_cases hq : (⟨zsg, zsc, zge, zre, zrs, zfl⟩ : SX) = ⟨nsg, nsc, nge, nre, nrs, nfl⟩
            · clear hz hrc
              injection hq with z0 z1 z2 z3 z4 z5
              subst z0 z1 z2 z3 z4 z5
              have hE1 : ∀ W, (Op.equalIn 10000 71 (.agg #[.int .i64 zsg, .int .i64 zsc, .int .u64 zge, .int .u64 zre, .int .u64 zrs, .int .u64 zfl]) (.agg #[.int .i64 zsg, .int .i64 zsc, .int .u64 zge, .int .u64 zre, .int .u64 zrs, .int .u64 zfl])).run Try.prog W = .ok true W := fun W => by rw [eq71x, eqX_self]
              refine wp_region_keeps w15 (by kernel_rfl) (by kernel_rfl) (Keeps.refl _ _) ?_
              iterate 24 (
                first
                | go_big_quiet_skip
                | (go_big_quiet_want; go_big_quiet_op; go_big_quiet_on)
                | (go_big_quiet_want
                   apply Exists.intro
                   refine ⟨fun W hW => ?_, ?_⟩
                   · (obtain ⟨a0, a1, a2, a3, a4, a5, b0, b1, b2, b3, b4, b5, c0, c1, c2, c3, c4, c5⟩ := HC15.out W hW
                      go_simp
                      first
                      | done
                      | rfl
                      | (refine (HG15.out W hW).mono ?_; rintro e w16 ⟨rfl, hk16⟩; exact ⟨rfl, hW.trans hk16⟩)
                      | fail)
                   go_big_quiet_on
                   simp only [Act.put, List.setIfInBounds_toArray, List.set_cons_zero, List.set_cons_succ])
                | fail)
              refine wpQuiet_nil ?_
              intro w17 hw17
              go_wp2_with fail
              go_ret
              exact ⟨rfl, HKE.out.trans hw17⟩
            · obtain ⟨hz, h78⟩ := hz.resolve_left hq
              injection hz with z0 z1 z2 z3 z4 z5
              subst z0 z1 z2 z3 z4 z5
              have hE1 : ∀ W, (Op.equalIn 10000 71 (.agg #[.int .i64 nsg, .int .i64 nsc, .int .u64 nge, .int .u64 nre, .int .u64 nrs, .int .u64 nfl]) (.agg #[.int .i64 nsg, .int .i64 nsc, .int .u64 nge, .int .u64 nre, .int .u64 nrs, .int .u64 nfl])).run Try.prog W = .ok true W := fun W => by rw [eq71x, eqX_self]
              have hE2 : ∀ W, (Op.equalIn 10000 71 (.agg #[.int .i64 4, .int .i64 24, .int .u64 zge, .int .u64 zre, .int .u64 zrs, .int .u64 zfl]) (.agg #[.int .i64 nsg, .int .i64 nsc, .int .u64 nge, .int .u64 nre, .int .u64 nrs, .int .u64 nfl])).run Try.prog W = .ok false W := fun W => by rw [eq71x, eqX_ne hq]
              have hE3 : ∀ W, (Op.equalIn 10000 71 (.agg #[.int .i64 4, .int .i64 24, .int .u64 zge, .int .u64 zre, .int .u64 zrs, .int .u64 zfl]) (.agg #[.int .i64 4, .int .i64 24, .int .u64 zge, .int .u64 zre, .int .u64 zrs, .int .u64 zfl])).run Try.prog W = .ok true W := fun W => by rw [eq71x, eqX_self]
              clear hq
              rcases h78 with rfl | rfl
              · clear hrc
                refine wp_region_keeps w15 (by kernel_rfl) (by kernel_rfl) (Keeps.refl _ _) ?_
                iterate 24 (
                  first
                  | go_big_quiet_skip
                  | (go_big_quiet_want; go_big_quiet_op; go_big_quiet_on)
                  | (go_big_quiet_want
                     apply Exists.intro
                     refine ⟨fun W hW => ?_, ?_⟩
                     · (obtain ⟨a0, a1, a2, a3, a4, a5, b0, b1, b2, b3, b4, b5, c0, c1, c2, c3, c4, c5⟩ := HC15.out W hW
                        go_simp
                        first
                        | done
                        | rfl
                        | (refine (HG15.out W hW).mono ?_; rintro e w16 ⟨rfl, hk16⟩; exact ⟨rfl, hW.trans hk16⟩)
                        | fail)
                     go_big_quiet_on
                     simp only [Act.put, List.setIfInBounds_toArray, List.set_cons_zero, List.set_cons_succ])
                  | fail)
                refine wpQuiet_nil ?_
                intro w17 hw17
                go_wp2_with fail
                go_ret
                exact ⟨rfl, HKE.out.trans hw17⟩
              · clear hrc
                refine wp_region_keeps w15 (by kernel_rfl) (by kernel_rfl) (Keeps.refl _ _) ?_
                iterate 24 (
                  first
                  | go_big_quiet_skip
                  | (go_big_quiet_want; go_big_quiet_op; go_big_quiet_on)
                  | (go_big_quiet_want
                     apply Exists.intro
                     refine ⟨fun W hW => ?_, ?_⟩
                     · (obtain ⟨a0, a1, a2, a3, a4, a5, b0, b1, b2, b3, b4, b5, c0, c1, c2, c3, c4, c5⟩ := HC15.out W hW
                        go_simp
                        first
                        | done
                        | rfl
                        | (refine (HG15.out W hW).mono ?_; rintro e w16 ⟨rfl, hk16⟩; exact ⟨rfl, hW.trans hk16⟩)
                        | fail)
                     go_big_quiet_on
                     simp only [Act.put, List.setIfInBounds_toArray, List.set_cons_zero, List.set_cons_succ])
                  | fail)
                refine wpQuiet_nil ?_
                intro w17 hw17
                go_wp2_with fail
                go_ret
                exact ⟨rfl, HKE.out.trans hw17⟩
end Go.Proofs.Ytjiammhmeliogaa
