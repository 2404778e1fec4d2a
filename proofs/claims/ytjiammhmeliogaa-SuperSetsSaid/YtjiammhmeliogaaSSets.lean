/- SuperSets, walked. -/
import Derived.Test.YtjiammhmeliogaaOpenS
import Derived.Test.YtjiammhmeliogaaCutP
import Derived.BigQuiet
import Derived.Deep.CutBlock
import Derived.Deep.DeepCutAuto
namespace Go.Proofs.Ytjiammhmeliogaa
open Go.RowKit
set_option linter.unusedVariables false
set_option linter.unusedSimpArgs false
attribute [local go_sem ↓] exec_load27 exec_store27 exec_new27 exec_alloc27 exec_build27 zeroValue27
attribute [local go_sem] padr_some rowAt_drew hasRow_drew mayRow_drew run_cells27

theorem Dr.ops {w0 w : World} {R : Nat → Prop} {B : Nat} {D : DD} (h : Dr w0 w R B D) : Calls Try.prog 36 #[.pointer (some ⟨B, 0, none⟩)] w fun e w' => e = .returned (.int .i64 D.ops) ∧ w' = w := by
  obtain ⟨L, rfl, h1, _⟩ := h
  exact (ops_any L D w h1).mono fun _ _ h => ⟨h.1, h.2.symm⟩

/-- What Set makes of a disk that works: told by what is asked. -/
theorem set_told {D : DD} (hl : Alive D) (hp : D.p = []) (hn : 2 ≤ D.n) {x : SX} {t : Int} (hk : Known D.f x t) (ht : t < 1000000) {y : SX} (hy : y.Wf) {r : Int × DD × SX × Int} (hr : r = setS D x t y) :
    (Alive r.2.1 ∧ r.2.1.p = [] ∧ r.2.1.n = D.n ∧ Known r.2.1.f r.2.2.1 r.2.2.2 ∧ r.2.2.1.sg = x.sg ∧ r.2.2.1.sc = x.sc ∧ r.2.2.2 ≤ t + 1) ∧
    ((y.mayB = false ∨ y.sg ≠ x.sg ∨ y.sc ≠ x.sc) → r.1 = 2 ∧ r.2.2.1 = x ∧ r.2.2.2 = t) ∧
    (¬ (y.mayB = false ∨ y.sg ≠ x.sg ∨ y.sc ≠ x.sc) → y.lowB x = true → r.1 = 171 ∧ r.2.2.1 = x ∧ r.2.2.2 = t) ∧
    (¬ (y.mayB = false ∨ y.sg ≠ x.sg ∨ y.sc ≠ x.sc) → y.lowB x = false → r.1 = 0 ∧ r.2.2.1 = y ∧ r.2.2.2 = t + 1) := by
  have hm : ¬ (y.mayB = false ∨ y.sg ≠ x.sg ∨ y.sc ≠ x.sc) → y.may ∧ y.sg = x.sg ∧ y.sc = x.sc := fun h => by
    refine ⟨?_, Classical.byContradiction fun h' => h (.inr (.inl h')), Classical.byContradiction fun h' => h (.inr (.inr h'))⟩
    rw [← mayB_iff]
    cases hb : y.mayB
    · exact absurd (.inl hb) h
    · rfl
  by_cases h1 : y.mayB = false ∨ y.sg ≠ x.sg ∨ y.sc ≠ x.sc
  · rw [setS_bad h1] at hr
    subst hr
    exact ⟨⟨hl, hp, rfl, hk, rfl, rfl, by show t ≤ t + 1; omega⟩, fun _ => ⟨rfl, rfl, rfl⟩, fun h => absurd h1 h, fun h => absurd h1 h⟩
  · obtain ⟨m1, m2, m3⟩ := hm h1
    cases h2 : y.lowB x
    · have e := set_live hl hp hn x t y m1 m2 m3 h2
      rw [e] at hr
      subst hr
      refine ⟨⟨(hl.wrote _ _).settled, rfl, rfl, ?_, m2, m3, by show t + 1 ≤ t + 1; omega⟩, fun h => absurd h h1, (fun _ h => by cases h), fun _ _ => ⟨rfl, rfl, rfl⟩⟩
      have : ((D.wrote ((t + 1) % 2) (sup y (t + 1))).settled).f = updF D.f ((t + 1) % 2).toNat (sup y (t + 1)) := by
        show setl (fun _ => true) 0 (D.p ++ _) D.f = _
        rw [hp]
        simp [setl]
      show Known ((D.wrote ((t + 1) % 2) (sup y (t + 1))).settled).f y (t + 1)
      rw [this]
      exact hk.next ht m1 hy
    · rw [setS_low h1 h2] at hr
      subst hr
      exact ⟨⟨hl, hp, rfl, hk, rfl, rfl, by show t ≤ t + 1; omega⟩, fun h => absurd h h1, fun _ _ => ⟨rfl, rfl, rfl⟩, (fun _ h => by cases h)⟩

/-- Ahead of a round. -/
structure SetsI (w1 : World) (S K B : Nat) (s c : Int) (i : Nat) (x : SX) (t : Int) (D : DD) (wr : World) : Prop where
  dr : Dr w1 wr (fun k => k = S ∨ k = K) B D
  st : Blk wr S 114 (stp x t B)
  kn : Blk wr K 71 x.cells
  al : Alive D
  p : D.p = []
  n : D.n = 1026
  known : Known D.f x t
  fine : Fine (900 - 4 * i) D
  sg : x.sg = s
  sc : x.sc = c
  ti : t ≤ i

/-- Behind the switch. -/
def SwR (W0 : World) (K : Nat) (D : DD) (x : SX) (t : Int) (y : SX) (a b : Value) (wx : World) : Prop :=
  a = .int .u64 (setS D x t y).2.2.2 ∧ b = .int .i64 (setS D x t y).1 ∧ Blk wx K 71 (setS D x t y).2.2.1.cells ∧ Keeps (fun k => k = K) W0 wx

set_option maxRecDepth 100000 in
set_option maxHeartbeats 4000000 in
theorem ssets_law (s c : Int) (hs : (Lit.int .i64 s).wf = true) (hc : (Lit.int .i64 c).wf = true) (a : Option Addr) (n cp : Nat) (l : List SX) (w : World) (hr : SupRow w.heap.size w a n l) (hwf : ∀ y ∈ l, y.Wf) (hn : n ≤ cp) (hcp : cp ≤ 140737488351232) :
    Calls Try.prog 10 #[.int .i64 s, .int .i64 c, .slice a n cp] w fun e w' => e = .returned (.bool true) ∧ Keeps (fun _ => False) w w' := by
  have HR := Lib.hid hr
  have HWF := Lib.hid hwf
  have hlen := hr.1
  have HS := Lib.hid hs
  have HC := Lib.hid hc
  clear hr hwf hs hc
  go_enter Try.func10, Try.ntmps10
  go_wp2_with fail
  refine (swakes_any _).mono ?_
  rintro e w1 ⟨rfl, hk1⟩
  have HK1 := Lib.hid hk1
  clear hk1
  go_wp2_with fail
  refine (new_dr 1026 (by omega) (by omega) w1).mono ?_
  rintro e w2 ⟨B, rfl, hd2⟩
  have HD2 := Lib.hid hd2
  clear hd2
  rcases hm : (SX.first s c).mayB with _ | _
  · have HF := Lib.hid (format_bad B s c hm w2)
    unfold BadP at HF
    have HM : Hid (∀ W, Calls Try.prog 40 #[(SX.first s c).val] W (BoolP false W)) := Lib.hid (fun W => by rw [← hm]; exact rmay_any _ W)
    unfold SX.val SX.first SX.cells at HM
    dsimp only at HM
    clear hm
    go_wp2_with fail
    refine HF.out.mono ?_
    rintro e w3 ⟨rfl, hk3⟩
    have HD3 := Lib.hid (HD2.out.quiet hk3)
    clear hk3
    have hb := Blk.new w3 71 [.int .i64 s, .int .i64 c, .int .u64 0, .int .u64 0, .int .u64 0, .int .u64 0]
    have q0 := hb.cell (i := 0) rfl
    have q1 := hb.cell (i := 1) rfl
    have q2 := hb.cell (i := 2) rfl
    have q3 := hb.cell (i := 3) rfl
    have q4 := hb.cell (i := 4) rfl
    have q5 := hb.cell (i := 5) rfl
    clear hb
    go_wp2_with fail
    refine (HM.out _).mono ?_
    rintro e w4 ⟨rfl, hk4⟩
    have HO : Hid (Calls Try.prog 36 #[.pointer (some ⟨B, 0, none⟩)] w4 fun e w' => e = .returned (.int .i64 0) ∧ w' = w4) := Lib.hid (HD3.out.quiet (((Keeps.refl _ _).alloc _).trans hk4)).ops
    have HKE := Lib.hid (HD3.out.quiet (((Keeps.refl (fun _ => False) w3).alloc (.cells #[.int .i64 s, .int .i64 c, .int .u64 0, .int .u64 0, .int .u64 0, .int .u64 0] 71)).trans hk4)).keep
    clear hk4
    go_wp2_with fail
    refine HO.out.mono ?_
    rintro e w5 ⟨rfl, rfl⟩
    go_wp2_with fail
    go_ret
    exact ⟨rfl, HK1.out.trans HKE.out⟩
  · have hmay := (mayB_iff _).1 hm
    have hroom : 2 + s * c ≤ ((1026 : Nat) : Int) := by
      obtain ⟨m1, m2, m3, m4, m5⟩ := hmay
      have m1 : 4 ≤ s := m1
      have m2 : s ≤ 16 := m2
      have m3 : 24 ≤ c := m3
      have m4 : c ≤ 64 := m4
      have := Int.mul_le_mul m2 m4 (by omega) (by omega)
      show 2 + s * c ≤ 1026
      omega
    have HF := Lib.hid (format_ok HD2.out s c hmay hroom)
    have HFK := Lib.hid (first_known s c hmay 1026)
    have HM : Hid (∀ W, Calls Try.prog 40 #[(SX.first s c).val] W (BoolP true W)) := Lib.hid (fun W => by rw [← hm]; exact rmay_any _ W)
    have HMM := Lib.hid hmay
    unfold SX.val SX.first SX.cells at HM
    dsimp only at HM
    clear hm hmay hroom
    go_wp2_with fail
    refine HF.out.mono ?_
    rintro e w3 ⟨S, rfl, hd3, hs3, hk3⟩
    have HD3 := Lib.hid hd3
    have HS3 := Lib.hid hs3
    clear hd3 hs3 hk3
    have hb := Blk.new w3 71 [.int .i64 s, .int .i64 c, .int .u64 0, .int .u64 0, .int .u64 0, .int .u64 0]
    have q0 := hb.cell (i := 0) rfl
    have q1 := hb.cell (i := 1) rfl
    have q2 := hb.cell (i := 2) rfl
    have q3 := hb.cell (i := 3) rfl
    have q4 := hb.cell (i := 4) rfl
    have q5 := hb.cell (i := 5) rfl
    have HB3 := Lib.hid hb
    obtain ⟨K, hK⟩ : ∃ K, K = w3.heap.size := ⟨_, rfl⟩
    clear hb
    go_wp2_with fail
    refine (HM.out _).mono ?_
    rintro e w4 ⟨rfl, hk4⟩
    rw [← hK]
    rw [← hK] at HB3
    have HI : Hid (SetsI w1 S K B s c 0 (SX.first s c) 0 (fmtD 1026 s c) w4) := Lib.hid (by
      have hka := ((Keeps.refl (fun _ => False) w3).alloc (.cells #[.int .i64 s, .int .i64 c, .int .u64 0, .int .u64 0, .int .u64 0, .int .u64 0] 71)).trans hk4
      refine ⟨(HD3.out.more hka).less ?_, hka.blk HS3.out id, hk4.blk HB3.out id, fmt_live _ _ _, rfl, rfl, HFK.out, fmt_fine _ _ _, rfl, rfl, Int.le_refl 0⟩
      rintro k (rfl | rfl)
      · exact .inl (.inr rfl)
      · refine .inr ⟨by omega, ?_⟩
        have := HB3.out.lt
        have := hk4.size
        omega)
    clear hk4 q0 q1 q2 q3 q4 q5 hK
    go_wp2_with fail
    clear HF HM HFK HMM HD2 HD3 HS3 HB3
    go_loopw [11, 53] (fun tv iv wr => ∃ (i : Nat) (t : Int) (x : SX) (D : DD), i ≤ n ∧ i ≤ 12 ∧ iv = .int .i64 i ∧ tv = .int .u64 t ∧ SetsI w1 S K B s c i x t D wr) (fun _ iv _ => n - (intOf iv).toNat)
    case atStart => exact ⟨0, 0, SX.first s c, fmtD 1026 s c, by omega, by omega, rfl, rfl, HI.out⟩
    case round =>
      obtain ⟨i, t, x, D, hin, hi12, rfl, rfl, hI⟩ := hrel
      have HI2 := Lib.hid hI
      have HKW : Hid (Keeps (fun _ => False) w wr) := Lib.hid (HK1.out.trans hI.dr.keep)
      clear hI HI
      by_cases hlt : i < n
      · have hlt' : (i : Int) < (n : Int) := by omega
        obtain ⟨y, hy⟩ : ∃ y, l[i]? = some y := ⟨_, List.getElem?_eq_getElem (by omega)⟩
        obtain ⟨b, off, rfl, hb, hrow⟩ := HR.out.2 i y hy
        have g : ∀ j v, y.cells[j]? = some v → wr.cell? ⟨b, off + i * 6 + j, none⟩ = some v := fun j v hv => (HKW.out.cell (p := ⟨b, off + i * 6 + j, none⟩) hb id).trans (hrow j v hv)
        have g0 := g 0 _ rfl
        have g1 := g 1 _ rfl
        have g2 := g 2 _ rfl
        have g3 := g 3 _ rfl
        have g4 := g 4 _ rfl
        have g5 := g 5 _ rfl
        rw [Nat.add_zero] at g0
        have HYW := Lib.hid (HWF.out y (List.mem_of_getElem? hy))
        clear g hrow hy
        obtain ⟨ysg, ysc, yge, yre, yrs, yfl⟩ := y
        dsimp only at g0 g1 g2 g3 g4 g5
        by_cases h12 : i = 12
        · subst h12
          go_wp2_with fail
          go_ret
          exact ⟨rfl, HKW.out.alloc _⟩
        · have e12 : decide ((i : Int) = 12) = false := by simp; omega
          obtain ⟨xsg, xsc, xge, xre, xrs, xfl⟩ := x
          obtain ⟨W0, hW0⟩ : ∃ W0, W0 = wr.alloc (.cells #[.int .i64 ysg, .int .i64 ysc, .int .u64 yge, .int .u64 yre, .int .u64 yrs, .int .u64 yfl] 71) := ⟨_, rfl⟩
          have k0 : Keeps (fun _ => False) wr W0 := by rw [hW0]; exact (Keeps.refl _ _).alloc _
          have hby : Blk W0 wr.heap.size 71 [.int .i64 ysg, .int .i64 ysc, .int .u64 yge, .int .u64 yre, .int .u64 yrs, .int .u64 yfl] := by rw [hW0]; exact Blk.new wr 71 _
          have hbk := k0.blk HI2.out.kn id
          have hKy : K ≠ wr.heap.size := Nat.ne_of_lt HI2.out.kn.lt
          have HBY := Lib.hid hby
          have HBK := Lib.hid hbk
          have HK0 := Lib.hid k0
          have HDR0 := Lib.hid (HI2.out.dr.more k0)
          have ht0 := HI2.out.known.t0
          have hti := HI2.out.ti
          have HSG : Hid (xsg = s ∧ xsc = c) := Lib.hid ⟨HI2.out.sg, HI2.out.sc⟩
          obtain ⟨r, hr⟩ : ∃ r, r = setS D ⟨xsg, xsc, xge, xre, xrs, xfl⟩ t ⟨ysg, ysc, yge, yre, yrs, yfl⟩ := ⟨_, rfl⟩
          have HTO := Lib.hid (set_told HI2.out.al HI2.out.p (by rw [HI2.out.n]; decide) HI2.out.known (by omega) HYW.out hr)
          have HRR := Lib.hid hr
          have HMY : Hid (∀ W, Calls Try.prog 40 #[SX.val ⟨ysg, ysc, yge, yre, yrs, yfl⟩] W (BoolP (SX.mayB ⟨ysg, ysc, yge, yre, yrs, yfl⟩) W)) := Lib.hid (fun W => rmay_any _ W)
          unfold SX.val SX.cells at HMY
          unfold SX.cells at HBK
          unfold BoolP at HMY
          dsimp only at HMY HBK
          have hwr : IntKind.u64.wrap (t + 1) = t + 1 := IntWalk.u64_in _ (by omega)
          have HWR := Lib.hid hwr
          clear hwr hbk hby k0 hr
          have HF2 : Hid (∀ wx, Keeps (fun _ => False) W0 wx → (SX.mayB ⟨ysg, ysc, yge, yre, yrs, yfl⟩ = false ∨ ysg ≠ xsg ∨ ysc ≠ xsc) → SwR W0 K D ⟨xsg, xsc, xge, xre, xrs, xfl⟩ t ⟨ysg, ysc, yge, yre, yrs, yfl⟩ (.int .u64 t) (.int .i64 2) wx) := Lib.hid (fun wx hk hb => by
            obtain ⟨e1, e2, e3⟩ := HTO.out.2.1 hb
            rw [HRR.out] at e1 e2 e3
            exact ⟨by rw [e3], by rw [e1], by rw [e2]; exact hk.blk HBK.out id, hk.mono fun _ _ h => h.elim⟩)
          have HF171 : Hid (∀ wx, Keeps (fun _ => False) W0 wx → ¬ (SX.mayB ⟨ysg, ysc, yge, yre, yrs, yfl⟩ = false ∨ ysg ≠ xsg ∨ ysc ≠ xsc) → SX.lowB ⟨ysg, ysc, yge, yre, yrs, yfl⟩ ⟨xsg, xsc, xge, xre, xrs, xfl⟩ = true → SwR W0 K D ⟨xsg, xsc, xge, xre, xrs, xfl⟩ t ⟨ysg, ysc, yge, yre, yrs, yfl⟩ (.int .u64 t) (.int .i64 171) wx) := Lib.hid (fun wx hk hb hl => by
            obtain ⟨e1, e2, e3⟩ := HTO.out.2.2.1 hb hl
            rw [HRR.out] at e1 e2 e3
            exact ⟨by rw [e3], by rw [e1], by rw [e2]; exact hk.blk HBK.out id, hk.mono fun _ _ h => h.elim⟩)
          have HF0 : Hid (∀ wx, Keeps (fun _ => False) W0 wx → ¬ (SX.mayB ⟨ysg, ysc, yge, yre, yrs, yfl⟩ = false ∨ ysg ≠ xsg ∨ ysc ≠ xsc) → SX.lowB ⟨ysg, ysc, yge, yre, yrs, yfl⟩ ⟨xsg, xsc, xge, xre, xrs, xfl⟩ = false → SwR W0 K D ⟨xsg, xsc, xge, xre, xrs, xfl⟩ t ⟨ysg, ysc, yge, yre, yrs, yfl⟩ (.int .u64 (t + 1)) (.int .i64 0) ((((((wx.setCell ⟨K, 0, none⟩ (.int .i64 ysg)).setCell ⟨K, 1, none⟩ (.int .i64 ysc)).setCell ⟨K, 2, none⟩ (.int .u64 yge)).setCell ⟨K, 3, none⟩ (.int .u64 yre)).setCell ⟨K, 4, none⟩ (.int .u64 yrs)).setCell ⟨K, 5, none⟩ (.int .u64 yfl))) := Lib.hid (fun wx hk hb hl => by
            obtain ⟨e1, e2, e3⟩ := HTO.out.2.2.2 hb hl
            rw [HRR.out] at e1 e2 e3
            obtain ⟨b1, b2⟩ := over71 (y := ⟨xsg, xsc, xge, xre, xrs, xfl⟩) (hk.blk HBK.out id) ⟨ysg, ysc, yge, yre, yrs, yfl⟩
            exact ⟨by rw [e3], by rw [e1], by rw [e2]; exact b1, (hk.mono fun _ _ h => h.elim).trans b2⟩)
          have HSC : Hid (∀ W, Keeps (fun _ => False) W0 W → Blk W wr.heap.size 71 [.int .i64 ysg, .int .i64 ysc, .int .u64 yge, .int .u64 yre, .int .u64 yrs, .int .u64 yfl] ∧ Blk W K 71 [.int .i64 xsg, .int .i64 xsc, .int .u64 xge, .int .u64 xre, .int .u64 xrs, .int .u64 xfl]) := Lib.hid (fun W hk => ⟨hk.blk HBY.out id, hk.blk HBK.out id⟩)
          go_upto_block 2 with fail
          rw [← hW0]
          obtain ⟨rfl, rfl⟩ := HSG.out
          clear g0 g1 g2 g3 g4 g5 hW0
          go_cut [11, 14] (fun a b wx => SwR W0 K D ⟨xsg, xsc, xge, xre, xrs, xfl⟩ t ⟨ysg, ysc, yge, yre, yrs, yfl⟩ a b wx)
          case first =>
            have hby := (HSC.out W0 (Keeps.refl _ _)).1
            have y0 := hby.cell (i := 0) rfl
            have y1 := hby.cell (i := 1) rfl
            have y2 := hby.cell (i := 2) rfl
            have y3 := hby.cell (i := 3) rfl
            have y4 := hby.cell (i := 4) rfl
            have y5 := hby.cell (i := 5) rfl
            clear hby
            obtain ⟨mb, hmb⟩ : ∃ mb, mb = SX.mayB ⟨ysg, ysc, yge, yre, yrs, yfl⟩ := ⟨_, rfl⟩
            rw [← hmb] at HMY
            have HMB := Lib.hid hmb
            clear hmb
            cases mb
            · go_wp2_with fail
              refine (HMY.out _).mono ?_
              rintro e w4 ⟨rfl, hk4⟩
              have HK4 := Lib.hid hk4
              clear hk4
              go_wp2_with fail
              go_meet
              exact HF2.out _ HK4.out (.inl HMB.out.symm)
            · go_wp2_with fail
              refine (HMY.out _).mono ?_
              rintro e w4 ⟨rfl, hk4⟩
              have HK4 := Lib.hid hk4
              obtain ⟨hby, hbk⟩ := HSC.out w4 hk4
              have y0 := hby.cell (i := 0) rfl
              have y1 := hby.cell (i := 1) rfl
              have y2 := hby.cell (i := 2) rfl
              have y3 := hby.cell (i := 3) rfl
              have y4 := hby.cell (i := 4) rfl
              have y5 := hby.cell (i := 5) rfl
              have x0 := hbk.cell (i := 0) rfl
              have x1 := hbk.cell (i := 1) rfl
              have x2 := hbk.cell (i := 2) rfl
              have x3 := hbk.cell (i := 3) rfl
              have x4 := hbk.cell (i := 4) rfl
              have x5 := hbk.cell (i := 5) rfl
              have f0 := hbk.free 0
              have f1 := hbk.free 1
              have f2 := hbk.free 2
              have f3 := hbk.free 3
              have f4 := hbk.free 4
              have f5 := hbk.free 5
              clear hk4 hby hbk
              by_cases q1 : ysg = xsg
              · subst q1
                by_cases q2 : ysc = xsc
                · subst q2
                  have HNB : Hid (¬ (SX.mayB ⟨ysg, ysc, yge, yre, yrs, yfl⟩ = false ∨ ysg ≠ ysg ∨ ysc ≠ ysc)) := Lib.hid (by rw [← HMB.out]; simp)
                  have HLB : Hid ((SX.lowB ⟨ysg, ysc, yge, yre, yrs, yfl⟩ ⟨ysg, ysc, xge, xre, xrs, xfl⟩) = (decide (yge < xge) || decide (yre < xre) || decide (yrs < xrs) || decide (yfl < xfl))) := Lib.hid rfl
                  by_cases g1 : yge < xge
                  · have e1 : decide (yge < xge) = true := by simpa using g1
                    go_wp2_with fail
                    go_meet
                    exact HF171.out _ HK4.out HNB.out (by rw [HLB.out, e1]; simp)
                  · have e1 : decide (yge < xge) = false := by simpa using g1
                    by_cases g2 : yre < xre
                    · have e2 : decide (yre < xre) = true := by simpa using g2
                      go_wp2_with fail
                      go_meet
                      exact HF171.out _ HK4.out HNB.out (by rw [HLB.out, e2]; simp)
                    · have e2 : decide (yre < xre) = false := by simpa using g2
                      by_cases g3 : yrs < xrs
                      · have e3 : decide (yrs < xrs) = true := by simpa using g3
                        go_wp2_with fail
                        go_meet
                        exact HF171.out _ HK4.out HNB.out (by rw [HLB.out, e3]; simp)
                      · have e3 : decide (yrs < xrs) = false := by simpa using g3
                        by_cases g4 : yfl < xfl
                        · have e4 : decide (yfl < xfl) = true := by simpa using g4
                          go_wp2_with fail
                          go_meet
                          exact HF171.out _ HK4.out HNB.out (by rw [HLB.out, e4]; simp)
                        · have e4 : decide (yfl < xfl) = false := by simpa using g4
                          go_wp2_with fail
                          go_meet
                          exact HF0.out _ HK4.out HNB.out (by rw [HLB.out, e1, e2, e3, e4]; rfl)
                · have e1 : decide (ysc = xsc) = false := by simp [q2]
                  go_wp2_with fail
                  go_meet
                  exact HF2.out _ HK4.out (.inr (.inr q2))
              · have e1 : decide (ysg = xsg) = false := by simp [q1]
                go_wp2_with fail
                go_meet
                exact HF2.out _ HK4.out (.inr (.inl q1))
          case rest =>
            unfold SwR at hcut
            rw [← HRR.out] at hcut
            obtain ⟨rfl, rfl, hkc, hk4⟩ := hcut
            obtain ⟨w4, rfl⟩ : ∃ w4, w4 = wc := ⟨_, rfl⟩
            have hfin := HI2.out.fine
            have hst := hk4.blk (HK0.out.blk HI2.out.st id) (HI2.out.st.ne HI2.out.kn (by decide))
            have hsk : S ≠ K := HI2.out.st.ne HI2.out.kn (by decide)
            have hsy : wr.heap.size ≠ S := Ne.symm (Nat.ne_of_lt HI2.out.st.lt)
            have hby4 := hk4.blk HBY.out (fun e => hKy e.symm)
            obtain ⟨R0, hR0⟩ : ∃ R0 : Nat → Prop, R0 = fun k => (k = S ∨ k = K) ∨ (wr.heap.size ≤ k ∧ k < W0.heap.size) := ⟨_, rfl⟩
            have hd4 := HDR0.out.turn (hk4.mono fun k _ e => .inl (.inr e))
            rw [← hR0] at hd4
            have HR0 : Hid (R0 S ∧ R0 K ∧ R0 wr.heap.size ∧ ∀ k, k = S ∨ k = K → R0 k) := Lib.hid (by
              rw [hR0]
              exact ⟨.inl (.inl rfl), .inl (.inr rfl), .inr ⟨Nat.le_refl _, HBY.out.lt⟩, fun k h => .inl h⟩)
            have HST : Hid (∀ W, Keeps (fun _ => False) w4 W → Calls Try.prog 41 #[.pointer (some ⟨S, 0, none⟩), SX.val ⟨ysg, ysc, yge, yre, yrs, yfl⟩] W (SetP w1 R0 B S (setS D ⟨xsg, xsc, xge, xre, xrs, xfl⟩ t ⟨ysg, ysc, yge, yre, yrs, yfl⟩) W)) := Lib.hid (fun W hk => set_any (m := 898 - 4 * i) (hd4.quiet hk) HR0.out.1 ⟨xsg, xsc, xge, xre, xrs, xfl⟩ t (hk.blk hst id) HI2.out.known.wf HI2.out.known.t0 HI2.out.known.t1 (hfin.less (by omega)) ⟨ysg, ysc, yge, yre, yrs, yfl⟩ HYW.out)
            have HFN : Hid (Fine (898 - 4 * i) (setS D ⟨xsg, xsc, xge, xre, xrs, xfl⟩ t ⟨ysg, ysc, yge, yre, yrs, yfl⟩).2.1) := Lib.hid (set_fine (hfin.less (by omega)) _ _ _)
            rw [← HRR.out] at HST HFN
            have HTT := Lib.hid HTO.out.1
            obtain ⟨rc, rD, rx, rt⟩ := r
            obtain ⟨nsg, nsc, nge, nre, nrs, nfl⟩ := rx
            unfold SetP at HST
            unfold SX.val at HST
            unfold SX.cells at hkc
            dsimp only at HST HFN HTT hkc
            have HFA : Hid (∀ W, Keeps (fun k => ¬ R0 k ∨ k = S) w4 W → W.cell? ⟨wr.heap.size, 0, none⟩ = some (.int .i64 ysg) ∧ W.cell? ⟨wr.heap.size, 1, none⟩ = some (.int .i64 ysc) ∧ W.cell? ⟨wr.heap.size, 2, none⟩ = some (.int .u64 yge) ∧ W.cell? ⟨wr.heap.size, 3, none⟩ = some (.int .u64 yre) ∧ W.cell? ⟨wr.heap.size, 4, none⟩ = some (.int .u64 yrs) ∧ W.cell? ⟨wr.heap.size, 5, none⟩ = some (.int .u64 yfl) ∧ W.cell? ⟨K, 0, none⟩ = some (.int .i64 nsg) ∧ W.cell? ⟨K, 1, none⟩ = some (.int .i64 nsc) ∧ W.cell? ⟨K, 2, none⟩ = some (.int .u64 nge) ∧ W.cell? ⟨K, 3, none⟩ = some (.int .u64 nre) ∧ W.cell? ⟨K, 4, none⟩ = some (.int .u64 nrs) ∧ W.cell? ⟨K, 5, none⟩ = some (.int .u64 nfl)) := Lib.hid (fun W hk => by
              have h1 := hk.blk hby4 (fun h => h.elim (fun hn => hn HR0.out.2.2.1) hsy)
              have h2 := hk.blk hkc (fun h => h.elim (fun hn => hn HR0.out.2.1) (Ne.symm hsk))
              exact ⟨h1.cell (i := 0) rfl, h1.cell (i := 1) rfl, h1.cell (i := 2) rfl, h1.cell (i := 3) rfl, h1.cell (i := 4) rfl, h1.cell (i := 5) rfl, h2.cell (i := 0) rfl, h2.cell (i := 1) rfl, h2.cell (i := 2) rfl, h2.cell (i := 3) rfl, h2.cell (i := 4) rfl, h2.cell (i := 5) rfl⟩)
            have HKC := Lib.hid hkc
            have hrt0 := HTT.out.2.2.2.1.t0
            have hrt1 := HTT.out.2.2.2.2.2.2
            have HPN : Hid (∀ W, Dr w1 W R0 B rD → Calls Try.prog 33 #[.pointer (some ⟨B, 0, none⟩)] W fun e w' => ∃ a c, e = .returned (.slice a 0 c) ∧ Keeps (fun _ => False) W w') := Lib.hid (fun W hd => by
              refine hd.pending.mono ?_
              rintro e w' ⟨rv, rfl, ho, hk⟩
              obtain ⟨a, c, rfl, _⟩ := own_slice ho
              rw [HTT.out.2.1]
              exact ⟨a, c, rfl, hk⟩)
            obtain ⟨Z, hZ⟩ : ∃ Z, Z = sup ⟨nsg, nsc, nge, nre, nrs, nfl⟩ rt := ⟨_, rfl⟩
            have hZl : Z.length = 64 := by rw [hZ]; exact sup_len _ _
            have HRD : Hid (∀ W, Dr w1 W R0 B rD → Calls Try.prog 27 #[.pointer (some ⟨B, 0, none⟩), .int .i64 (rt % 2)] W (DrR w1 R0 B rD.tick Z 0 W)) := Lib.hid (fun W hd => by
              have h := hd.read (HFN.out.less (by omega)) (rt % 2)
              rw [HTT.out.1.read HTT.out.2.1 (by omega) (by rw [HTT.out.2.2.1, HI2.out.n]; omega), HTT.out.2.2.2.1.here, ← hZ] at h
              exact h)
            have HRB : Hid (∀ W, Calls Try.prog 43 #[SX.val ⟨nsg, nsc, nge, nre, nrs, nfl⟩, .int .u64 rt] W (RBlkP ⟨nsg, nsc, nge, nre, nrs, nfl⟩ rt W)) := Lib.hid (fun W => rblock_any ⟨nsg, nsc, nge, nre, nrs, nfl⟩ HTT.out.2.2.2.1.may HTT.out.2.2.2.1.wf rt ⟨by omega, by omega⟩ W)
            unfold RBlkP at HRB
            rw [← hZ] at HRB
            unfold SX.val SX.cells at HRB
            dsimp only at HRB
            have hE1 : ∀ W, (Op.equalIn 10000 71 (.agg #[.int .i64 nsg, .int .i64 nsc, .int .u64 nge, .int .u64 nre, .int .u64 nrs, .int .u64 nfl]) (.agg #[.int .i64 nsg, .int .i64 nsc, .int .u64 nge, .int .u64 nre, .int .u64 nrs, .int .u64 nfl])).run Try.prog W = .ok true W := fun W => by rw [eq71]; simp
            have hE2 : ∀ W, (Op.equalIn 10000 27 (.agg (bk Z).toArray) (.agg (bk Z).toArray)).run Try.prog W = .ok true W := fun W => eq27_self Z hZl W
            clear hd4 hst hby4 hkc hZ hR0 HF2 HF171 HF0 HSC HMY hfin
            go_upto_region 23 with fail
            go_region_held3 (fun W => W.cell? ⟨wr.heap.size, 0, none⟩ = some (.int .i64 ysg) ∧ W.cell? ⟨wr.heap.size, 1, none⟩ = some (.int .i64 ysc) ∧ W.cell? ⟨wr.heap.size, 2, none⟩ = some (.int .u64 yge) ∧ W.cell? ⟨wr.heap.size, 3, none⟩ = some (.int .u64 yre) ∧ W.cell? ⟨wr.heap.size, 4, none⟩ = some (.int .u64 yrs) ∧ W.cell? ⟨wr.heap.size, 5, none⟩ = some (.int .u64 yfl) ∧ W.cell? ⟨K, 0, none⟩ = some (.int .i64 nsg) ∧ W.cell? ⟨K, 1, none⟩ = some (.int .i64 nsc) ∧ W.cell? ⟨K, 2, none⟩ = some (.int .u64 nge) ∧ W.cell? ⟨K, 3, none⟩ = some (.int .u64 nre) ∧ W.cell? ⟨K, 4, none⟩ = some (.int .u64 nrs) ∧ W.cell? ⟨K, 5, none⟩ = some (.int .u64 nfl)) (first | exact HFA.out _ (Keeps.refl _ _).drew | exact HFA.out _ hk5' | exact HFA.out _ hk6' | exact HFA.out _ hk7') (first
              | (go_at_call 41; refine (HST.out _ (Keeps.refl _ _).drew).mono ?_; rintro e w5 ⟨rfl, hd5, hs5, hk5⟩; have hk5' : Keeps (fun k => ¬ R0 k ∨ k = S) w4 w5 := ((Keeps.refl _ _).drew).trans hk5; have HG5 := Lib.hid (get_any S ⟨nsg, nsc, nge, nre, nrs, nfl⟩ rt ⟨B, undef, undef⟩ w5 hs5); unfold SXP SX.val SX.cells at HG5; dsimp only at HG5; have HD5 := Lib.hid hd5; have HS5 := Lib.hid hs5; clear hd5 hs5 hk5)
              | (go_at_call 42; refine HG5.out.mono ?_; rintro e w6 ⟨rfl, hk6⟩; have hk6' : Keeps (fun k => ¬ R0 k ∨ k = S) w4 w6 := hk5'.trans (hk6.mono fun _ _ h => h.elim); have HD6 := Lib.hid (HD5.out.quiet hk6); have HS6 := Lib.hid (hk6.blk HS5.out id); clear hk6)
              | (go_at_call 33; refine (HPN.out _ HD6.out).mono ?_; rintro e w7 ⟨pa, pc, rfl, hk7⟩; have hk7' : Keeps (fun k => ¬ R0 k ∨ k = S) w4 w7 := hk6'.trans (hk7.mono fun _ _ h => h.elim); have HD7 := Lib.hid (HD6.out.quiet hk7); have HS7 := Lib.hid (hk7.blk HS6.out id); clear hk7))
            rename_i hHeld
            clear hHeld
            have HK7 := Lib.hid hk7'
            clear hk5' hk6' hk7' HST HG5
            go_wp2_with fail
            refine (HRD.out _ HD7.out).mono ?_
            rintro e w8 ⟨rfl, hd8, hk8⟩
            have hzz : (bk Z).length = 64 := by rw [bk_len, hZl]
            have hone : oneAll (bk Z).toArray = true := one_bk _
            have hz64 : (bk zb).toArray.size = 64 := by simp [bk_len, zb_len]
            go_upto_region 26 with fail
            obtain ⟨W9, hW9⟩ : ∃ W9, W9 = w8.alloc (.cells (bk Z).toArray 27) := ⟨_, rfl⟩
            have k9 : Keeps (fun _ => False) w8 W9 := by rw [hW9]; exact (Keeps.refl _ _).alloc _
            have hz9 : Blk W9 w8.heap.size 27 (bk Z) := by rw [hW9]; exact Blk.new w8 27 _
            rw [← hW9]
            have hkc9 : Blk W9 K 71 [.int .i64 nsg, .int .i64 nsc, .int .u64 nge, .int .u64 nre, .int .u64 nrs, .int .u64 nfl] := k9.blk (hk8.blk (HK7.out.blk HKC.out (fun h => h.elim (fun hn => hn HR0.out.2.1) (Ne.symm hsk))) (fun hn => hn HR0.out.2.1)) id
            have hs9 := k9.blk (hk8.blk HS7.out (fun hn => hn HR0.out.1)) id
            have hd9 := hd8.quiet k9
            have HFB : Hid (∀ W, Keeps (fun _ => False) W9 W → W.cell? ⟨K, 0, none⟩ = some (.int .i64 nsg) ∧ W.cell? ⟨K, 1, none⟩ = some (.int .i64 nsc) ∧ W.cell? ⟨K, 2, none⟩ = some (.int .u64 nge) ∧ W.cell? ⟨K, 3, none⟩ = some (.int .u64 nre) ∧ W.cell? ⟨K, 4, none⟩ = some (.int .u64 nrs) ∧ W.cell? ⟨K, 5, none⟩ = some (.int .u64 nfl) ∧ W.rangeAt w8.heap.size 0 (bk Z)) := Lib.hid (fun W hk => by
              have h2 := hk.blk hkc9 id
              exact ⟨h2.cell (i := 0) rfl, h2.cell (i := 1) rfl, h2.cell (i := 2) rfl, h2.cell (i := 3) rfl, h2.cell (i := 4) rfl, h2.cell (i := 5) rfl, fun j v hv => by rw [Nat.zero_add]; exact (hk.blk hz9 id).cell hv⟩)
            have HFIN : Hid (∀ W, Keeps (fun _ => False) W9 W → SetsI w1 S K B xsg xsc (i + 1) ⟨nsg, nsc, nge, nre, nrs, nfl⟩ rt rD.tick W) := Lib.hid (fun W hk => by
              obtain ⟨h1, h2, h3, h4, h5, h6, h7⟩ := HTT.out
              refine ⟨(hd9.quiet hk).less HR0.out.2.2.2, hk.blk hs9 id, hk.blk hkc9 id, h1.tick, h2, h3.trans HI2.out.n, h4, (HFN.out.less (j := 900 - 4 * (i + 1) + 1) (by omega)).tick, h5, h6, ?_⟩
              have := HI2.out.ti
              omega)
            clear hd8 hk8 k9 hz9 hW9 hkc9 hs9 hd9 HFA HKC HK7 HS7 HD7 HPN HRD HTT HFN HS6 HD6 HS5 HD5
            have hu27 := Try.underlying27
            have hs27 : (Try.prog.info? 27).map (·.size) = some (bk Z).length := by rw [hzz]; kernel_rfl
            first
            | go_region_held3 (fun W => W.cell? ⟨K, 0, none⟩ = some (.int .i64 nsg) ∧ W.cell? ⟨K, 1, none⟩ = some (.int .i64 nsc) ∧ W.cell? ⟨K, 2, none⟩ = some (.int .u64 nge) ∧ W.cell? ⟨K, 3, none⟩ = some (.int .u64 nre) ∧ W.cell? ⟨K, 4, none⟩ = some (.int .u64 nrs) ∧ W.cell? ⟨K, 5, none⟩ = some (.int .u64 nfl) ∧ W.rangeAt w8.heap.size 0 (bk Z)) (first | exact HFB.out _ (Keeps.refl _ _).drew | exact HFB.out _ hk10') (first
                | (go_at_call 43; refine (HRB.out _).mono ?_; rintro e w10 ⟨rfl, hk10⟩; have hk10' : Keeps (fun _ => False) W9 w10 := (Keeps.refl (fun _ => False) W9).drew.trans hk10))
            | fail
            rename_i hHeld
            clear hHeld
            have HFI := Lib.hid (HFIN.out _ hk10')
            clear hk10 hk10' HFIN HFB HRB
            go_wp2_with fail
            go_roundw
            case rel => exact ⟨i + 1, rt, ⟨nsg, nsc, nge, nre, nrs, nfl⟩, rD.tick, by omega, by omega, by go_num, rfl, HFI.out⟩
            case measure => simp [intOf]; omega
      · obtain rfl : i = n := by omega
        go_wp2_with fail
        go_ret
        exact ⟨rfl, HKW.out⟩
end Go.Proofs.Ytjiammhmeliogaa
