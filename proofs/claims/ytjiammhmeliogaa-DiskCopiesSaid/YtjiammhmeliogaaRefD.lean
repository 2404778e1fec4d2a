/- The document's disk: Read. -/
import Derived.Test.YtjiammhmeliogaaRefC
namespace Go.Proofs.Ytjiammhmeliogaa
open Go.RowKit
set_option linter.unusedVariables false
set_option linter.unusedSimpArgs false

/-- A disk, a block behind it. -/
theorem start43_27 (w : World) (A : List Value) {W0 : World} (h : W0 = ((w.alloc (.cells A.toArray 43)).alloc (.cells z43.toArray 43)).alloc (.cells (bk zb).toArray 27)) :
    Blk W0 w.heap.size 43 A ∧ Blk W0 (w.heap.size + 1) 43 z43 ∧ Blk W0 (w.heap.size + 1 + 1) 27 (bk zb) ∧ Keeps (fun _ => False) w W0 ∧ W0.heap.size = w.heap.size + 3 := by
  obtain ⟨h1, h2, h3, h4⟩ := start43 w A rfl
  subst h
  refine ⟨h1.alloc _, h2.alloc _, ?_, h3.alloc _, by simp⟩
  have := Blk.new ((w.alloc (.cells A.toArray 43)).alloc (.cells z43.toArray 43)) 27 (bk zb)
  rwa [World.size_alloc, World.size_alloc] at this

/-- A block as a row. -/
theorem blk_row {W : World} {b t : Nat} {cs : List Value} (h : Blk W b t cs) {n : Nat} (hn : cs.length = n) : HasRow W b 0 n ∧ rowAt W b 0 n = cs ∧ MayRow W b 0 n := by
  have hr : W.rangeAt b 0 cs := fun j v hv => by rw [Nat.zero_add]; exact h.cell hv
  exact ⟨hasRow_of hr hn, rowAt_of hr hn, fun j hj => ⟨by rw [Nat.zero_add, h.cell (List.getElem?_eq_getElem (by omega))]; rfl, by rw [Nat.zero_add]; exact h.free j⟩⟩
/-- A row stored over the whole of a block of its own. -/
theorem blk_overT {w : World} {g t : Nat} {old cs : List Value} (h : Blk w g t old) (hl : cs.length = old.length) : Blk (w.setCells g 0 cs) g t cs := by
  obtain ⟨cur', h1, h2⟩ := setCells_heap g t cs 0 w old.toArray h (by simp; omega)
  unfold Blk
  rw [h1]
  congr 2
  apply Array.ext'
  rw [h2]
  simp [hl]
theorem blk_beside {w : World} {g b t : Nat} {old : List Value} (h : Blk w g t old) (hne : g ≠ b) (o : Nat) (cs : List Value) : Blk (w.setCells b o cs) g t old := (setCells_keeps b cs o w).blk h hne
theorem may_beside {w : World} {g b t n : Nat} {old : List Value} (h : Blk w g t old) (hne : g ≠ b) (hn : old.length = n) : ∀ (o : Nat) (cs : List Value), MayRow (w.setCells b o cs) g 0 n := fun o cs => (blk_row (blk_beside h hne o cs) hn).2.2
theorem exec_load43 (ρ : Operand → Value) (dst : Option Tmp) (ty : TypeId) (pos : String) (after : Array Edge) (guard : Option (Nat × Bool)) (x : Operand) (w : World) (h : ρ x = .pointer (some ⟨(padr (ρ x)).block, (padr (ρ x)).off, none⟩)) (hr : HasRow w (padr (ρ x)).block (padr (ρ x)).off 6) :
    (execOp ρ ⟨dst, .load 43 x, ty, pos, after, guard⟩).run Try.prog w = .ok (.value (.agg (rowAt w (padr (ρ x)).block (padr (ρ x)).off 6).toArray)) w := by
  have hl := run_loadAt_mid (P := Try.prog) w (padr (ρ x)).block (padr (ρ x)).off 43 _ _ (rowAt_range hr) Try.underlying43 rfl (row43 _ (by simp [rowAt]))
  rw [← h] at hl
  unfold execOp
  simp only [Sem.run_bind, hl, Result.andThen_ok, Sem.run_pure]
theorem exec_store43 (ρ : Operand → Value) (dst : Option Tmp) (ty : TypeId) (pos : String) (after : Array Edge) (guard : Option (Nat × Bool)) (x y : Operand) (w : World) (h : ρ x = .pointer (some ⟨(padr (ρ x)).block, (padr (ρ x)).off, none⟩)) (hy : ρ y = .agg (ρ y).cells) (ht : MayRow w (padr (ρ x)).block (padr (ρ x)).off 6) (hc : (ρ y).cells.size = 6) (h1 : oneAll (ρ y).cells = true) :
    (execOp ρ ⟨dst, .store 43 x y, ty, pos, after, guard⟩).run Try.prog w = .ok .skip (w.setCells (padr (ρ x)).block (padr (ρ x)).off (ρ y).cells.toList) := by
  have hl := run_storeAt_mid (P := Try.prog) w (padr (ρ x)).block (padr (ρ x)).off 43 (ρ y).cells (by rw [hc]; exact ht) (by rw [hc]; kernel_rfl) h1
  rw [← h, ← hy] at hl
  unfold execOp
  simp only [Sem.run_bind, hl, Result.andThen_ok, Sem.run_pure]
theorem one_obj (sa qa : Option Addr) (sn sc qn qc : Nat) (d : Bool) (x y z : Int) : oneAll #[.slice sa sn sc, .slice qa qn qc, .bool d, .int .i64 x, .int .i64 y, .int .i64 z] = true := by simp [oneAll, Value.oneCell']
theorem load43_run (g o : Nat) (w : World) (hr : HasRow w g o 6) : (Instr.loadAt 43 (.pointer (some ⟨g, o, none⟩))).run Try.prog w = .ok (.agg (rowAt w g o 6).toArray) w :=
  run_loadAt_mid (P := Try.prog) w g o 43 _ _ (rowAt_range hr) Try.underlying43 rfl (row43 _ (by simp [rowAt]))
theorem loadVar43_run (g o : Nat) (w : World) (hr : HasRow w g o 6) : (loadVar 43 ⟨g, o, none⟩).run Try.prog w = .ok (.agg (rowAt w g o 6).toArray) w :=
  run_loadVar_mid (P := Try.prog) w g o 43 _ _ (rowAt_range hr) Try.underlying43 rfl (row43 _ (by simp [rowAt]))
theorem run_cells43 (g o : Nat) (cs : List Value) (w : World) (hl : cs.length = 6) (h : MayRow w g o 6) (h1 : oneAll cs.toArray = true) : (storeCells ⟨g, o, none⟩ cs).run Try.prog w = .ok () (w.setCells g o cs) := by
  have h1' : ∀ v ∈ cs, v.oneCell' = true := by
    intro v hv
    exact Array.all_eq_true_iff_forall_mem.1 h1 v (by simpa using hv)
  have := run_storeCells_cells (P := Try.prog) g o cs 0 w (fun j hj => by rw [Nat.add_zero]; exact (h j (by omega)).1) (fun j hj => by rw [Nat.add_zero]; exact (h j (by omega)).2) h1'
  rwa [Nat.add_zero] at this

attribute [local go_sem ↓] exec_new101 exec_load101 exec_load27 exec_store27 exec_new27 exec_alloc27 exec_build27 zeroValue27 exec_load43 exec_store43 loadVar43_run run_cells43
attribute [local go_sem] mayRow_drew padr_some rowAt_drew hasRow_drew rowAt_alloc hasRow_alloc zc101_size run_cells27 one_obj

/-- Read. -/
def RD.read (R : RD) (i : Int) : List Int × Int × RD := if (R.asked i).1 ≠ 0 then (zb, (R.asked i).1, (R.asked i).2) else (R.holds i.toNat, 0, { (R.asked i).2 with ops := R.ops + 1 })
def RReadP (sv pv : Value) (R : RD) (b : List Int) (c : Int) (w : World) (e : Ending) (w' : World) : Prop := e = .returned (.tuple #[rv sv pv R, .agg (bk b).toArray, .int .i64 c]) ∧ Keeps (fun _ => False) w w'
theorem six_keeps (X : World) (B : Nat) (v0 v1 v2 v3 v4 v5 : Value) : Keeps (fun k => k = B) X ((((((X.setCell ⟨B, 0, none⟩ v0).setCell ⟨B, 1, none⟩ v1).setCell ⟨B, 2, none⟩ v2).setCell ⟨B, 3, none⟩ v3).setCell ⟨B, 4, none⟩ v4).setCell ⟨B, 5, none⟩ v5) := (((((((Keeps.refl (fun k => k = B) X).at 0 v0).at 1 v1).at 2 v2).at 3 v3).at 4 v4).at 5 v5)
theorem may_six {X : World} {B B2 : Nat} (h2 : Blk X B2 27 (bk zb)) (hne : B2 ≠ B) (v0 v1 v2 v3 v4 v5 : Value) : MayRow ((((((X.setCell ⟨B, 0, none⟩ v0).setCell ⟨B, 1, none⟩ v1).setCell ⟨B, 2, none⟩ v2).setCell ⟨B, 3, none⟩ v3).setCell ⟨B, 4, none⟩ v4).setCell ⟨B, 5, none⟩ v5) B2 0 64 := (blk_row ((six_keeps X B v0 v1 v2 v3 v4 v5).blk h2 hne) (by rw [bk_len, zb_len])).2.2
/-- Both results are laid, the first cell by cell. -/
theorem both_six {w X : World} {B B2 : Nat} {cs zs : List Value} (h1 : Blk X B 43 zs) (h2 : Blk X B2 27 (bk zb)) (hz : zs.length = 6) (hne : B ≠ B2) (hc : cs.length = 64) (v0 v1 v2 v3 v4 v5 : Value) (hk : Keeps (fun k => w.heap.size ≤ k) w X) (hB : w.heap.size ≤ B) (hB2 : w.heap.size ≤ B2) :
    Blk (((((((X.setCell ⟨B, 0, none⟩ v0).setCell ⟨B, 1, none⟩ v1).setCell ⟨B, 2, none⟩ v2).setCell ⟨B, 3, none⟩ v3).setCell ⟨B, 4, none⟩ v4).setCell ⟨B, 5, none⟩ v5).setCells B2 0 cs) B 43 [v0, v1, v2, v3, v4, v5] ∧ Blk (((((((X.setCell ⟨B, 0, none⟩ v0).setCell ⟨B, 1, none⟩ v1).setCell ⟨B, 2, none⟩ v2).setCell ⟨B, 3, none⟩ v3).setCell ⟨B, 4, none⟩ v4).setCell ⟨B, 5, none⟩ v5).setCells B2 0 cs) B2 27 cs ∧ Keeps (fun _ => False) w (((((((X.setCell ⟨B, 0, none⟩ v0).setCell ⟨B, 1, none⟩ v1).setCell ⟨B, 2, none⟩ v2).setCell ⟨B, 3, none⟩ v3).setCell ⟨B, 4, none⟩ v4).setCell ⟨B, 5, none⟩ v5).setCells B2 0 cs) := by
  have hzl : (bk zb).length = 64 := by rw [bk_len, zb_len]
  have hk1 := six_keeps X B v0 v1 v2 v3 v4 v5
  refine ⟨blk_beside (six43 h1 hz v0 v1 v2 v3 v4 v5) hne 0 cs, blk_overT (hk1.blk h2 fun e => hne e.symm) (by omega), Keeps.from ((hk.trans (hk1.mono fun k _ e => by rw [show k = B from e]; exact hB)).trans ((setCells_keeps B2 cs 0 _).mono fun k _ e => by rw [show k = B2 from e]; exact hB2))⟩
/-- Both results are laid. -/
theorem both_laid {w X : World} {B B2 : Nat} {cs zs : List Value} (h1 : Blk X B 43 z43) (h2 : Blk X B2 27 (bk zb)) (hz : zs.length = 6) (hne : B ≠ B2) (hc : cs.length = 64) (hk : Keeps (fun k => w.heap.size ≤ k) w X) (hB : w.heap.size ≤ B) (hB2 : w.heap.size ≤ B2) :
    Blk ((X.setCells B 0 zs).setCells B2 0 cs) B 43 zs ∧ Blk ((X.setCells B 0 zs).setCells B2 0 cs) B2 27 cs ∧ Keeps (fun _ => False) w ((X.setCells B 0 zs).setCells B2 0 cs) := by
  have hzl : (bk zb).length = 64 := by rw [bk_len, zb_len]
  refine ⟨blk_beside (blk_overT h1 hz) hne 0 cs, blk_overT (blk_beside h2 (fun e => hne e.symm) 0 zs) (by omega), Keeps.from ((hk.trans ((setCells_keeps B zs 0 X).mono fun k _ e => by rw [show k = B from e]; exact hB)).trans ((setCells_keeps B2 cs 0 _).mono fun k _ e => by rw [show k = B2 from e]; exact hB2))⟩
set_option maxRecDepth 100000 in
set_option maxHeartbeats 4000000 in
theorem rread_any (sv pv : Value) (R : RD) (w : World) (h : RdAt w sv pv R) (hop : R.ops < 1000000000000) (i : Int) : Calls Try.prog 28 #[rv sv pv R, .int .i64 i] w (RReadP sv pv (R.read i).2.2 (R.read i).1 (R.read i).2.1 w) := by
  obtain ⟨sa, sc, rfl, _, hmx⟩ := own_slice h.safe
  obtain ⟨qa, qc, rfl, _, hqm⟩ := own_slice h.pend
  have HC := Lib.hid (asked_cases R i)
  have HS := Lib.hid (asked_same R i)
  have HL0 : Hid (∀ j, j < R.n → (R.holds j).length = 64) := Lib.hid (fun j hj => setl_len R.p 0 R.f R.n h.fl h.pl j hj)
  have o1 := h.o1
  obtain ⟨W0, hW0⟩ : ∃ W0, W0 = ((w.alloc (.cells (([.slice sa R.n sc, .slice qa R.p.length qc, .bool R.dead, .int .i64 R.left, .int .i64 R.fails, .int .i64 R.ops] : List Value)).toArray 43)).alloc (.cells z43.toArray 43)).alloc (.cells (bk zb).toArray 27) := ⟨_, rfl⟩
  obtain ⟨bA, bZ, bY, k0, s0⟩ := start43_27 w _ hW0
  have HAT := Lib.hid (asked_at h i)
  have HLT : Hid ((∀ g, (Value.slice sa R.n sc).ownBlock = some g → g < w.heap.size) ∧ ∀ g, (Value.slice qa R.p.length qc).ownBlock = some g → g < w.heap.size) := Lib.hid ⟨fun g hg => (own_heap h.safe hg).2.1, fun g hg => (own_heap h.pend hg).2.1⟩
  have HASK := Lib.hid (asked_any _ _ R W0 (h.quiet k0) i)
  obtain ⟨c, hc⟩ : ∃ c, c = (R.asked i).1 := ⟨_, rfl⟩
  obtain ⟨R1, hR1⟩ : ∃ R1, R1 = (R.asked i).2 := ⟨_, rfl⟩
  rw [← hc, ← hR1] at HASK
  rw [← hc] at HC
  rw [← hR1] at HS HAT
  have HE : Hid (R.read i = if c ≠ 0 then (zb, c, R1) else (R.holds i.toNat, 0, { R1 with ops := R.ops + 1 })) := Lib.hid (by
    unfold RD.read
    rw [hc, hR1])
  obtain ⟨ah, ar, am⟩ := blk_row bA (n := 6) rfl
  have HA := Lib.hid bA
  have HZ := Lib.hid bZ
  have HY := Lib.hid bY
  have HK0 := Lib.hid k0
  have hs1 : w.heap.size < W0.heap.size := by omega
  have hs0 : w.heap.size + 1 < W0.heap.size := by omega
  have HW0 : Hid (W0 = ((w.alloc (.cells #[.slice sa R.n sc, .slice qa R.p.length qc, .bool R.dead, .int .i64 R.left, .int .i64 R.fails, .int .i64 R.ops] 43)).alloc (.cells #[.slice none 0 0, .slice none 0 0, .bool false, .int .i64 0, .int .i64 0, .int .i64 0] 43)).alloc (.cells (bk zb).toArray 27)) := Lib.hid hW0
  have hzl : (bk zb).length = 64 := by rw [bk_len, zb_len]
  have hone : oneAll (bk zb).toArray = true := all_oneCell_toArray bk_one
  have hq : (rv (.slice sa R.n sc) (.slice qa R.p.length qc) R1) = .agg #[.slice sa R.n sc, .slice qa R.p.length qc, .bool R1.dead, .int .i64 R1.left, .int .i64 R1.fails, .int .i64 R1.ops] := rfl
  have HQ := Lib.hid hq
  clear h bA bZ bY k0 s0 hW0 hc hR1 hq
  unfold rv at HASK
  unfold rv
  go_enter Try.func28, Try.ntmps28
  go_upto_region 1 with (fail)
  rw [← HW0.out]
  go_wp2_with fail
  refine HASK.out.mono ?_
  rintro e w1 ⟨rfl, hk1⟩
  rw [HQ.out]
  have bA := hk1.blk HA.out id
  have bZ := hk1.blk HZ.out id
  have bY := hk1.blk HY.out id
  clear ah ar am
  obtain ⟨ah, ar, am⟩ := blk_row bA (n := 6) rfl
  have HK1 := Lib.hid hk1
  have HZ1 := Lib.hid bZ
  have HA1 := Lib.hid bA
  have HY1 := Lib.hid bY
  clear hk1 bA bZ bY
  go_upto_region 2 with (fail)
  obtain ⟨W2, hW2⟩ : ∃ W2, W2 = w1.setCells w.heap.size 0 [.slice sa R.n sc, .slice qa R.p.length qc, .bool R1.dead, .int .i64 R1.left, .int .i64 R1.fails, .int .i64 R1.ops] := ⟨_, rfl⟩
  have hk2 : Keeps (fun k => k = w.heap.size) w1 W2 := by rw [hW2]; exact setCells_keeps _ _ _ _
  have bA : Blk W2 w.heap.size 43 [.slice sa R.n sc, .slice qa R.p.length qc, .bool R1.dead, .int .i64 R1.left, .int .i64 R1.fails, .int .i64 R1.ops] := by rw [hW2]; exact blk_overT HA1.out rfl
  have bZ := hk2.blk HZ1.out (by omega)
  have bY := hk2.blk HY1.out (by omega)
  rw [← hW2]
  clear hW2 ah ar am
  obtain ⟨ah, ar, am⟩ := blk_row bA (n := 6) rfl
  have HA2 := Lib.hid bA
  have HZ2 := Lib.hid bZ
  have HY2 := Lib.hid bY
  have HK2 : Hid (Keeps (fun k => w.heap.size ≤ k) w W2) := Lib.hid (((HK0.out.trans HK1.out).mono fun _ _ h => h.elim).trans (hk2.mono fun k _ e => by rw [show k = w.heap.size from e]; exact Nat.le_refl _))
  by_cases hc : c = 0
  · subst hc
    have hin := HC.out.resolve_left (by simp)
    obtain ⟨i, rfl⟩ := Int.eq_ofNat_of_zero_le hin.2.1
    have hiN : i < R.n := by omega
    have hops : R1.ops = R.ops := HS.out.2.2.2.2.2
    have hops' : R1.ops < 1000000000000 := by omega
    have hops0 : 0 ≤ R1.ops := by omega
    have HOP := Lib.hid hops
    have d5 := bA.cell (i := 5) rfl
    have g5 := bA.free 5
    clear hin hops bA bZ bY hk2
    go_upto_region 5 with (fail)
    obtain ⟨W3, hW3⟩ : ∃ W3, W3 = W2.setCell ⟨w.heap.size, 5, none⟩ (.int .i64 (R1.ops + 1)) := ⟨_, rfl⟩
    have hk3 : Keeps (fun k => k = w.heap.size) W2 W3 := by rw [hW3]; exact (Keeps.refl _ _).at _ _
    have bA : Blk W3 w.heap.size 43 [.slice sa R.n sc, .slice qa R.p.length qc, .bool R1.dead, .int .i64 R1.left, .int .i64 R1.fails, .int .i64 (R1.ops + 1)] := by rw [hW3]; exact HA2.out.store 5 _
    have bZ := hk3.blk HZ2.out (by omega)
    have bY := hk3.blk HY2.out (by omega)
    rw [← hW3]
    clear hW3 d5 g5 ah ar am
    obtain ⟨ah, ar, am⟩ := blk_row bA (n := 6) rfl
    have HK3 : Hid (Keeps (fun k => w.heap.size ≤ k) w W3) := Lib.hid (HK2.out.trans (hk3.mono fun k _ e => by rw [show k = w.heap.size from e]; exact Nat.le_refl _))
    have HA3 := Lib.hid bA
    have HZ3 := Lib.hid bZ
    have HY3 := Lib.hid bY
    have hb3 := bA.lt
    have q0 := bA.cell (i := 0) rfl
    have q1 := bA.cell (i := 1) rfl
    have q2 := bA.cell (i := 2) rfl
    have q3 := bA.cell (i := 3) rfl
    have q4 := bA.cell (i := 4) rfl
    have q5 := bA.cell (i := 5) rfl
    have HRD : Hid (∀ X, Keeps (fun _ => False) W3 X → RdAt X (.slice sa R.n sc) (.slice qa R.p.length qc) { R1 with ops := R1.ops + 1 }) := Lib.hid (fun X hX => by
      have h2 := HAT.out.keep HK3.out (fun g hg e => absurd e (Nat.not_le.2 (HLT.out.1 g hg))) (fun g hg e => absurd e (Nat.not_le.2 (HLT.out.2 g hg)))
      exact (h2.turn (R' := { R1 with ops := R1.ops + 1 }) rfl rfl rfl (by show 0 ≤ R1.ops + 1; omega) (by show R1.ops + 1 ≤ _; omega) h2.l1 h2.l2 h2.f1 h2.f2).quiet hX)
    have HHO : Hid (RD.holds { R1 with ops := R1.ops + 1 } i = R.holds i) := Lib.hid (by unfold RD.holds; dsimp only; rw [HS.out.2.1, HS.out.2.2.1])
    clear bA bZ bY hk3
    go_region_with (go_at_call 60; refine (rholds_any _ _ { R1 with ops := R1.ops + 1 } _ (HRD.out _ (by first | exact Keeps.refl _ _ | exact (Keeps.refl _ _).drew)) i (by show i < R1.n; rw [HS.out.1]; exact hiN)).mono ?_; rintro e w2 ⟨rfl, hk4⟩; have hk5 : Keeps (fun _ => False) W3 w2 := (by first | exact hk4 | exact (Keeps.refl (fun _ => False) W3).drew.trans hk4); have HK5 := Lib.hid hk5; rw [HHO.out]; obtain ⟨cs, hcs⟩ : ∃ cs, cs = bk (R.holds i) := ⟨_, rfl⟩; rw [← hcs]; have hcl : cs.length = 64 := (by rw [hcs, bk_len]; exact HL0.out i hiN); have hone2 : oneAll cs.toArray = true := (by rw [hcs]; exact all_oneCell_toArray bk_one); have HCS := Lib.hid hcs; have bA := hk5.blk HA3.out id; have bZ := hk5.blk HZ3.out id; have bY := hk5.blk HY3.out id; have j0 := bA.cell (i := 0) rfl; have j1 := bA.cell (i := 1) rfl; have j2 := bA.cell (i := 2) rfl; have j3 := bA.cell (i := 3) rfl; have j4 := bA.cell (i := 4) rfl; have j5 := bA.cell (i := 5) rfl; have y0 := bZ.cell (i := 0) rfl; have y1 := bZ.cell (i := 1) rfl; have y2 := bZ.cell (i := 2) rfl; have y3 := bZ.cell (i := 3) rfl; have y4 := bZ.cell (i := 4) rfl; have y5 := bZ.cell (i := 5) rfl; have f0 := bZ.free 0; have f1 := bZ.free 1; have f2 := bZ.free 2; have f3 := bZ.free 3; have f4 := bZ.free 4; have f5 := bZ.free 5; have hmay := may_six bY (B := w.heap.size + 1) (by omega); have HZ5 := Lib.hid bZ; have HY5 := Lib.hid bY; have hsz5 := hk5.size; clear hk4 hk5 hcs bA bZ bY)
    all_goals
      go_wp2_with fail
      obtain ⟨b1, b2, b3⟩ := both_six (w := w) (X := w2) HZ5.out HY5.out rfl (by omega) hcl (.slice sa R.n sc) (.slice qa R.p.length qc) (.bool R1.dead) (.int .i64 R1.left) (.int .i64 R1.fails) (.int .i64 (R1.ops + 1)) (HK3.out.trans (HK5.out.mono fun _ _ h => h.elim)) (by omega) (by omega)
      refine bodyPost_ret (v := .tuple #[.agg #[.slice sa R.n sc, .slice qa R.p.length qc, .bool R1.dead, .int .i64 R1.left, .int .i64 R1.fails, .int .i64 (R1.ops + 1)], .agg cs.toArray, .int .i64 0]) (result43_27_38 rfl rfl rfl rfl rfl b1 hcl b2) rfl ?_
      rw [HE.out, if_neg (by simp)]
      refine ⟨?_, b3⟩
      rw [← HOP.out, HCS.out]
      rfl
  · have hcc : (c != 0) = true := by rw [bne_iff_ne]; exact hc
    have HN := Lib.hid hc
    obtain ⟨zh, zr, zm⟩ := blk_row bZ (n := 6) rfl
    have hmay := may_beside bY (b := w.heap.size + 1) (by omega) hzl
    clear hc bA bZ bY hk2
    go_wp2_with fail
    obtain ⟨b1, b2, b3⟩ := both_laid (w := w) (X := W2) (zs := [.slice sa R.n sc, .slice qa R.p.length qc, .bool R1.dead, .int .i64 R1.left, .int .i64 R1.fails, .int .i64 R1.ops]) HZ2.out HY2.out rfl (by omega) hzl HK2.out (by omega) (by omega)
    refine bodyPost_ret (v := .tuple #[.agg #[.slice sa R.n sc, .slice qa R.p.length qc, .bool R1.dead, .int .i64 R1.left, .int .i64 R1.fails, .int .i64 R1.ops], .agg (bk zb).toArray, .int .i64 c]) (result43_27_38 rfl rfl rfl rfl rfl b1 hzl b2) rfl ?_
    rw [HE.out, if_pos HN.out]
    exact ⟨rfl, b3⟩
end Go.Proofs.Ytjiammhmeliogaa
