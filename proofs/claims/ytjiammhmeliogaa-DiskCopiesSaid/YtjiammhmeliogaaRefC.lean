/- The document's disk: New, Crash, Read, Sync. -/
import Derived.Test.YtjiammhmeliogaaRefL
namespace Go.Proofs.Ytjiammhmeliogaa
open Go.RowKit
set_option linter.unusedVariables false
set_option linter.unusedSimpArgs false

theorem Keeps.at {b : Nat} {w w' : World} (h : Keeps (fun k => k = b) w w') (i : Nat) (v : Value) : Keeps (fun k => k = b) w (w'.setCell ⟨b, i, none⟩ v) := h.store (p := ⟨b, i, none⟩) (.inl rfl) v
theorem six43 {X : World} {B : Nat} {zs : List Value} (h : Blk X B 43 zs) (hl : zs.length = 6) (v0 v1 v2 v3 v4 v5 : Value) :
    Blk ((((((X.setCell ⟨B, 0, none⟩ v0).setCell ⟨B, 1, none⟩ v1).setCell ⟨B, 2, none⟩ v2).setCell ⟨B, 3, none⟩ v3).setCell ⟨B, 4, none⟩ v4).setCell ⟨B, 5, none⟩ v5) B 43 [v0, v1, v2, v3, v4, v5] := by
  match zs, hl with
  | [a, b, c, d, e, f], _ => exact (((((h.store 0 _).store 1 _).store 2 _).store 3 _).store 4 _).store 5 _
/-- The value lies where it lay, or in a new block. -/
def Old (w : World) (v v' : Value) : Prop := ∀ g, v'.ownBlock = some g → v.ownBlock = some g ∨ w.heap.size ≤ g
theorem Old.refl (w : World) (v : Value) : Old w v v := fun g h => .inl h
theorem Old.trans {w w1 : World} {v v1 v2 : Value} (h : Old w v v1) (h1 : Old w1 v1 v2) (hs : w.heap.size ≤ w1.heap.size) : Old w v v2 := fun g hg => (h1 g hg).elim (h g) fun h => .inr (Nat.le_trans hs h)

theorem asked_at {w : World} {sv pv : Value} {R : RD} (h : RdAt w sv pv R) (i : Int) : RdAt w sv pv (R.asked i).2 := by
  have f1 := h.f1
  have f2 := h.f2
  unfold RD.asked
  split
  · exact h
  · split
    · exact h
    · split
      · exact h.turn rfl rfl rfl h.o1 h.o2 h.l1 h.l2 (by show (-1 : Int) ≤ -1; omega) (by show (-1 : Int) ≤ _; omega)
      · split
        · exact h.turn rfl rfl rfl h.o1 h.o2 h.l1 h.l2 (by show (-1 : Int) ≤ R.fails - 1; omega) (by show R.fails - 1 ≤ _; omega)
        · exact h
theorem asked_same (R : RD) (i : Int) : (R.asked i).2.n = R.n ∧ (R.asked i).2.f = R.f ∧ (R.asked i).2.p = R.p ∧ (R.asked i).2.dead = R.dead ∧ (R.asked i).2.left = R.left ∧ (R.asked i).2.ops = R.ops := by
  unfold RD.asked
  split
  · simp
  · split
    · simp
    · split
      · simp
      · split
        · simp
        · simp
theorem asked_cases (R : RD) (i : Int) : (R.asked i).1 ≠ 0 ∨ ((R.asked i).1 = 0 ∧ 0 ≤ i ∧ i < R.n) := by
  unfold RD.asked
  split
  · left; simp
  · split
    · left; simp
    · rename_i h1 h2
      split
      · left; simp
      · split
        · right; simp; omega
        · right; simp; omega
theorem done_at {w : World} {sv pv : Value} {R : RD} (h : RdAt w sv pv R) (hop : R.ops < 1000000000000) : RdAt w sv pv R.done.2 := by
  have o1 := h.o1
  have l1 := h.l1
  have l2 := h.l2
  unfold RD.done
  split
  · exact h.turn rfl rfl rfl h.o1 h.o2 h.l1 h.l2 h.f1 h.f2
  · split
    · exact h.turn rfl rfl rfl (by show 0 ≤ R.ops + 1; omega) (by show R.ops + 1 ≤ _; omega) (by show -1 ≤ R.left - 1; omega) (by show R.left - 1 ≤ _; omega) h.f1 h.f2
    · exact h.turn rfl rfl rfl (by show 0 ≤ R.ops + 1; omega) (by show R.ops + 1 ≤ _; omega) h.l1 h.l2 h.f1 h.f2
theorem done_same (R : RD) : R.done.2.n = R.n ∧ R.done.2.f = R.f ∧ R.done.2.p = R.p := by
  unfold RD.done
  split
  · simp
  · split <;> simp

attribute [local go_sem ↓] exec_new101 exec_load101 exec_load27 exec_store27 exec_new27 exec_alloc27 exec_build27 zeroValue27
attribute [local go_sem] mayRow_drew padr_some rowAt_drew hasRow_drew rowAt_alloc hasRow_alloc zc101_size run_cells27

/-- New. -/
def RD.fresh (n : Nat) : RD := ⟨n, fun _ => zb, [], false, -1, -1, 0⟩
def RNewP (n : Nat) (w : World) (e : Ending) (w' : World) : Prop := ∃ sv, e = .returned (.tuple #[rv sv (.slice none 0 0) (RD.fresh n), .int .i64 0]) ∧ RdAt w' sv (.slice none 0 0) (RD.fresh n) ∧ (∀ g, sv.ownBlock = some g → w.heap.size ≤ g) ∧ Keeps (fun _ => False) w w'
set_option maxRecDepth 100000 in
set_option maxHeartbeats 1000000 in
theorem rnew_ok (n : Nat) (h1 : 1 ≤ n) (h2 : n ≤ 2048) (w : World) : Calls Try.prog 22 #[.int .i64 (n : Int)] w (RNewP n w) := by
  obtain ⟨W0, hW0⟩ : ∃ W0, W0 = w.alloc (.cells #[.slice none 0 0, .slice none 0 0, .bool false, .int .i64 0, .int .i64 0, .int .i64 0] 43) := ⟨_, rfl⟩
  have hb0 : Blk W0 w.heap.size 43 [.slice none 0 0, .slice none 0 0, .bool false, .int .i64 0, .int .i64 0, .int .i64 0] := by rw [hW0]; exact Blk.new w 43 _
  have hk0 : Keeps (fun _ => False) w W0 := by rw [hW0]; exact (Keeps.refl _ _).alloc _
  have hs0 : W0.heap.size = w.heap.size + 1 := by rw [hW0]; simp
  have hmk := make35 n h2 W0
  have y0 := hb0.cell (i := 0) rfl
  have y1 := hb0.cell (i := 1) rfl
  have y2 := hb0.cell (i := 2) rfl
  have y3 := hb0.cell (i := 3) rfl
  have y4 := hb0.cell (i := 4) rfl
  have y5 := hb0.cell (i := 5) rfl
  have f0 := hb0.free 0
  have f1 := hb0.free 1
  have f2 := hb0.free 2
  have f3 := hb0.free 3
  have f4 := hb0.free 4
  have f5 := hb0.free 5
  have hlen : (flat (fun _ => zb) n).length = n * 64 := flat_len fun _ _ => zb_len
  have HB := Lib.hid hb0
  have HB1 : Hid (∀ X : World, X.heap.size = W0.heap.size → (X.alloc (.cells (flat (fun _ => zb) n).toArray 27)).ownsRow 0 27 64 (.slice (some ⟨W0.heap.size, 0, none⟩) n n) n (flat (fun _ => zb) n)) := Lib.hid fun X hX =>
    ⟨hlen, .inr ⟨W0.heap.size, n, _, rfl, Nat.zero_le _, by rw [← hX]; exact heap_alloc_new X _, Nat.le_refl _, by unfold maxLen; show n ≤ _; omega, by simpa using hlen, by show List.take (n * 64) (flat (fun _ => zb) n).toArray.toList = _; rw [← hlen]; simp⟩⟩
  have HK := Lib.hid hk0
  have HW0 := Lib.hid hW0
  have hsz : w.heap.size < W0.heap.size := by omega
  have hlo : decide ((n : Int) < 1) = false := by simp; omega
  have hhi : decide (2048 < (n : Int)) = false := by simp; omega
  clear hb0 hk0 hs0 hW0 hlen
  go_enter Try.func22, Try.ntmps22
  go_upto_region 3 with (fail)
  rw [← HW0.out]
  go_wp2_with fail
  refine bodyPost_ret (v := .tuple #[.agg #[.slice (some ⟨W0.heap.size, 0, none⟩) n n, .slice none 0 0, .bool false, .int .i64 (-1), .int .i64 (-1), .int .i64 0], .int .i64 0]) (result43_38 rfl rfl rfl rfl ((six43 HB.out rfl _ _ _ _ _ _).alloc _)) rfl ?_
  have hkF : Keeps (fun k => k = w.heap.size) W0 _ := (((((((Keeps.refl (fun k => k = w.heap.size) W0).store (p := ⟨w.heap.size, 0, none⟩) (.inl rfl) (.slice (some ⟨W0.heap.size, 0, none⟩) n n)).store (p := ⟨w.heap.size, 1, none⟩) (.inl rfl) (.slice none 0 0)).store (p := ⟨w.heap.size, 2, none⟩) (.inl rfl) (.bool false)).store (p := ⟨w.heap.size, 3, none⟩) (.inl rfl) (.int .i64 (-1))).store (p := ⟨w.heap.size, 4, none⟩) (.inl rfl) (.int .i64 (-1))).store (p := ⟨w.heap.size, 5, none⟩) (.inl rfl) (.int .i64 0))
  refine ⟨_, rfl, ⟨HB1.out _ (by simp [World.setCell]), World.ownsRow_nil _ _ _ _, h1, h2, fun _ _ => zb_len, (by intro a ha; cases ha), (by intro a ha; cases ha), Nat.zero_le _, by show (0 : Int) ≤ 0; omega, by show (0 : Int) ≤ _; omega, by show (-1 : Int) ≤ -1; omega, by show (-1 : Int) ≤ _; omega, by show (-1 : Int) ≤ -1; omega, by show (-1 : Int) ≤ _; omega⟩, fun g hg => ?_, ?_⟩
  · have hg' : W0.heap.size = g := by simpa [Value.ownBlock] using hg
    omega
  · exact Keeps.from (((HK.out.mono fun _ _ h => h.elim).trans (hkF.mono fun k _ e => by rw [show k = w.heap.size from e]; exact Nat.le_refl _)).alloc _)
theorem rnew_bad (n : Int) (h : n < 1 ∨ 2048 < n) (w : World) : Calls Try.prog 22 #[.int .i64 n] w fun e w' => (∃ v, e = .returned (.tuple #[.agg #[.slice none 0 0, .slice none 0 0, .bool false, .int .i64 0, .int .i64 0, .int .i64 0], .int .i64 v]) ∧ v = 2) ∧ Keeps (fun _ => False) w w' := by
  rcases h with h | h
  · go_enter Try.func22, Try.ntmps22
    go_wp2
    exact bodyPost_ret (v := .tuple #[.agg #[.slice none 0 0, .slice none 0 0, .bool false, .int .i64 0, .int .i64 0, .int .i64 0], .int .i64 2]) (by simp [results, Try.f22, go_sem]) rfl ⟨⟨2, rfl, rfl⟩, (Keeps.refl _ _).alloc _⟩
  · have h' : decide (n < 1) = false := by simp; omega
    go_enter Try.func22, Try.ntmps22
    go_wp2
    exact bodyPost_ret (v := .tuple #[.agg #[.slice none 0 0, .slice none 0 0, .bool false, .int .i64 0, .int .i64 0, .int .i64 0], .int .i64 2]) (by simp [results, Try.f22, go_sem]) rfl ⟨⟨2, rfl, rfl⟩, (Keeps.refl _ _).alloc _⟩

/-- The same, spelled out. -/
def LiveQ (R : RD) (w : World) (e : Ending) (w' : World) : Prop := ∃ ta tc, e = .returned (.agg #[.slice ta R.n tc, .slice none 0 0, .bool R.dead, .int .i64 R.left, .int .i64 R.fails, .int .i64 R.ops]) ∧ RdAt w' (.slice ta R.n tc) (.slice none 0 0) R ∧ (∀ g, (Value.slice ta R.n tc).ownBlock = some g → w.heap.size ≤ g) ∧ Keeps (fun _ => False) w w'
theorem LiveP.form {R : RD} {w w' : World} {e : Ending} (h : LiveP R w e w') : LiveQ R w e w' := by
  obtain ⟨sv, rfl, hR, ho, hk⟩ := h
  obtain ⟨ta, tc, rfl, _⟩ := own_slice hR.safe
  exact ⟨ta, tc, rfl, hR, ho, hk⟩
/-- Crash: what is kept lives; the power is there. -/
def RD.crash (R : RD) (xs : List Bool) : RD := { R with f := setl (liveOf xs) 0 R.p R.f, p := [], dead := false, left := -1, fails := -1 }
set_option maxRecDepth 100000 in
set_option maxHeartbeats 2000000 in
theorem rcrash_any (sv pv : Value) (R : RD) (w : World) (h : RdAt w sv pv R) (ka : Option Addr) (kn kc : Nat) (xs : List Bool) (hkr : BoolRow w ka kn xs) (hkn : kn ≤ 140737488355328) : Calls Try.prog 56 #[rv sv pv R, .slice ka kn kc] w (LiveP (R.crash xs) w) := by
  obtain ⟨sa, sc, rfl, _, hmx⟩ := own_slice h.safe
  obtain ⟨qa, qc, rfl, _, hqm⟩ := own_slice h.pend
  obtain ⟨W0, hW0⟩ : ∃ W0, W0 = (w.alloc (.cells (([.slice sa R.n sc, .slice qa R.p.length qc, .bool R.dead, .int .i64 R.left, .int .i64 R.fails, .int .i64 R.ops] : List Value)).toArray 43)).alloc (.cells z43.toArray 43) := ⟨_, rfl⟩
  obtain ⟨bA, bZ, k0, s0⟩ := start43 w _ hW0
  have HLV := Lib.hid (rlive_any _ _ R W0 (h.quiet k0) ka kn kc xs (hkr.keep k0 fun _ _ _ => id) hkn |>.mono fun _ _ => LiveP.form)
  have HA := Lib.hid bA
  have HZ := Lib.hid bZ
  have HK0 := Lib.hid k0
  have hs1 : w.heap.size < W0.heap.size := by omega
  have hs0 : w.heap.size + 1 < W0.heap.size := by omega
  have c0 := bA.cell (i := 0) rfl
  have c1 := bA.cell (i := 1) rfl
  have c2 := bA.cell (i := 2) rfl
  have c3 := bA.cell (i := 3) rfl
  have c4 := bA.cell (i := 4) rfl
  have c5 := bA.cell (i := 5) rfl
  have HW0 : Hid (W0 = (w.alloc (.cells #[.slice sa R.n sc, .slice qa R.p.length qc, .bool R.dead, .int .i64 R.left, .int .i64 R.fails, .int .i64 R.ops] 43)).alloc (.cells #[.slice none 0 0, .slice none 0 0, .bool false, .int .i64 0, .int .i64 0, .int .i64 0] 43)) := Lib.hid hW0
  clear h bA bZ k0 s0 hkr hW0
  unfold rv at *
  go_enter Try.func56, Try.ntmps56
  go_upto_region 1 with (fail)
  rw [← HW0.out]
  go_wp2_with fail
  refine HLV.out.mono ?_
  rintro e w1 ⟨ta, tc, rfl, hR, hown, hk1⟩
  dsimp only [RD.live] at hR hown ⊢
  have bA := hk1.blk HA.out id
  have bZ := hk1.blk HZ.out id
  have d0 := bA.cell (i := 0) rfl
  have d1 := bA.cell (i := 1) rfl
  have d2 := bA.cell (i := 2) rfl
  have d3 := bA.cell (i := 3) rfl
  have d4 := bA.cell (i := 4) rfl
  have d5 := bA.cell (i := 5) rfl
  have g0 := bA.free 0
  have g1 := bA.free 1
  have g2 := bA.free 2
  have g3 := bA.free 3
  have g4 := bA.free 4
  have g5 := bA.free 5
  have HR := Lib.hid hR
  have HOWN := Lib.hid hown
  have HK1 := Lib.hid hk1
  have HZ1 := Lib.hid bZ
  have HA1 := Lib.hid bA
  clear hR hown hk1 bA bZ c0 c1 c2 c3 c4 c5
  go_upto_region 2 with (fail)
  obtain ⟨W2, hW2⟩ : ∃ W2, W2 = (((((w1.setCell ⟨w.heap.size, 0, none⟩ (.slice ta R.n tc)).setCell ⟨w.heap.size, 1, none⟩ (.slice none 0 0)).setCell ⟨w.heap.size, 2, none⟩ (.bool R.dead)).setCell ⟨w.heap.size, 3, none⟩ (.int .i64 R.left)).setCell ⟨w.heap.size, 4, none⟩ (.int .i64 R.fails)).setCell ⟨w.heap.size, 5, none⟩ (.int .i64 R.ops) := ⟨_, rfl⟩
  have hk2 : Keeps (fun k => k = w.heap.size) w1 W2 := by
    rw [hW2]
    (repeat (first | exact Keeps.refl _ _ | refine Keeps.at ?_ _ _))
  have bA : Blk W2 w.heap.size 43 [.slice ta R.n tc, .slice none 0 0, .bool R.dead, .int .i64 R.left, .int .i64 R.fails, .int .i64 R.ops] := by rw [hW2]; exact six43 HA1.out rfl _ _ _ _ _ _
  have bZ := hk2.blk HZ1.out (by omega)
  rw [← hW2]
  clear hW2 d0 d1 d2 d3 d4 d5 g0 g1 g2 g3 g4 g5
  have d0 := bA.cell (i := 0) rfl
  have d1 := bA.cell (i := 1) rfl
  have d2 := bA.cell (i := 2) rfl
  have d3 := bA.cell (i := 3) rfl
  have d4 := bA.cell (i := 4) rfl
  have d5 := bA.cell (i := 5) rfl
  have g0 := bA.free 0
  have g1 := bA.free 1
  have g2 := bA.free 2
  have g3 := bA.free 3
  have g4 := bA.free 4
  have g5 := bA.free 5
  have HZ2 := Lib.hid bZ
  have HA2 := Lib.hid bA
  have HK2 := Lib.hid hk2
  clear bA bZ hk2
  go_upto_region 3 with (fail)
  obtain ⟨W3, hW3⟩ : ∃ W3, W3 = (((W2.setCell ⟨w.heap.size, 2, none⟩ (.bool false)).setCell ⟨w.heap.size, 3, none⟩ (.int .i64 (-1))).setCell ⟨w.heap.size, 4, none⟩ (.int .i64 (-1))) := ⟨_, rfl⟩
  have hk3 : Keeps (fun k => k = w.heap.size) W2 W3 := by
    rw [hW3]
    (repeat (first | exact Keeps.refl _ _ | refine Keeps.at ?_ _ _))
  have bA : Blk W3 w.heap.size 43 [.slice ta R.n tc, .slice none 0 0, .bool false, .int .i64 (-1), .int .i64 (-1), .int .i64 R.ops] := by rw [hW3]; exact ((HA2.out.store 2 _).store 3 _).store 4 _
  have bZ := hk3.blk HZ2.out (by omega)
  rw [← hW3]
  clear hW3 d0 d1 d2 d3 d4 d5 g0 g1 g2 g3 g4 g5
  have d0 := bA.cell (i := 0) rfl
  have d1 := bA.cell (i := 1) rfl
  have d2 := bA.cell (i := 2) rfl
  have d3 := bA.cell (i := 3) rfl
  have d4 := bA.cell (i := 4) rfl
  have d5 := bA.cell (i := 5) rfl
  have g0 := bA.free 0
  have g1 := bA.free 1
  have g2 := bA.free 2
  have g3 := bA.free 3
  have g4 := bA.free 4
  have g5 := bA.free 5
  have y0 := bZ.cell (i := 0) rfl
  have y1 := bZ.cell (i := 1) rfl
  have y2 := bZ.cell (i := 2) rfl
  have y3 := bZ.cell (i := 3) rfl
  have y4 := bZ.cell (i := 4) rfl
  have y5 := bZ.cell (i := 5) rfl
  have f0 := bZ.free 0
  have f1 := bZ.free 1
  have f2 := bZ.free 2
  have f3 := bZ.free 3
  have f4 := bZ.free 4
  have f5 := bZ.free 5
  have HZ3 := Lib.hid bZ
  have HK3 : Hid (Keeps (fun k => k = w.heap.size ∨ k = w.heap.size + 1) w1 W3) := Lib.hid ((HK2.out.trans hk3).mono fun k _ e => .inl e)
  clear bA bZ hk3
  go_wp2_with fail
  have bF := six43 HZ3.out rfl (.slice ta R.n tc) (.slice none 0 0) (.bool false) (.int .i64 (-1)) (.int .i64 (-1)) (.int .i64 R.ops)
  refine bodyPost_ret (v := .agg #[.slice ta R.n tc, .slice none 0 0, .bool false, .int .i64 (-1), .int .i64 (-1), .int .i64 R.ops]) (result43 rfl rfl rfl bF) rfl ?_
  have hkF : Keeps (fun k => k = w.heap.size ∨ k = w.heap.size + 1) w1 _ := ((((((HK3.out.store (p := ⟨w.heap.size + 1, 0, none⟩) (.inl (.inr rfl)) (.slice ta R.n tc)).store (p := ⟨w.heap.size + 1, 1, none⟩) (.inl (.inr rfl)) (.slice none 0 0)).store (p := ⟨w.heap.size + 1, 2, none⟩) (.inl (.inr rfl)) (.bool false)).store (p := ⟨w.heap.size + 1, 3, none⟩) (.inl (.inr rfl)) (.int .i64 (-1))).store (p := ⟨w.heap.size + 1, 4, none⟩) (.inl (.inr rfl)) (.int .i64 (-1))).store (p := ⟨w.heap.size + 1, 5, none⟩) (.inl (.inr rfl)) (.int .i64 R.ops))
  refine ⟨_, rfl, ?_, fun g hg => ?_, Keeps.from (((HK0.out.trans HK1.out).mono fun _ _ h => h.elim).trans (hkF.mono fun k _ e => by rcases e with e | e <;> omega))⟩
  · have hq := HR.out.keep hkF (fun g hg e => by have := HOWN.out g hg; have e' : g = w.heap.size ∨ g = w.heap.size + 1 := e; omega) (fun g hg => by cases hg)
    exact hq.turn (R' := R.crash xs) rfl rfl rfl hq.o1 hq.o2 (by show (-1 : Int) ≤ -1; omega) (by show (-1 : Int) ≤ _; omega) (by show (-1 : Int) ≤ -1; omega) (by show (-1 : Int) ≤ _; omega)
  · have := HOWN.out g hg
    omega
end Go.Proofs.Ytjiammhmeliogaa
