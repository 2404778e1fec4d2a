/- A disk in memory; what its small functions do. -/
import Derived.Test.YtjiammhmeliogaaRows
import Derived.Test.YtjiammhmeliogaaMem
import Derived.WalkLawsBesides
import Derived.WalkSpells
import Derived.Outline
import Derived.BigRegion
import Derived.BigQuiet
import Derived.Deep.QuietTactic
import Derived.StillTailTactics
import Derived.Deep.RegionLaw
import Derived.Deep.RegionWith
namespace Go.Proofs.Ytjiammhmeliogaa
open Go.RowKit
set_option linter.unusedVariables false

/-- What a disk holds: n sectors with what is safe, the pending writes, the rest. -/
structure DD where
  n : Nat
  f : Nat → List Int
  p : List (Nat × List Int)
  dead : Bool
  armed : Bool
  left : Int
  fails : Int
  ops : Int
/-- Where it lies. -/
structure DL where
  B : Nat
  sv : Value
  pv : Value
def DL.ptr (L : DL) : Value := .pointer (some ⟨L.B, 0, none⟩)
def DL.own (L : DL) (k : Nat) : Prop := k = L.B ∨ L.sv.ownBlock = some k ∨ L.pv.ownBlock = some k
def DL.obj (L : DL) (D : DD) : List Value := [L.sv, L.pv, .bool D.dead, .bool D.armed, .int .i64 D.left, .int .i64 D.fails, .int .i64 D.ops]

structure DkAt (w : World) (L : DL) (D : DD) : Prop where
  obj : Blk w L.B 95 (L.obj D)
  safe : w.ownsRow 0 27 64 L.sv D.n (flat D.f D.n)
  pend : w.ownsRow 0 106 65 L.pv D.p.length (pflat D.p)
  n1 : 1 ≤ D.n
  n2 : D.n ≤ 2048
  fl : ∀ i, i < D.n → (D.f i).length = 64
  pl : ∀ a ∈ D.p, a.2.length = 64
  pa : ∀ a ∈ D.p, a.1 < D.n
  pn : D.p.length ≤ 1000000
  o1 : 0 ≤ D.ops
  o2 : D.ops ≤ 1000000000000
  l1 : -9223372036854775808 ≤ D.left
  l2 : D.left ≤ 9223372036854775807
  f1 : 0 ≤ D.fails
  f2 : D.fails ≤ 4611686018427387904

section
variable {w w' : World} {L : DL} {D D' : DD}
theorem DkAt.lt (h : DkAt w L D) : ∀ k, L.own k → k < w.heap.size := by
  intro k hk
  rcases hk with rfl | hk | hk
  · exact h.obj.lt
  · exact (own_heap h.safe hk).2.1
  · exact (own_heap h.pend hk).2.1
theorem DkAt.keep (h : DkAt w L D) {S : Nat → Prop} (hk : Keeps S w w') (hS : ∀ k, L.own k → ¬ S k) : DkAt w' L D :=
  ⟨hk.blk h.obj (hS _ (.inl rfl)), hk.own h.safe fun g hg => hS g (.inr (.inl hg)), hk.own h.pend fun g hg => hS g (.inr (.inr hg)), h.n1, h.n2, h.fl, h.pl, h.pa, h.pn, h.o1, h.o2, h.l1, h.l2, h.f1, h.f2⟩
theorem DkAt.quiet (h : DkAt w L D) (hk : Keeps (fun _ => False) w w') : DkAt w' L D := h.keep hk fun _ _ => id
theorem DkAt.cells (h : DkAt w L D) : w.cell? ⟨L.B, 0, none⟩ = some L.sv ∧ w.cell? ⟨L.B, 1, none⟩ = some L.pv ∧ w.cell? ⟨L.B, 2, none⟩ = some (.bool D.dead) ∧ w.cell? ⟨L.B, 3, none⟩ = some (.bool D.armed) ∧
    w.cell? ⟨L.B, 4, none⟩ = some (.int .i64 D.left) ∧ w.cell? ⟨L.B, 5, none⟩ = some (.int .i64 D.fails) ∧ w.cell? ⟨L.B, 6, none⟩ = some (.int .i64 D.ops) :=
  ⟨h.obj.cell rfl, h.obj.cell rfl, h.obj.cell rfl, h.obj.cell rfl, h.obj.cell rfl, h.obj.cell rfl, h.obj.cell rfl⟩
/-- The object alone is turned. -/
theorem DkAt.turn (h : DkAt w L D) (hk : Keeps (fun k => k = L.B) w w') (ho : Blk w' L.B 95 (L.obj D')) (hn : D'.n = D.n) (hf : D'.f = D.f) (hp : D'.p = D.p)
    (o1 : 0 ≤ D'.ops) (o2 : D'.ops ≤ 1000000000000) (l1 : -9223372036854775808 ≤ D'.left) (l2 : D'.left ≤ 9223372036854775807) (f1 : 0 ≤ D'.fails) (f2 : D'.fails ≤ 4611686018427387904) : DkAt w' L D' := by
  have h1 : ∀ g, L.sv.ownBlock = some g → ¬ (g = L.B) := fun g hg e => own_ne_blk h.obj h.safe (by decide) (by rw [← e]; exact hg)
  have h2 : ∀ g, L.pv.ownBlock = some g → ¬ (g = L.B) := fun g hg e => own_ne_blk h.obj h.pend (by decide) (by rw [← e]; exact hg)
  refine ⟨ho, ?_, ?_, by rw [hn]; exact h.n1, by rw [hn]; exact h.n2, by rw [hn, hf]; exact h.fl, by rw [hp]; exact h.pl, by rw [hp, hn]; exact h.pa, by rw [hp]; exact h.pn, o1, o2, l1, l2, f1, f2⟩
  · rw [hn, hf]; exact hk.own h.safe h1
  · rw [hp]; exact hk.own h.pend h2
end

/-- A call that answers an Errno and turns the object alone. -/
def DStep (L : DL) (c : Int) (D' : DD) (w : World) (e : Ending) (w' : World) : Prop := e = .returned (.int .i64 c) ∧ DkAt w' L D' ∧ Keeps (fun k => k = L.B) w w'

theorem power_any (L : DL) (D : DD) (w : World) (h : DkAt w L D) : Calls Try.prog 61 #[L.ptr] w fun e w' => e = .returned (.int .i64 (if D.dead then 7 else 0)) ∧ w = w' := by
  obtain ⟨c0, c1, c2, c3, c4, c5, c6⟩ := h.cells
  unfold DL.ptr
  clear h
  cases hd : D.dead
  · rw [hd] at c2
    clear hd
    go_enter Try.func61, Try.ntmps61
    go_wp2
    go_ret
    exact ⟨rfl, rfl⟩
  · rw [hd] at c2
    clear hd
    go_enter Try.func61, Try.ntmps61
    go_wp2
    go_ret
    exact ⟨rfl, rfl⟩

/-- What ready answers and makes of the disk. -/
def DD.ready (D : DD) (i : Int) : Int × DD :=
  if D.dead then (7, D) else if i < 0 ∨ (D.n : Int) ≤ i then (2, D) else if D.fails = 1 then (8, { D with fails := 0 }) else if 1 < D.fails then (0, { D with fails := D.fails - 1 }) else (0, D)

set_option maxHeartbeats 1000000 in
theorem ready_any (L : DL) (D : DD) (w : World) (h : DkAt w L D) (i : Int) : Calls Try.prog 57 #[L.ptr, .int .i64 i] w (DStep L (D.ready i).1 (D.ready i).2 w) := by
  have HP := Lib.hid (power_any L D w h)
  have HD := Lib.hid h
  obtain ⟨a, cap, hsv, hcap, hmx⟩ := own_slice h.safe
  unfold maxLen at hmx
  obtain ⟨c0, c1, c2, c3, c4, c5, c6⟩ := h.cells
  rw [hsv] at c0
  have n2 := h.n2
  have f1 := h.f1
  have f2 := h.f2
  have k5 := h.obj.free 5
  unfold DL.ptr at *
  clear h hsv
  cases hd : D.dead
  · rw [hd] at HP
    by_cases h1 : i < 0
    · have e : D.ready i = (2, D) := by unfold DD.ready; rw [hd]; simp [h1]
      have HE := Lib.hid e
      clear e hd
      go_enter Try.func57, Try.ntmps57
      go_wp2_with fail
      refine HP.out.mono ?_
      rintro e w' ⟨rfl, rfl⟩
      go_wp2_with fail
      go_ret
      rw [HE.out]
      exact ⟨rfl, HD.out, Keeps.refl _ _⟩
    · by_cases h2 : (D.n : Int) ≤ i
      · have e : D.ready i = (2, D) := by unfold DD.ready; rw [hd]; simp [h2]
        have HE := Lib.hid e
        have h1' : decide (i < 0) = false := by simpa using h1
        clear e hd h1
        go_enter Try.func57, Try.ntmps57
        go_wp2_with fail
        refine HP.out.mono ?_
        rintro e w' ⟨rfl, rfl⟩
        go_wp2_with fail
        go_ret
        rw [HE.out]
        exact ⟨rfl, HD.out, Keeps.refl _ _⟩
      · have h1' : decide (i < 0) = false := by simpa using h1
        have h2' : decide ((D.n : Int) ≤ i) = false := by simpa using h2
        have h3 : ¬ (i < 0 ∨ (D.n : Int) ≤ i) := by omega
        by_cases hf : D.fails = 1
        · have e : D.ready i = (8, { D with fails := 0 }) := by unfold DD.ready; rw [hd]; simp [h3, hf]
          have HE := Lib.hid e
          rw [hf] at c5
          clear e hd h1 h2 h3 hf
          go_enter Try.func57, Try.ntmps57
          go_wp2_with fail
          refine HP.out.mono ?_
          rintro e w' ⟨rfl, rfl⟩
          go_wp2_with fail
          go_ret
          rw [HE.out]
          have hk : Keeps (fun k => k = L.B) w (w.setCell ⟨L.B, 5, none⟩ (.int .i64 0)) := (Keeps.refl (fun k => k = L.B) w).store (p := ⟨L.B, 5, none⟩) (.inl rfl) _
          exact ⟨rfl, HD.out.turn hk (HD.out.obj.store 5 _) rfl rfl rfl HD.out.o1 HD.out.o2 HD.out.l1 HD.out.l2 (by simp) (by simp), hk⟩
        · have hf' : (D.fails == 1) = false := by simpa using hf
          by_cases hg : 1 < D.fails
          · have e : D.ready i = (0, { D with fails := D.fails - 1 }) := by unfold DD.ready; rw [hd]; simp [h3, hf, hg]
            have HE := Lib.hid e
            clear e hd h1 h2 h3 hf
            go_enter Try.func57, Try.ntmps57
            go_wp2_with fail
            refine HP.out.mono ?_
            rintro e w' ⟨rfl, rfl⟩
            go_wp2_with fail
            go_ret
            rw [HE.out]
            have hk : Keeps (fun k => k = L.B) w (w.setCell ⟨L.B, 5, none⟩ (.int .i64 (D.fails - 1))) := (Keeps.refl (fun k => k = L.B) w).store (p := ⟨L.B, 5, none⟩) (.inl rfl) _
            exact ⟨rfl, HD.out.turn hk (HD.out.obj.store 5 _) rfl rfl rfl HD.out.o1 HD.out.o2 HD.out.l1 HD.out.l2 (by show 0 ≤ D.fails - 1; omega) (by show D.fails - 1 ≤ _; omega), hk⟩
          · have e : D.ready i = (0, D) := by unfold DD.ready; rw [hd]; simp [h3, hf, hg]
            have HE := Lib.hid e
            have hg' : decide (1 < D.fails) = false := by simpa using hg
            clear e hd h1 h2 h3 hf hg
            go_enter Try.func57, Try.ntmps57
            go_wp2_with fail
            refine HP.out.mono ?_
            rintro e w' ⟨rfl, rfl⟩
            go_wp2_with fail
            go_ret
            rw [HE.out]
            exact ⟨rfl, HD.out, Keeps.refl _ _⟩
  · rw [hd] at HP
    have e : D.ready i = (7, D) := by unfold DD.ready; simp [hd]
    have HE := Lib.hid e
    clear e hd
    go_enter Try.func57, Try.ntmps57
    go_wp2_with fail
    refine HP.out.mono ?_
    rintro e w' ⟨rfl, rfl⟩
    go_wp2_with fail
    go_ret
    rw [HE.out]
    exact ⟨rfl, HD.out, Keeps.refl _ _⟩
end Go.Proofs.Ytjiammhmeliogaa
