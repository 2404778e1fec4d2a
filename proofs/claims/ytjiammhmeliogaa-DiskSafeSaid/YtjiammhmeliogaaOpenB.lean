/- An argument of the type []bool opened; DiskSafe. -/
import Derived.Test.YtjiammhmeliogaaOpen
import Derived.Test.YtjiammhmeliogaaSafe
namespace Go.Proofs.Ytjiammhmeliogaa
open Go.ChangeShapes Go.WideShapes Go.ChangeAt Go.RowKit Go.Deep
set_option linter.unusedVariables false

structure BoolsIn where
  a : Option Addr
  n : Nat
  c : Nat
  l : List Bool
def BoolsIn.Ok (x : BoolsIn) (v : Value) (W : World) : Prop := v = .slice x.a x.n x.c ∧ BoolRow W x.a x.n x.l ∧ x.n ≤ x.c ∧ x.c ≤ 140737488351232

set_option maxRecDepth 100000 in
theorem open_bools30 {H : Type} {enc : TypeId × Value → H} {W : World} {base : Nat} {v : Value} {d : DataW H} {p : List MemPlace}
    (hv : Value.okWide Try.prog W .any base 30 v) (h : DataW.Trod enc Try.prog W 0 (fun _ => true) true 30 v d p) (hw : ∀ n ∈ d.weights Try.prog 30, n ≤ reachBytes) : ∃ x : BoolsIn, x.Ok v W := by
  obtain ⟨a0, len, cap, rfl⟩ := okWide_slice Try.underlying30 hv
  obtain ⟨fuel, hf⟩ := h
  have hf2 := hf
  simp only [Value.cells] at hf2
  obtain ⟨va, vn, vc, ks, e, hr, h1, h2⟩ := open_bools Try.underlying30 Try.underlying4 (by kernel_rfl) hf2
  injection e with e1 e2 e3
  subst e1 e2 e3
  refine ⟨⟨a0, len, cap, ks⟩, rfl, hr, h1, ?_⟩
  rcases open_slice Try.underlying30 hf with ⟨hcs, _⟩ | ⟨a, l, c, m, n, D, Pl, hcs, _, hl, hm, hmm, hx, hi⟩
  · simp [Value.cells] at hcs
    obtain ⟨_, _, rfl⟩ := hcs
    show 0 ≤ 140737488351232; omega
  · simp [Value.cells] at hcs
    obtain ⟨_, rfl, rfl⟩ := hcs
    simp only [if_true] at hmm
    subst hmm
    simp only [Prod.mk.injEq] at hx
    obtain ⟨rfl, _⟩ := hx
    have hB : 1 ≤ Try.prog.bytesOf 4 := of_decide_eq_true (by kernel_rfl)
    have h1 := hw (len * Try.prog.bytesOf 4 + (m - len) * Try.prog.bytesOf 4) (by
      simp [DataW.weights, Try.underlying30]
      left
      rw [← Nat.add_mul])
    have h2 : len * 1 ≤ len * Try.prog.bytesOf 4 := Nat.mul_le_mul_left _ hB
    have h3 : (m - len) * 1 ≤ (m - len) * Try.prog.bytesOf 4 := Nat.mul_le_mul_left _ hB
    have h4 : reachBytes = 140737488351232 := rfl
    show m ≤ 140737488351232
    omega

theorem safe_walk (v : Value) (x : OpsIn) (u : Value) (y : BoolsIn) (W : World) (w0 : x.Ok v W) (w1 : y.Ok u W) :
    Calls Try.prog 7 #[v, u] W fun e w' => e = .returned (.bool true) ∧ Below W.heap.size W w' := by
  obtain ⟨rfl, hr, _, hn, hc⟩ := w0
  obtain ⟨rfl, hb, hbn, hbc⟩ := w1
  refine (safe_law x.a x.n x.c x.l y.a y.n y.c y.l W hr hn (by unfold maxLen; omega) hb (by omega)).mono ?_
  rintro e w' ⟨rfl, hk⟩
  exact ⟨rfl, hk.below (fun _ h => h.elim) (Nat.le_refl _)⟩
end Go.Proofs.Ytjiammhmeliogaa
