/- SuperCuts's arguments. -/
import Derived.Test.YtjiammhmeliogaaOpenS
import Derived.Test.YtjiammhmeliogaaSCuts
namespace Go.Proofs.Ytjiammhmeliogaa
open Go.RowKit
set_option linter.unusedVariables false
theorem scuts_walk (v0 : Value) (x0 : SX) (v1 : Value) (x1 : SX) (v2 : Value) (x2 : CutIn) (W : World) (w0 : x0.Is v0) (w1 : x1.Is v1) (w2 : x2.Is v2 W) :
    Calls Try.prog 14 #[v0, v1, v2] W fun e w' => e = .returned (.bool true) ∧ Below W.heap.size W w' := by
  obtain ⟨rfl, h0⟩ := w0
  obtain ⟨rfl, h1⟩ := w1
  obtain ⟨at', fl, a, n, c, l⟩ := x2
  obtain ⟨rfl, h2, h3, h4, h5, h6, h7⟩ := w2
  dsimp only at h2 h3 h4 h5 h6 h7
  refine (scuts_law x0 h0 x1 h1 at' fl h3 a n c l W h4 (by omega) h7).mono ?_
  rintro e w' ⟨rfl, hk⟩
  exact ⟨rfl, hk.below (fun _ h => h.elim) (Nat.le_refl _)⟩
end Go.Proofs.Ytjiammhmeliogaa
