/- SuperSets's arguments. -/
import Derived.Test.YtjiammhmeliogaaSSets
namespace Go.Proofs.Ytjiammhmeliogaa
open Go.RowKit
set_option linter.unusedVariables false
theorem ssets_walk (a0 a1 : Int) (v2 : Value) (x2 : SupsIn) (W : World) (w0 : (Lit.int .i64 a0).wf = true) (w1 : (Lit.int .i64 a1).wf = true) (w2 : x2.Ok v2 W) :
    Calls Try.prog 10 #[.int .i64 a0, .int .i64 a1, v2] W fun e w' => e = .returned (.bool true) ∧ Below W.heap.size W w' := by
  obtain ⟨a, n, c, l⟩ := x2
  obtain ⟨rfl, h2, h3, h4, h5⟩ := w2
  dsimp only at h2 h3 h4 h5
  refine (ssets_law a0 a1 w0 w1 a n c l W h2 h3 h4 h5).mono ?_
  rintro e w' ⟨rfl, hk⟩
  exact ⟨rfl, hk.below (fun _ h => h.elim) (Nat.le_refl _)⟩
end Go.Proofs.Ytjiammhmeliogaa
