/- SuperNone's arguments. -/
import Derived.Test.YtjiammhmeliogaaOpenX
import Derived.Test.YtjiammhmeliogaaSNone
namespace Go.Proofs.Ytjiammhmeliogaa
open Go.RowKit
set_option linter.unusedVariables false
theorem snone_walk (a0 : Int) (v1 : Value) (x1 : SX) (W : World) (w0 : (Lit.int .i64 a0).wf = true) (w1 : x1.Is v1) :
    Calls Try.prog 13 #[.int .i64 a0, v1] W fun e w' => e = .returned (.bool true) ∧ Below W.heap.size W w' := by
  obtain ⟨rfl, _⟩ := w1
  refine (snone_law a0 x1 W).mono ?_
  rintro e w' ⟨rfl, hk⟩
  exact ⟨rfl, hk.below (fun _ h => h.elim) (Nat.le_refl _)⟩
end Go.Proofs.Ytjiammhmeliogaa
