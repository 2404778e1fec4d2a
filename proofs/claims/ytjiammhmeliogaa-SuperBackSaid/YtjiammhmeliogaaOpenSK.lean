/- SuperBack's arguments. -/
import Derived.Test.YtjiammhmeliogaaOpenX
import Derived.Test.YtjiammhmeliogaaSBack
namespace Go.Proofs.Ytjiammhmeliogaa
open Go.RowKit
set_option linter.unusedVariables false
theorem sback_walk (v0 : Value) (x0 : SX) (a1 a2 : Int) (W : World) (w0 : x0.Is v0) (w1 : (Lit.int .u64 a1).wf = true) (w2 : (Lit.int .i64 a2).wf = true) :
    Calls Try.prog 12 #[v0, .int .u64 a1, .int .i64 a2] W fun e w' => e = .returned (.bool true) ∧ Below W.heap.size W w' := by
  obtain ⟨rfl, h0⟩ := w0
  refine (sback_law x0 h0 a1 (wf_u64 w1) a2 W).mono ?_
  rintro e w' ⟨rfl, hk⟩
  exact ⟨rfl, hk.below (fun _ h => h.elim) (Nat.le_refl _)⟩
end Go.Proofs.Ytjiammhmeliogaa
