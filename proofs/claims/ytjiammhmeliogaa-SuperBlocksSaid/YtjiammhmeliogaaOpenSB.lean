/- SuperBlocks' arguments. -/
import Derived.Test.YtjiammhmeliogaaOpenX
import Derived.Test.YtjiammhmeliogaaSBlocks
namespace Go.Proofs.Ytjiammhmeliogaa
open Go.RowKit
set_option linter.unusedVariables false
theorem sblocks_walk (v0 : Value) (x0 : SX) (a1 : Int) (v2 : Value) (x2 : List Int) (W : World) (w0 : x0.Is v0) (w1 : (Lit.int .u64 a1).wf = true) (w2 : BlkIs x2 v2) :
    Calls Try.prog 11 #[v0, .int .u64 a1, v2] W fun e w' => e = .returned (.bool true) ∧ Below W.heap.size W w' := by
  obtain ⟨rfl, h0⟩ := w0
  obtain ⟨rfl, h2, h3⟩ := w2
  refine (sblocks_law x0 h0 a1 (wf_u64 w1) x2 h2 h3 W).mono ?_
  rintro e w' ⟨rfl, hk⟩
  exact ⟨rfl, hk.below (fun _ h => h.elim) (Nat.le_refl _)⟩
end Go.Proofs.Ytjiammhmeliogaa
