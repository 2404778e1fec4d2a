/- DiskCopies' arguments. -/
import Derived.Test.YtjiammhmeliogaaOpenD
import Derived.Test.YtjiammhmeliogaaCopD
namespace Go.Proofs.Ytjiammhmeliogaa
open Go.RowKit
set_option linter.unusedVariables false
theorem copies_walk (v0 : Value) (x0 : OpsIn) (v1 : Value) (x1 : OpsIn) (v2 : Value) (x2 : OpsIn) (W : World) (w0 : x0.Ok v0 W ∧ ∀ o ∈ x0.l, o.Kept) (w1 : x1.Ok v1 W ∧ ∀ o ∈ x1.l, o.Kept) (w2 : x2.Ok v2 W ∧ ∀ o ∈ x2.l, o.Kept) :
    Calls Try.prog 8 #[v0, v1, v2] W fun e w' => e = .returned (.bool true) ∧ Below W.heap.size W w' := by
  have f0 := fit_of w0
  have f1 := fit_of w1
  have f2 := fit_of w2
  obtain ⟨⟨rfl, r0, _, n0, c0⟩, _⟩ := w0
  obtain ⟨⟨rfl, r1, _, n1, c1⟩, _⟩ := w1
  obtain ⟨⟨rfl, r2, _, n2, c2⟩, _⟩ := w2
  refine (copies_law x0.a x1.a x2.a x0.n x1.n x2.n x0.c x1.c x2.c x0.l x1.l x2.l W r0 n0 (by unfold maxLen; omega) f0 r1 n1 (by unfold maxLen; omega) f1 r2 n2 (by unfold maxLen; omega) f2).mono ?_
  rintro e w' ⟨rfl, hk⟩
  exact ⟨rfl, hk.below (fun _ h => h.elim) (Nat.le_refl _)⟩
end Go.Proofs.Ytjiammhmeliogaa
