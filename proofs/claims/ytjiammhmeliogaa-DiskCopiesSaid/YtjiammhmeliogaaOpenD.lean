/- DiskDoes' arguments. -/
import Derived.Test.YtjiammhmeliogaaOpenK
import Derived.Test.YtjiammhmeliogaaDoesD
namespace Go.Proofs.Ytjiammhmeliogaa
open Go.RowKit
set_option linter.unusedVariables false
theorem fit_of {x : OpsIn} {v : Value} {W : World} (h : x.Ok v W ∧ ∀ o ∈ x.l, o.Kept) : ∀ o, o ∈ x.l → o.Fit W := fun o ho => by
  obtain ⟨⟨_, _, h3, _⟩, hk⟩ := h
  obtain ⟨_, ha, _, hr, hc, _⟩ := h3 o ho
  obtain ⟨k1, k2⟩ := hk o ho
  exact ⟨ha, hr, by omega, k2⟩
theorem doesd_walk (a0 : Int) (v : Value) (x : OpsIn) (W : World) (w0 : (Lit.int .i64 a0).wf = true) (w1 : x.Ok v W ∧ ∀ o ∈ x.l, o.Kept) :
    Calls Try.prog 4 #[.int .i64 a0, v] W fun e w' => e = .returned (.bool true) ∧ Below W.heap.size W w' := by
  have hf := fit_of w1
  obtain ⟨⟨rfl, hr, _, hn, hc⟩, _⟩ := w1
  refine (does_law a0 x.a x.n x.c x.l W hr hn (by unfold maxLen; omega) hf).mono ?_
  rintro e w' ⟨rfl, hk⟩
  exact ⟨rfl, hk.below (fun _ h => h.elim) (Nat.le_refl _)⟩
end Go.Proofs.Ytjiammhmeliogaa
