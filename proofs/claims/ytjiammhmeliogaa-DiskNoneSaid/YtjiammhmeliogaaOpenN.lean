/- DiskNone's argument. -/
import Derived.Test.YtjiammhmeliogaaOpenK
import Derived.Test.YtjiammhmeliogaaNoneL
namespace Go.Proofs.Ytjiammhmeliogaa
open Go.RowKit
theorem none_walk (v : Value) (o : OpT) (W : World) (w0 : o.Is v W) :
    Calls Try.prog 9 #[v] W fun e w' => e = .returned (.bool true) ∧ Below W.heap.size W w' := by
  obtain ⟨rfl, ⟨_, _, _, hr, hc, _⟩, hk1, hk2⟩ := w0
  refine (none_law W o.k o.a o.f o.va o.vn o.vc o.ks hr (by omega) hk2).mono ?_
  rintro e w' ⟨rfl, hk⟩
  exact ⟨rfl, hk.below (fun _ h => h.elim) (Nat.le_refl _)⟩
end Go.Proofs.Ytjiammhmeliogaa
