/- An argument of the type []Op, at this program's numbers. -/
import Derived.Test.YthnagihgjenimaaOpen
namespace Go.Proofs.Ythnagihgjenimaa
open Go.ChangeShapes Go.WideShapes Go.ChangeAt Go.RowKit Go.Deep
theorem op_struct : ∃ f0 f1 f2 : Field, Try.prog.underlying 35 = some (.struct #[f0, f1, f2]) ∧ oneCellFields Try.prog #[f0, f1, f2] = true ∧ f0.type = 3 ∧ f1.type = 3 ∧ f2.type = 3 :=
  ⟨_, _, _, Try.underlying35, by kernel_rfl, rfl, rfl, rfl⟩
theorem open_ops31 {H : Type} {enc : TypeId × Value → H} {W : World} {base : Nat} {v : Value} {d : DataW H} {p : List MemPlace}
    (hv : Value.okWide Try.prog W .any base 31 v) (h : DataW.Trod enc Try.prog W 0 (fun _ => true) true 31 v d p) (hw : ∀ n ∈ d.weights Try.prog 31, n ≤ reachBytes) : ∃ x : OpsIn, x.Ok v W := by
  obtain ⟨f0, f1, f2, h1, h2, e0, e1, e2⟩ := op_struct
  exact open_ops (ti := 3) Try.underlying31 h1 h2 (by kernel_rfl) (of_decide_eq_true (by kernel_rfl)) (by rw [e0]; exact Try.underlying3) (by rw [e1]; exact Try.underlying3) (by rw [e2]; exact Try.underlying3) hv h hw
end Go.Proofs.Ythnagihgjenimaa
