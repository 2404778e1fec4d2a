/- LruDoes, its arguments opened. -/
import Derived.Test.YthnagihgjenimaaOpenAt
import Derived.Test.YthnagihgjenimaaDoes
namespace Go.Proofs.Ythnagihgjenimaa
open Go.RowKit
theorem does_walk (a b : Int) (v : Value) (x : OpsIn) (W : World) (w0 : (Lit.int .i64 a).wf = true) (w1 : (Lit.int .i64 b).wf = true) (w2 : x.Ok v W) :
    Calls Try.prog 6 #[.int .i64 a, .int .i64 b, v] W fun e w' => e = .returned (.bool true) ∧ Below W.heap.size W w' := by
  obtain ⟨rfl, h1, h2, h3, h4⟩ := w2
  exact does_law a b x.a x.n x.c x.l W w0 w1 h1 h2 h3 (by omega)
end Go.Proofs.Ythnagihgjenimaa
