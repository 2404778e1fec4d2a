/- LruDrains, its argument opened. -/
import Derived.Test.YthnagihgjenimaaOpenAt
import Derived.Test.YthnagihgjenimaaDrains
namespace Go.Proofs.Ythnagihgjenimaa
open Go.RowKit
theorem drains_walk (v : Value) (x : OpsIn) (b : Int) (W : World) (w0 : x.Ok v W) (w1 : (Lit.int .i64 b).wf = true) :
    Calls Try.prog 4 #[v, .int .i64 b] W fun e w' => e = .returned (.bool true) ∧ Below W.heap.size W w' := by
  obtain ⟨rfl, h1, h2, h3, h4⟩ := w0
  exact drains_law x.a x.n x.c x.l b W h1 h2 h3 (by omega) w1
end Go.Proofs.Ythnagihgjenimaa
