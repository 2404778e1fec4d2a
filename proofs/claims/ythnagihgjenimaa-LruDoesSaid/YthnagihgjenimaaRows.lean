/-
  No cell of these rows narrows 'for every input' (looked for: loops, veiled, ifaces, maps, wideKeys, modest, calm, conditions, laid).
  DERIVED. THE GIVEN ROWS OF THIS SEAT. 5 by the template 'for every input the law returns true; each argument reads behind the call as it read before'; 0 by the template 'total and deterministic' (their statements: YthnagihgjenimaaTotals.lean).
  GIVEN WITH THE SEED: the statements are not yours to turn. If you find one false, say at which input.
  Laid BY PROGRAM, IN A SANDBOX (cutbox-rows.mjs): the forced cells as the released guide's own fill.sh prints them over the translation 45c5e86326853a1b… (all of the seat's roots in one cut). By AI agents, Wed Nov 11 2026. No macro, syntax, notation, axiom, sorry.
-/
import Derived.Test.YthnagihgjenimaaChecked
import GoSem.Claim
import GoSem.ClaimJoined
import GoSem.ClaimMapViews
import Derived.JoinedTies
import Derived.KernelRfl
namespace Go.Proofs.Ythnagihgjenimaa
/- THE CELL 'sum', in the pinned program and in every row, IS THE sha256 OF THE DUMP (.gsa) THAT YthnagihgjenimaaProg.lean LOADS. Nothing in Lean hashes anything: it is a label: what it is worth is what the hold of that sum in a sandbox is worth. -/
noncomputable def Try.pinned : Pinned := { name := "ythnagihgjenimaa", sum := "45c5e86326853a1bdf1d5e17efebf3670b613a5391dbad36cfab57ab80ea5d47", checked := Try.checked }
namespace Rows
def none {H : Type} : Left H := { results := [], args := [] }

/-- 'icehouselaw12.LruSizes': WHATEVER THE INPUT: true; the input reads as it did. -/
def lruSizesSpec : ChangeSpec := { name := "lruSizes", fn := fun _ => fun
  | [d1, d2] => { results := [.lit (.bool true)], args := [d1, d2] }
  | _ => none }
def lruSizesRow : OpenClaim := { program := "ythnagihgjenimaa", sum := "45c5e86326853a1bdf1d5e17efebf3670b613a5391dbad36cfab57ab80ea5d47", func := "icehouse/icehouselaw12.LruSizes", spec := "lruSizes", unfollowed := true, recurses := true, apart := false }
def LruSizesSaid : Prop := lruSizesRow.holds Try.pinned (OpenSpec.ofChange lruSizesSpec)

/-- ITS FALSE NEIGHBOUR: 'it returns false'. Refute it at one input. -/
def lruSizesWrong : ChangeSpec := { name := "lruSizes", fn := fun _ => fun
  | [d1, d2] => { results := [.lit (.bool false)], args := [d1, d2] }
  | _ => none }
def LruSizesWrongFalsely : Prop := lruSizesRow.holds Try.pinned (OpenSpec.ofChange lruSizesWrong)

/-- 'icehouselaw12.LruDrains': WHATEVER THE INPUT: true; the input reads as it did. -/
def lruDrainsSpec : ChangeSpec := { name := "lruDrains", fn := fun _ => fun
  | [d1, d2] => { results := [.lit (.bool true)], args := [d1, d2] }
  | _ => none }
def lruDrainsRow : OpenClaim := { program := "ythnagihgjenimaa", sum := "45c5e86326853a1bdf1d5e17efebf3670b613a5391dbad36cfab57ab80ea5d47", func := "icehouse/icehouselaw12.LruDrains", spec := "lruDrains", unfollowed := true, recurses := true, apart := false }
def LruDrainsSaid : Prop := lruDrainsRow.holds Try.pinned (OpenSpec.ofChange lruDrainsSpec)

/-- ITS FALSE NEIGHBOUR: 'it returns false'. Refute it at one input. -/
def lruDrainsWrong : ChangeSpec := { name := "lruDrains", fn := fun _ => fun
  | [d1, d2] => { results := [.lit (.bool false)], args := [d1, d2] }
  | _ => none }
def LruDrainsWrongFalsely : Prop := lruDrainsRow.holds Try.pinned (OpenSpec.ofChange lruDrainsWrong)

/-- 'icehouselaw12.LruTurns': WHATEVER THE INPUT: true; the input reads as it did. -/
def lruTurnsSpec : ChangeSpec := { name := "lruTurns", fn := fun _ => fun
  | [d1, d2] => { results := [.lit (.bool true)], args := [d1, d2] }
  | _ => none }
def lruTurnsRow : OpenClaim := { program := "ythnagihgjenimaa", sum := "45c5e86326853a1bdf1d5e17efebf3670b613a5391dbad36cfab57ab80ea5d47", func := "icehouse/icehouselaw12.LruTurns", spec := "lruTurns", unfollowed := true, recurses := true, apart := false }
def LruTurnsSaid : Prop := lruTurnsRow.holds Try.pinned (OpenSpec.ofChange lruTurnsSpec)

/-- ITS FALSE NEIGHBOUR: 'it returns false'. Refute it at one input. -/
def lruTurnsWrong : ChangeSpec := { name := "lruTurns", fn := fun _ => fun
  | [d1, d2] => { results := [.lit (.bool false)], args := [d1, d2] }
  | _ => none }
def LruTurnsWrongFalsely : Prop := lruTurnsRow.holds Try.pinned (OpenSpec.ofChange lruTurnsWrong)

/-- 'icehouselaw12.LruDoes': WHATEVER THE INPUT: true; the input reads as it did. -/
def lruDoesSpec : ChangeSpec := { name := "lruDoes", fn := fun _ => fun
  | [d1, d2, d3] => { results := [.lit (.bool true)], args := [d1, d2, d3] }
  | _ => none }
def lruDoesRow : OpenClaim := { program := "ythnagihgjenimaa", sum := "45c5e86326853a1bdf1d5e17efebf3670b613a5391dbad36cfab57ab80ea5d47", func := "icehouse/icehouselaw12.LruDoes", spec := "lruDoes", unfollowed := true, recurses := true, apart := false }
def LruDoesSaid : Prop := lruDoesRow.holds Try.pinned (OpenSpec.ofChange lruDoesSpec)

/-- ITS FALSE NEIGHBOUR: 'it returns false'. Refute it at one input. -/
def lruDoesWrong : ChangeSpec := { name := "lruDoes", fn := fun _ => fun
  | [d1, d2, d3] => { results := [.lit (.bool false)], args := [d1, d2, d3] }
  | _ => none }
def LruDoesWrongFalsely : Prop := lruDoesRow.holds Try.pinned (OpenSpec.ofChange lruDoesWrong)

/-- 'icehouselaw12.LruNone': WHATEVER THE INPUT: true; the input reads as it did. -/
def lruNoneSpec : ChangeSpec := { name := "lruNone", fn := fun _ => fun
  | [d] => { results := [.lit (.bool true)], args := [d] }
  | _ => none }
def lruNoneRow : OpenClaim := { program := "ythnagihgjenimaa", sum := "45c5e86326853a1bdf1d5e17efebf3670b613a5391dbad36cfab57ab80ea5d47", func := "icehouse/icehouselaw12.LruNone", spec := "lruNone", unfollowed := true, recurses := true, apart := false }
def LruNoneSaid : Prop := lruNoneRow.holds Try.pinned (OpenSpec.ofChange lruNoneSpec)

/-- ITS FALSE NEIGHBOUR: 'it returns false'. Refute it at one input. -/
def lruNoneWrong : ChangeSpec := { name := "lruNone", fn := fun _ => fun
  | [d] => { results := [.lit (.bool false)], args := [d] }
  | _ => none }
def LruNoneWrongFalsely : Prop := lruNoneRow.holds Try.pinned (OpenSpec.ofChange lruNoneWrong)

/- THE SECOND FORM. 'bulk': how many values and letters a reading holds, each counted each time it is reached (what is shared counts as often as it is met; a slice's spare places count too). A statement '..UptoSaid' is the law's where the arguments, and the package variables that the reading takes, are together of bulk at most 1048576: NARROWER than '..Said'. Prove '..Said' where nothing that the law and all that it calls make is longer than what came in: it says more and counts as full. Else prove '..UptoSaid'. A law counts once. -/
mutual
def uptoBulk {H : Type} : DataW H → Nat
  | .lit (.string bytes) => bytes.length + 1
  | .lit _ => 1
  | .nil => 1
  | .ptr d => uptoBulk d + 1
  | .slice elems spare => uptoBulkAll elems + uptoBulkAll spare + 1
  | .agg parts => uptoBulkAll parts + 1
  | .iface _ d => uptoBulk d + 1
  | .map entries => uptoBulkEntries entries + 1
  | .held _ => 1
def uptoBulkAll {H : Type} : List (DataW H) → Nat
  | [] => 0
  | d :: r => uptoBulk d + uptoBulkAll r
def uptoBulkEntries {H : Type} : List (Lit × DataW H) → Nat
  | [] => 0
  | x :: r => uptoBulkEntry x + uptoBulkEntries r
def uptoBulkEntry {H : Type} : Lit × DataW H → Nat
  | (.string bytes, d) => bytes.length + uptoBulk d + 1
  | (_, d) => uptoBulk d + 1
 end
def uptoSmall : (H : Type) → List (DataW H) → Bool := fun _ ds => decide (uptoBulkAll ds ≤ 1048576)
def OpenSpec.upto (s : _root_.Go.ChangeSpec) : _root_.Go.OpenSpec := { _root_.Go.OpenSpec.ofChange s with cond := some uptoSmall }

/-- 'icehouselaw12.LruSizes', WHERE WHAT IT READS IS OF BULK AT MOST 1048576: true; the input reads as it did. -/
def lruSizesUptoRow : OpenClaim := { program := "ythnagihgjenimaa", sum := "45c5e86326853a1bdf1d5e17efebf3670b613a5391dbad36cfab57ab80ea5d47", func := "icehouse/icehouselaw12.LruSizes", spec := "lruSizes", unfollowed := true, recurses := true, apart := false, narrowed := true }
def LruSizesUptoSaid : Prop := lruSizesUptoRow.holds Try.pinned (OpenSpec.upto lruSizesSpec)

/-- 'icehouselaw12.LruDrains', WHERE WHAT IT READS IS OF BULK AT MOST 1048576: true; the input reads as it did. -/
def lruDrainsUptoRow : OpenClaim := { program := "ythnagihgjenimaa", sum := "45c5e86326853a1bdf1d5e17efebf3670b613a5391dbad36cfab57ab80ea5d47", func := "icehouse/icehouselaw12.LruDrains", spec := "lruDrains", unfollowed := true, recurses := true, apart := false, narrowed := true }
def LruDrainsUptoSaid : Prop := lruDrainsUptoRow.holds Try.pinned (OpenSpec.upto lruDrainsSpec)

/-- 'icehouselaw12.LruTurns', WHERE WHAT IT READS IS OF BULK AT MOST 1048576: true; the input reads as it did. -/
def lruTurnsUptoRow : OpenClaim := { program := "ythnagihgjenimaa", sum := "45c5e86326853a1bdf1d5e17efebf3670b613a5391dbad36cfab57ab80ea5d47", func := "icehouse/icehouselaw12.LruTurns", spec := "lruTurns", unfollowed := true, recurses := true, apart := false, narrowed := true }
def LruTurnsUptoSaid : Prop := lruTurnsUptoRow.holds Try.pinned (OpenSpec.upto lruTurnsSpec)

/-- 'icehouselaw12.LruDoes', WHERE WHAT IT READS IS OF BULK AT MOST 1048576: true; the input reads as it did. -/
def lruDoesUptoRow : OpenClaim := { program := "ythnagihgjenimaa", sum := "45c5e86326853a1bdf1d5e17efebf3670b613a5391dbad36cfab57ab80ea5d47", func := "icehouse/icehouselaw12.LruDoes", spec := "lruDoes", unfollowed := true, recurses := true, apart := false, narrowed := true }
def LruDoesUptoSaid : Prop := lruDoesUptoRow.holds Try.pinned (OpenSpec.upto lruDoesSpec)

/-- 'icehouselaw12.LruNone', WHERE WHAT IT READS IS OF BULK AT MOST 1048576: true; the input reads as it did. -/
def lruNoneUptoRow : OpenClaim := { program := "ythnagihgjenimaa", sum := "45c5e86326853a1bdf1d5e17efebf3670b613a5391dbad36cfab57ab80ea5d47", func := "icehouse/icehouselaw12.LruNone", spec := "lruNone", unfollowed := true, recurses := true, apart := false, narrowed := true }
def LruNoneUptoSaid : Prop := lruNoneUptoRow.holds Try.pinned (OpenSpec.upto lruNoneSpec)

end Rows
end Go.Proofs.Ythnagihgjenimaa
