/-
  No cell of these rows narrows 'for every input' (looked for: loops, veiled, ifaces, maps, wideKeys, modest, calm, conditions, laid).
  DERIVED. THE GIVEN ROWS OF THIS SEAT. 5 by the template 'for every input the law returns true; each argument reads behind the call as it read before'; 0 by the template 'total and deterministic' (their statements: YtpmeogbjigkalaaTotals.lean).
  GIVEN WITH THE SEED: the statements are not yours to turn. If you find one false, say at which input.
  Laid BY PROGRAM, IN A SANDBOX (cutbox-rows.mjs): the forced cells as the released guide's own fill.sh prints them over the translation 8972667e37d9082b… (all of the seat's roots in one cut). By AI agents, Wed Nov 11 2026. No macro, syntax, notation, axiom, sorry.
-/
import Derived.Test.YtpmeogbjigkalaaChecked
import GoSem.Claim
import GoSem.ClaimJoined
import GoSem.ClaimMapViews
import Derived.JoinedTies
import Derived.KernelRfl
namespace Go.Proofs.Ytpmeogbjigkalaa
/- THE CELL 'sum', in the pinned program and in every row, IS THE sha256 OF THE DUMP (.gsa) THAT YtpmeogbjigkalaaProg.lean LOADS. Nothing in Lean hashes anything: it is a label: what it is worth is what the hold of that sum in a sandbox is worth. -/
noncomputable def Try.pinned : Pinned := { name := "ytpmeogbjigkalaa", sum := "8972667e37d9082bfdadeeb48feb2bb97d30d75bf43a5251ca5af81cbb023fab", checked := Try.checked }
namespace Rows
def none {H : Type} : Left H := { results := [], args := [] }

/-- 'icehouselaw03.HashProbes': WHATEVER THE INPUT: true; the input reads as it did. -/
def hashProbesSpec : ChangeSpec := { name := "hashProbes", fn := fun _ => fun
  | [d1, d2, d3] => { results := [.lit (.bool true)], args := [d1, d2, d3] }
  | _ => none }
def hashProbesRow : OpenClaim := { program := "ytpmeogbjigkalaa", sum := "8972667e37d9082bfdadeeb48feb2bb97d30d75bf43a5251ca5af81cbb023fab", func := "icehouse/icehouselaw03.HashProbes", spec := "hashProbes", apart := false }
def HashProbesSaid : Prop := hashProbesRow.holds Try.pinned (OpenSpec.ofChange hashProbesSpec)

/-- ITS FALSE NEIGHBOUR: 'it returns false'. Refute it at one input. -/
def hashProbesWrong : ChangeSpec := { name := "hashProbes", fn := fun _ => fun
  | [d1, d2, d3] => { results := [.lit (.bool false)], args := [d1, d2, d3] }
  | _ => none }
def HashProbesWrongFalsely : Prop := hashProbesRow.holds Try.pinned (OpenSpec.ofChange hashProbesWrong)

/-- 'icehouselaw03.HashApart': WHATEVER THE INPUT: true; the input reads as it did. -/
def hashApartSpec : ChangeSpec := { name := "hashApart", fn := fun _ => fun
  | [d1, d2, d3] => { results := [.lit (.bool true)], args := [d1, d2, d3] }
  | _ => none }
def hashApartRow : OpenClaim := { program := "ytpmeogbjigkalaa", sum := "8972667e37d9082bfdadeeb48feb2bb97d30d75bf43a5251ca5af81cbb023fab", func := "icehouse/icehouselaw03.HashApart", spec := "hashApart", apart := false }
def HashApartSaid : Prop := hashApartRow.holds Try.pinned (OpenSpec.ofChange hashApartSpec)

/-- ITS FALSE NEIGHBOUR: 'it returns false'. Refute it at one input. -/
def hashApartWrong : ChangeSpec := { name := "hashApart", fn := fun _ => fun
  | [d1, d2, d3] => { results := [.lit (.bool false)], args := [d1, d2, d3] }
  | _ => none }
def HashApartWrongFalsely : Prop := hashApartRow.holds Try.pinned (OpenSpec.ofChange hashApartWrong)

/-- 'icehouselaw03.HashWithin': WHATEVER THE INPUT: true; the input reads as it did. -/
def hashWithinSpec : ChangeSpec := { name := "hashWithin", fn := fun _ => fun
  | [d1, d2, d3] => { results := [.lit (.bool true)], args := [d1, d2, d3] }
  | _ => none }
def hashWithinRow : OpenClaim := { program := "ytpmeogbjigkalaa", sum := "8972667e37d9082bfdadeeb48feb2bb97d30d75bf43a5251ca5af81cbb023fab", func := "icehouse/icehouselaw03.HashWithin", spec := "hashWithin", apart := false }
def HashWithinSaid : Prop := hashWithinRow.holds Try.pinned (OpenSpec.ofChange hashWithinSpec)

/-- ITS FALSE NEIGHBOUR: 'it returns false'. Refute it at one input. -/
def hashWithinWrong : ChangeSpec := { name := "hashWithin", fn := fun _ => fun
  | [d1, d2, d3] => { results := [.lit (.bool false)], args := [d1, d2, d3] }
  | _ => none }
def HashWithinWrongFalsely : Prop := hashWithinRow.holds Try.pinned (OpenSpec.ofChange hashWithinWrong)

/-- 'icehouselaw03.HashBytes': WHATEVER THE INPUT: true; the input reads as it did. -/
def hashBytesSpec : ChangeSpec := { name := "hashBytes", fn := fun _ => fun
  | [d1, d2, d3] => { results := [.lit (.bool true)], args := [d1, d2, d3] }
  | _ => none }
def hashBytesRow : OpenClaim := { program := "ytpmeogbjigkalaa", sum := "8972667e37d9082bfdadeeb48feb2bb97d30d75bf43a5251ca5af81cbb023fab", func := "icehouse/icehouselaw03.HashBytes", spec := "hashBytes", apart := false }
def HashBytesSaid : Prop := hashBytesRow.holds Try.pinned (OpenSpec.ofChange hashBytesSpec)

/-- ITS FALSE NEIGHBOUR: 'it returns false'. Refute it at one input. -/
def hashBytesWrong : ChangeSpec := { name := "hashBytes", fn := fun _ => fun
  | [d1, d2, d3] => { results := [.lit (.bool false)], args := [d1, d2, d3] }
  | _ => none }
def HashBytesWrongFalsely : Prop := hashBytesRow.holds Try.pinned (OpenSpec.ofChange hashBytesWrong)

/-- 'icehouselaw03.HashParts': WHATEVER THE INPUT: true; the input reads as it did. -/
def hashPartsSpec : ChangeSpec := { name := "hashParts", fn := fun _ => fun
  | [d1, d2] => { results := [.lit (.bool true)], args := [d1, d2] }
  | _ => none }
def hashPartsRow : OpenClaim := { program := "ytpmeogbjigkalaa", sum := "8972667e37d9082bfdadeeb48feb2bb97d30d75bf43a5251ca5af81cbb023fab", func := "icehouse/icehouselaw03.HashParts", spec := "hashParts", apart := false }
def HashPartsSaid : Prop := hashPartsRow.holds Try.pinned (OpenSpec.ofChange hashPartsSpec)

/-- ITS FALSE NEIGHBOUR: 'it returns false'. Refute it at one input. -/
def hashPartsWrong : ChangeSpec := { name := "hashParts", fn := fun _ => fun
  | [d1, d2] => { results := [.lit (.bool false)], args := [d1, d2] }
  | _ => none }
def HashPartsWrongFalsely : Prop := hashPartsRow.holds Try.pinned (OpenSpec.ofChange hashPartsWrong)

/- THE SECOND FORM. 'bulk': how many values and letters a reading holds, each counted each time it is reached (what is shared counts as often as it is met; a slice's spare places count too). A statement '..UptoSaid' is the law's where the arguments, and the package variables that the reading takes, are together of bulk at most 1048576: NARROWER than '..Said'. Prove '..Said' where nothing that the law and all that it calls make is longer than what came in: it says more and counts as full. Else prove '..UptoSaid'. A law counts once. -/
mutual
def uptoBulk {H : Type} : DataW H → Nat
  | .lit (.string bytes) => bytes.length + 1
  | .lit _ => 1
  | .nil => 1
  | .ptr d => uptoBulk d + 1
  | .slice elems spare => uptoBulkAll elems + uptoBulkAll spare + 1
  | .agg parts => uptoBulkAll parts + 1
  | .iface _ d => uptoBulk d + 1
  | .map entries => uptoBulkEntries entries + 1
  | .held _ => 1
def uptoBulkAll {H : Type} : List (DataW H) → Nat
  | [] => 0
  | d :: r => uptoBulk d + uptoBulkAll r
def uptoBulkEntries {H : Type} : List (Lit × DataW H) → Nat
  | [] => 0
  | x :: r => uptoBulkEntry x + uptoBulkEntries r
def uptoBulkEntry {H : Type} : Lit × DataW H → Nat
  | (.string bytes, d) => bytes.length + uptoBulk d + 1
  | (_, d) => uptoBulk d + 1
 end
def uptoSmall : (H : Type) → List (DataW H) → Bool := fun _ ds => decide (uptoBulkAll ds ≤ 1048576)
def OpenSpec.upto (s : _root_.Go.ChangeSpec) : _root_.Go.OpenSpec := { _root_.Go.OpenSpec.ofChange s with cond := some uptoSmall }

/-- 'icehouselaw03.HashProbes', WHERE WHAT IT READS IS OF BULK AT MOST 1048576: true; the input reads as it did. -/
def hashProbesUptoRow : OpenClaim := { program := "ytpmeogbjigkalaa", sum := "8972667e37d9082bfdadeeb48feb2bb97d30d75bf43a5251ca5af81cbb023fab", func := "icehouse/icehouselaw03.HashProbes", spec := "hashProbes", apart := false, narrowed := true }
def HashProbesUptoSaid : Prop := hashProbesUptoRow.holds Try.pinned (OpenSpec.upto hashProbesSpec)

/-- 'icehouselaw03.HashApart', WHERE WHAT IT READS IS OF BULK AT MOST 1048576: true; the input reads as it did. -/
def hashApartUptoRow : OpenClaim := { program := "ytpmeogbjigkalaa", sum := "8972667e37d9082bfdadeeb48feb2bb97d30d75bf43a5251ca5af81cbb023fab", func := "icehouse/icehouselaw03.HashApart", spec := "hashApart", apart := false, narrowed := true }
def HashApartUptoSaid : Prop := hashApartUptoRow.holds Try.pinned (OpenSpec.upto hashApartSpec)

/-- 'icehouselaw03.HashWithin', WHERE WHAT IT READS IS OF BULK AT MOST 1048576: true; the input reads as it did. -/
def hashWithinUptoRow : OpenClaim := { program := "ytpmeogbjigkalaa", sum := "8972667e37d9082bfdadeeb48feb2bb97d30d75bf43a5251ca5af81cbb023fab", func := "icehouse/icehouselaw03.HashWithin", spec := "hashWithin", apart := false, narrowed := true }
def HashWithinUptoSaid : Prop := hashWithinUptoRow.holds Try.pinned (OpenSpec.upto hashWithinSpec)

/-- 'icehouselaw03.HashBytes', WHERE WHAT IT READS IS OF BULK AT MOST 1048576: true; the input reads as it did. -/
def hashBytesUptoRow : OpenClaim := { program := "ytpmeogbjigkalaa", sum := "8972667e37d9082bfdadeeb48feb2bb97d30d75bf43a5251ca5af81cbb023fab", func := "icehouse/icehouselaw03.HashBytes", spec := "hashBytes", apart := false, narrowed := true }
def HashBytesUptoSaid : Prop := hashBytesUptoRow.holds Try.pinned (OpenSpec.upto hashBytesSpec)

/-- 'icehouselaw03.HashParts', WHERE WHAT IT READS IS OF BULK AT MOST 1048576: true; the input reads as it did. -/
def hashPartsUptoRow : OpenClaim := { program := "ytpmeogbjigkalaa", sum := "8972667e37d9082bfdadeeb48feb2bb97d30d75bf43a5251ca5af81cbb023fab", func := "icehouse/icehouselaw03.HashParts", spec := "hashParts", apart := false, narrowed := true }
def HashPartsUptoSaid : Prop := hashPartsUptoRow.holds Try.pinned (OpenSpec.upto hashPartsSpec)

end Rows
end Go.Proofs.Ytpmeogbjigkalaa
