/-
  NARROWER THAN 'FOR EVERY INPUT', by the rows' own cells (each row's printed sentence says how): SlabClasses: laid · SlabApart: laid · SlabAgain: laid · SlabGives: laid · SlabNone: laid · RamOldest: laid · RamKeeps: laid · RamDoes: laid · RamNone: laid.
  DERIVED. THE GIVEN ROWS OF THIS SEAT. 9 by the template 'for every input the law returns true; each argument reads behind the call as it read before'; 0 by the template 'total and deterministic' (their statements: YthnagihgjenimaaDoorTotals.lean).
  GIVEN WITH THE SEED: the statements are not yours to turn. If you find one false, say at which input.
  Laid BY PROGRAM, IN A SANDBOX (cutbox-rows.mjs): the forced cells as the released guide's own fill.sh prints them over the translation e3b9228f077c222f… (all of the seat's roots in one cut). By AI agents, Wed Nov 11 2026. No macro, syntax, notation, axiom, sorry.
-/
import Derived.Test.YthnagihgjenimaaDoorChecked
import GoSem.Claim
import GoSem.ClaimJoined
import GoSem.ClaimMapViews
import Derived.JoinedTies
import Derived.KernelRfl
namespace Go.Proofs.YthnagihgjenimaaDoor
/- THE CELL 'sum', in the pinned program and in every row, IS THE sha256 OF THE DUMP (.gsa) THAT YthnagihgjenimaaDoorProg.lean LOADS. Nothing in Lean hashes anything: it is a label: what it is worth is what the hold of that sum in a sandbox is worth. -/
noncomputable def Tryd.pinned : Pinned := { name := "ythnagihgjenimaadoor", sum := "e3b9228f077c222fc11a57129ff9697c4975cce49b8c2d3fffd91225805b513d", checked := Tryd.checked }
namespace Rows
def none {H : Type} : Left H := { results := [], args := [] }

/- WHAT THE LISTED PACKAGE-LEVEL VARIABLES READ AS WHEN THE CALL BEGINS. Each datum BY PROGRAM (the guide's laid-datum.mjs) off the statement by which the dump's own 'gosem.cut.vars' lays the variable. In a bare row this is a premise. The card (YthnagihgjenimaaDoorCards.lean) ties it to the program's text. -/
def laid_math_bits_deBruijn32tab {H : Type} : DataW H := .agg [.lit (.int .u8 0), .lit (.int .u8 1), .lit (.int .u8 28), .lit (.int .u8 2), .lit (.int .u8 29), .lit (.int .u8 14), .lit (.int .u8 24), .lit (.int .u8 3), .lit (.int .u8 30), .lit (.int .u8 22), .lit (.int .u8 20), .lit (.int .u8 15), .lit (.int .u8 25), .lit (.int .u8 17), .lit (.int .u8 4), .lit (.int .u8 8), .lit (.int .u8 31), .lit (.int .u8 27), .lit (.int .u8 13), .lit (.int .u8 23), .lit (.int .u8 21), .lit (.int .u8 19), .lit (.int .u8 16), .lit (.int .u8 7), .lit (.int .u8 26), .lit (.int .u8 12), .lit (.int .u8 18), .lit (.int .u8 6), .lit (.int .u8 11), .lit (.int .u8 5), .lit (.int .u8 10), .lit (.int .u8 9)]

/-- 'icehouselaw11.SlabClasses': WHATEVER THE INPUT: true; the input reads as it did. -/
def slabClassesSpec : ChangeSpec := { name := "slabClasses", fn := fun _ => fun
  | [d1, d2] => { results := [.lit (.bool true)], args := [d1, d2] }
  | _ => none }
def slabClassesRow : OpenClaim := { program := "ythnagihgjenimaadoor", sum := "e3b9228f077c222fc11a57129ff9697c4975cce49b8c2d3fffd91225805b513d", func := "icehouse/icehouselaw11.SlabClasses", spec := "slabClasses", named := ["math/bits.deBruijn32tab"], apart := false, laid := [("math/bits.deBruijn32tab", laid_math_bits_deBruijn32tab)] }
def SlabClassesSaid : Prop := slabClassesRow.holds Tryd.pinned (OpenSpec.ofChange slabClassesSpec)

/-- ITS FALSE NEIGHBOUR: 'it returns false'. Refute it at one input. -/
def slabClassesWrong : ChangeSpec := { name := "slabClasses", fn := fun _ => fun
  | [d1, d2] => { results := [.lit (.bool false)], args := [d1, d2] }
  | _ => none }
def SlabClassesWrongFalsely : Prop := slabClassesRow.holds Tryd.pinned (OpenSpec.ofChange slabClassesWrong)

/-- 'icehouselaw11.SlabApart': WHATEVER THE INPUT: true; the input reads as it did. -/
def slabApartSpec : ChangeSpec := { name := "slabApart", fn := fun _ => fun
  | [d1, d2] => { results := [.lit (.bool true)], args := [d1, d2] }
  | _ => none }
def slabApartRow : OpenClaim := { program := "ythnagihgjenimaadoor", sum := "e3b9228f077c222fc11a57129ff9697c4975cce49b8c2d3fffd91225805b513d", func := "icehouse/icehouselaw11.SlabApart", spec := "slabApart", named := ["math/bits.deBruijn32tab"], apart := false, laid := [("math/bits.deBruijn32tab", laid_math_bits_deBruijn32tab)] }
def SlabApartSaid : Prop := slabApartRow.holds Tryd.pinned (OpenSpec.ofChange slabApartSpec)

/-- ITS FALSE NEIGHBOUR: 'it returns false'. Refute it at one input. -/
def slabApartWrong : ChangeSpec := { name := "slabApart", fn := fun _ => fun
  | [d1, d2] => { results := [.lit (.bool false)], args := [d1, d2] }
  | _ => none }
def SlabApartWrongFalsely : Prop := slabApartRow.holds Tryd.pinned (OpenSpec.ofChange slabApartWrong)

/-- 'icehouselaw11.SlabAgain': WHATEVER THE INPUT: true; the input reads as it did. -/
def slabAgainSpec : ChangeSpec := { name := "slabAgain", fn := fun _ => fun
  | [d1, d2] => { results := [.lit (.bool true)], args := [d1, d2] }
  | _ => none }
def slabAgainRow : OpenClaim := { program := "ythnagihgjenimaadoor", sum := "e3b9228f077c222fc11a57129ff9697c4975cce49b8c2d3fffd91225805b513d", func := "icehouse/icehouselaw11.SlabAgain", spec := "slabAgain", named := ["math/bits.deBruijn32tab"], apart := false, laid := [("math/bits.deBruijn32tab", laid_math_bits_deBruijn32tab)] }
def SlabAgainSaid : Prop := slabAgainRow.holds Tryd.pinned (OpenSpec.ofChange slabAgainSpec)

/-- ITS FALSE NEIGHBOUR: 'it returns false'. Refute it at one input. -/
def slabAgainWrong : ChangeSpec := { name := "slabAgain", fn := fun _ => fun
  | [d1, d2] => { results := [.lit (.bool false)], args := [d1, d2] }
  | _ => none }
def SlabAgainWrongFalsely : Prop := slabAgainRow.holds Tryd.pinned (OpenSpec.ofChange slabAgainWrong)

/-- 'icehouselaw11.SlabGives': WHATEVER THE INPUT: true; the input reads as it did. -/
def slabGivesSpec : ChangeSpec := { name := "slabGives", fn := fun _ => fun
  | [d1, d2] => { results := [.lit (.bool true)], args := [d1, d2] }
  | _ => none }
def slabGivesRow : OpenClaim := { program := "ythnagihgjenimaadoor", sum := "e3b9228f077c222fc11a57129ff9697c4975cce49b8c2d3fffd91225805b513d", func := "icehouse/icehouselaw11.SlabGives", spec := "slabGives", named := ["math/bits.deBruijn32tab"], apart := false, laid := [("math/bits.deBruijn32tab", laid_math_bits_deBruijn32tab)] }
def SlabGivesSaid : Prop := slabGivesRow.holds Tryd.pinned (OpenSpec.ofChange slabGivesSpec)

/-- ITS FALSE NEIGHBOUR: 'it returns false'. Refute it at one input. -/
def slabGivesWrong : ChangeSpec := { name := "slabGives", fn := fun _ => fun
  | [d1, d2] => { results := [.lit (.bool false)], args := [d1, d2] }
  | _ => none }
def SlabGivesWrongFalsely : Prop := slabGivesRow.holds Tryd.pinned (OpenSpec.ofChange slabGivesWrong)

/-- 'icehouselaw11.SlabNone': WHATEVER THE INPUT: true; the input reads as it did. -/
def slabNoneSpec : ChangeSpec := { name := "slabNone", fn := fun _ => fun
  | [d] => { results := [.lit (.bool true)], args := [d] }
  | _ => none }
def slabNoneRow : OpenClaim := { program := "ythnagihgjenimaadoor", sum := "e3b9228f077c222fc11a57129ff9697c4975cce49b8c2d3fffd91225805b513d", func := "icehouse/icehouselaw11.SlabNone", spec := "slabNone", named := ["math/bits.deBruijn32tab"], apart := false, laid := [("math/bits.deBruijn32tab", laid_math_bits_deBruijn32tab)] }
def SlabNoneSaid : Prop := slabNoneRow.holds Tryd.pinned (OpenSpec.ofChange slabNoneSpec)

/-- ITS FALSE NEIGHBOUR: 'it returns false'. Refute it at one input. -/
def slabNoneWrong : ChangeSpec := { name := "slabNone", fn := fun _ => fun
  | [d] => { results := [.lit (.bool false)], args := [d] }
  | _ => none }
def SlabNoneWrongFalsely : Prop := slabNoneRow.holds Tryd.pinned (OpenSpec.ofChange slabNoneWrong)

/-- 'icehouselaw13.RamOldest': WHATEVER THE INPUT: true; the input reads as it did. -/
def ramOldestSpec : ChangeSpec := { name := "ramOldest", fn := fun _ => fun
  | [d1, d2] => { results := [.lit (.bool true)], args := [d1, d2] }
  | _ => none }
def ramOldestRow : OpenClaim := { program := "ythnagihgjenimaadoor", sum := "e3b9228f077c222fc11a57129ff9697c4975cce49b8c2d3fffd91225805b513d", func := "icehouse/icehouselaw13.RamOldest", spec := "ramOldest", unfollowed := true, recurses := true, named := ["math/bits.deBruijn32tab"], apart := false, laid := [("math/bits.deBruijn32tab", laid_math_bits_deBruijn32tab)] }
def RamOldestSaid : Prop := ramOldestRow.holds Tryd.pinned (OpenSpec.ofChange ramOldestSpec)

/-- ITS FALSE NEIGHBOUR: 'it returns false'. Refute it at one input. -/
def ramOldestWrong : ChangeSpec := { name := "ramOldest", fn := fun _ => fun
  | [d1, d2] => { results := [.lit (.bool false)], args := [d1, d2] }
  | _ => none }
def RamOldestWrongFalsely : Prop := ramOldestRow.holds Tryd.pinned (OpenSpec.ofChange ramOldestWrong)

/-- 'icehouselaw13.RamKeeps': WHATEVER THE INPUT: true; the input reads as it did. -/
def ramKeepsSpec : ChangeSpec := { name := "ramKeeps", fn := fun _ => fun
  | [d1, d2] => { results := [.lit (.bool true)], args := [d1, d2] }
  | _ => none }
def ramKeepsRow : OpenClaim := { program := "ythnagihgjenimaadoor", sum := "e3b9228f077c222fc11a57129ff9697c4975cce49b8c2d3fffd91225805b513d", func := "icehouse/icehouselaw13.RamKeeps", spec := "ramKeeps", unfollowed := true, recurses := true, named := ["math/bits.deBruijn32tab"], apart := false, laid := [("math/bits.deBruijn32tab", laid_math_bits_deBruijn32tab)] }
def RamKeepsSaid : Prop := ramKeepsRow.holds Tryd.pinned (OpenSpec.ofChange ramKeepsSpec)

/-- ITS FALSE NEIGHBOUR: 'it returns false'. Refute it at one input. -/
def ramKeepsWrong : ChangeSpec := { name := "ramKeeps", fn := fun _ => fun
  | [d1, d2] => { results := [.lit (.bool false)], args := [d1, d2] }
  | _ => none }
def RamKeepsWrongFalsely : Prop := ramKeepsRow.holds Tryd.pinned (OpenSpec.ofChange ramKeepsWrong)

/-- 'icehouselaw13.RamDoes': WHATEVER THE INPUT: true; the input reads as it did. -/
def ramDoesSpec : ChangeSpec := { name := "ramDoes", fn := fun _ => fun
  | [d1, d2] => { results := [.lit (.bool true)], args := [d1, d2] }
  | _ => none }
def ramDoesRow : OpenClaim := { program := "ythnagihgjenimaadoor", sum := "e3b9228f077c222fc11a57129ff9697c4975cce49b8c2d3fffd91225805b513d", func := "icehouse/icehouselaw13.RamDoes", spec := "ramDoes", unfollowed := true, recurses := true, named := ["math/bits.deBruijn32tab"], apart := false, laid := [("math/bits.deBruijn32tab", laid_math_bits_deBruijn32tab)] }
def RamDoesSaid : Prop := ramDoesRow.holds Tryd.pinned (OpenSpec.ofChange ramDoesSpec)

/-- ITS FALSE NEIGHBOUR: 'it returns false'. Refute it at one input. -/
def ramDoesWrong : ChangeSpec := { name := "ramDoes", fn := fun _ => fun
  | [d1, d2] => { results := [.lit (.bool false)], args := [d1, d2] }
  | _ => none }
def RamDoesWrongFalsely : Prop := ramDoesRow.holds Tryd.pinned (OpenSpec.ofChange ramDoesWrong)

/-- 'icehouselaw13.RamNone': WHATEVER THE INPUT: true; the input reads as it did. -/
def ramNoneSpec : ChangeSpec := { name := "ramNone", fn := fun _ => fun
  | [d] => { results := [.lit (.bool true)], args := [d] }
  | _ => none }
def ramNoneRow : OpenClaim := { program := "ythnagihgjenimaadoor", sum := "e3b9228f077c222fc11a57129ff9697c4975cce49b8c2d3fffd91225805b513d", func := "icehouse/icehouselaw13.RamNone", spec := "ramNone", unfollowed := true, recurses := true, named := ["math/bits.deBruijn32tab"], apart := false, laid := [("math/bits.deBruijn32tab", laid_math_bits_deBruijn32tab)] }
def RamNoneSaid : Prop := ramNoneRow.holds Tryd.pinned (OpenSpec.ofChange ramNoneSpec)

/-- ITS FALSE NEIGHBOUR: 'it returns false'. Refute it at one input. -/
def ramNoneWrong : ChangeSpec := { name := "ramNone", fn := fun _ => fun
  | [d] => { results := [.lit (.bool false)], args := [d] }
  | _ => none }
def RamNoneWrongFalsely : Prop := ramNoneRow.holds Tryd.pinned (OpenSpec.ofChange ramNoneWrong)

/- THE SECOND FORM. 'bulk': how many values and letters a reading holds, each counted each time it is reached (what is shared counts as often as it is met; a slice's spare places count too). A statement '..UptoSaid' is the law's where the arguments, and the package variables that the reading takes, are together of bulk at most 1048576: NARROWER than '..Said'. Prove '..Said' where nothing that the law and all that it calls make is longer than what came in: it says more and counts as full. Else prove '..UptoSaid'. A law counts once. -/
mutual
def uptoBulk {H : Type} : DataW H → Nat
  | .lit (.string bytes) => bytes.length + 1
  | .lit _ => 1
  | .nil => 1
  | .ptr d => uptoBulk d + 1
  | .slice elems spare => uptoBulkAll elems + uptoBulkAll spare + 1
  | .agg parts => uptoBulkAll parts + 1
  | .iface _ d => uptoBulk d + 1
  | .map entries => uptoBulkEntries entries + 1
  | .held _ => 1
def uptoBulkAll {H : Type} : List (DataW H) → Nat
  | [] => 0
  | d :: r => uptoBulk d + uptoBulkAll r
def uptoBulkEntries {H : Type} : List (Lit × DataW H) → Nat
  | [] => 0
  | x :: r => uptoBulkEntry x + uptoBulkEntries r
def uptoBulkEntry {H : Type} : Lit × DataW H → Nat
  | (.string bytes, d) => bytes.length + uptoBulk d + 1
  | (_, d) => uptoBulk d + 1
 end
def uptoSmall : (H : Type) → List (DataW H) → Bool := fun _ ds => decide (uptoBulkAll ds ≤ 1048576)
def OpenSpec.upto (s : _root_.Go.ChangeSpec) : _root_.Go.OpenSpec := { _root_.Go.OpenSpec.ofChange s with cond := some uptoSmall }

/-- 'icehouselaw11.SlabClasses', WHERE WHAT IT READS IS OF BULK AT MOST 1048576: true; the input reads as it did. -/
def slabClassesUptoRow : OpenClaim := { program := "ythnagihgjenimaadoor", sum := "e3b9228f077c222fc11a57129ff9697c4975cce49b8c2d3fffd91225805b513d", func := "icehouse/icehouselaw11.SlabClasses", spec := "slabClasses", named := ["math/bits.deBruijn32tab"], apart := false, laid := [("math/bits.deBruijn32tab", laid_math_bits_deBruijn32tab)], narrowed := true }
def SlabClassesUptoSaid : Prop := slabClassesUptoRow.holds Tryd.pinned (OpenSpec.upto slabClassesSpec)

/-- 'icehouselaw11.SlabApart', WHERE WHAT IT READS IS OF BULK AT MOST 1048576: true; the input reads as it did. -/
def slabApartUptoRow : OpenClaim := { program := "ythnagihgjenimaadoor", sum := "e3b9228f077c222fc11a57129ff9697c4975cce49b8c2d3fffd91225805b513d", func := "icehouse/icehouselaw11.SlabApart", spec := "slabApart", named := ["math/bits.deBruijn32tab"], apart := false, laid := [("math/bits.deBruijn32tab", laid_math_bits_deBruijn32tab)], narrowed := true }
def SlabApartUptoSaid : Prop := slabApartUptoRow.holds Tryd.pinned (OpenSpec.upto slabApartSpec)

/-- 'icehouselaw11.SlabAgain', WHERE WHAT IT READS IS OF BULK AT MOST 1048576: true; the input reads as it did. -/
def slabAgainUptoRow : OpenClaim := { program := "ythnagihgjenimaadoor", sum := "e3b9228f077c222fc11a57129ff9697c4975cce49b8c2d3fffd91225805b513d", func := "icehouse/icehouselaw11.SlabAgain", spec := "slabAgain", named := ["math/bits.deBruijn32tab"], apart := false, laid := [("math/bits.deBruijn32tab", laid_math_bits_deBruijn32tab)], narrowed := true }
def SlabAgainUptoSaid : Prop := slabAgainUptoRow.holds Tryd.pinned (OpenSpec.upto slabAgainSpec)

/-- 'icehouselaw11.SlabGives', WHERE WHAT IT READS IS OF BULK AT MOST 1048576: true; the input reads as it did. -/
def slabGivesUptoRow : OpenClaim := { program := "ythnagihgjenimaadoor", sum := "e3b9228f077c222fc11a57129ff9697c4975cce49b8c2d3fffd91225805b513d", func := "icehouse/icehouselaw11.SlabGives", spec := "slabGives", named := ["math/bits.deBruijn32tab"], apart := false, laid := [("math/bits.deBruijn32tab", laid_math_bits_deBruijn32tab)], narrowed := true }
def SlabGivesUptoSaid : Prop := slabGivesUptoRow.holds Tryd.pinned (OpenSpec.upto slabGivesSpec)

/-- 'icehouselaw11.SlabNone', WHERE WHAT IT READS IS OF BULK AT MOST 1048576: true; the input reads as it did. -/
def slabNoneUptoRow : OpenClaim := { program := "ythnagihgjenimaadoor", sum := "e3b9228f077c222fc11a57129ff9697c4975cce49b8c2d3fffd91225805b513d", func := "icehouse/icehouselaw11.SlabNone", spec := "slabNone", named := ["math/bits.deBruijn32tab"], apart := false, laid := [("math/bits.deBruijn32tab", laid_math_bits_deBruijn32tab)], narrowed := true }
def SlabNoneUptoSaid : Prop := slabNoneUptoRow.holds Tryd.pinned (OpenSpec.upto slabNoneSpec)

/-- 'icehouselaw13.RamOldest', WHERE WHAT IT READS IS OF BULK AT MOST 1048576: true; the input reads as it did. -/
def ramOldestUptoRow : OpenClaim := { program := "ythnagihgjenimaadoor", sum := "e3b9228f077c222fc11a57129ff9697c4975cce49b8c2d3fffd91225805b513d", func := "icehouse/icehouselaw13.RamOldest", spec := "ramOldest", unfollowed := true, recurses := true, named := ["math/bits.deBruijn32tab"], apart := false, laid := [("math/bits.deBruijn32tab", laid_math_bits_deBruijn32tab)], narrowed := true }
def RamOldestUptoSaid : Prop := ramOldestUptoRow.holds Tryd.pinned (OpenSpec.upto ramOldestSpec)

/-- 'icehouselaw13.RamKeeps', WHERE WHAT IT READS IS OF BULK AT MOST 1048576: true; the input reads as it did. -/
def ramKeepsUptoRow : OpenClaim := { program := "ythnagihgjenimaadoor", sum := "e3b9228f077c222fc11a57129ff9697c4975cce49b8c2d3fffd91225805b513d", func := "icehouse/icehouselaw13.RamKeeps", spec := "ramKeeps", unfollowed := true, recurses := true, named := ["math/bits.deBruijn32tab"], apart := false, laid := [("math/bits.deBruijn32tab", laid_math_bits_deBruijn32tab)], narrowed := true }
def RamKeepsUptoSaid : Prop := ramKeepsUptoRow.holds Tryd.pinned (OpenSpec.upto ramKeepsSpec)

/-- 'icehouselaw13.RamDoes', WHERE WHAT IT READS IS OF BULK AT MOST 1048576: true; the input reads as it did. -/
def ramDoesUptoRow : OpenClaim := { program := "ythnagihgjenimaadoor", sum := "e3b9228f077c222fc11a57129ff9697c4975cce49b8c2d3fffd91225805b513d", func := "icehouse/icehouselaw13.RamDoes", spec := "ramDoes", unfollowed := true, recurses := true, named := ["math/bits.deBruijn32tab"], apart := false, laid := [("math/bits.deBruijn32tab", laid_math_bits_deBruijn32tab)], narrowed := true }
def RamDoesUptoSaid : Prop := ramDoesUptoRow.holds Tryd.pinned (OpenSpec.upto ramDoesSpec)

/-- 'icehouselaw13.RamNone', WHERE WHAT IT READS IS OF BULK AT MOST 1048576: true; the input reads as it did. -/
def ramNoneUptoRow : OpenClaim := { program := "ythnagihgjenimaadoor", sum := "e3b9228f077c222fc11a57129ff9697c4975cce49b8c2d3fffd91225805b513d", func := "icehouse/icehouselaw13.RamNone", spec := "ramNone", unfollowed := true, recurses := true, named := ["math/bits.deBruijn32tab"], apart := false, laid := [("math/bits.deBruijn32tab", laid_math_bits_deBruijn32tab)], narrowed := true }
def RamNoneUptoSaid : Prop := ramNoneUptoRow.holds Tryd.pinned (OpenSpec.upto ramNoneSpec)

end Rows
end Go.Proofs.YthnagihgjenimaaDoor
