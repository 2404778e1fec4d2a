/-
  DERIVED. GIVEN WITH THE SEED: THE CARDS: each row of YthnagihgjenimaaDoorRows.lean that lists a variable, with what it lists TIED to the program's text (the seventh form; the later family's looks); each row that meets fmt, with fmt's text TOLD by the authors' own Lean function (tested against real Go, not proved from fmt's source: count such statements apart). THE CARD IS WHAT COUNTS. Prove the row's statement (the work); the ties are given (YthnagihgjenimaaDoorTie.lean); close each card by the builder's one call (the guide's Derived/Test/ToyasCard.lean, 'card_holds'). Laid BY PROGRAM, IN A SANDBOX (cutbox-door.mjs). By AI agents, Wed Nov 11 2026. No macro, syntax, notation, axiom, sorry.
-/
import Derived.Test.YthnagihgjenimaaDoorRows
import GoSem.ClaimSeven
namespace Go.Proofs.YthnagihgjenimaaDoor
namespace Rows

/-- THE TIED CARD OF 'icehouselaw11.SlabClasses'. -/
def slabClassesCard : Claim7 := { stood := { row := slabClassesRow, standIns := [], harness := (true, "f84df75468ffa591f97c247a2bd7efa63d67a37ee3f83b024460f481f5557564"), looks := false }, kinds := [], alts := [], laidByText := true, laidKinds := [.data], laidTests := true, laidLooks := .later }
def SlabClassesCardSaid : Prop := Claim7.holds Tryd.pinned (.plain (OpenSpec.ofChange slabClassesSpec)) slabClassesCard

/-- THE TIED CARD OF 'icehouselaw11.SlabApart'. -/
def slabApartCard : Claim7 := { stood := { row := slabApartRow, standIns := [], harness := (true, "f84df75468ffa591f97c247a2bd7efa63d67a37ee3f83b024460f481f5557564"), looks := false }, kinds := [], alts := [], laidByText := true, laidKinds := [.data], laidTests := true, laidLooks := .later }
def SlabApartCardSaid : Prop := Claim7.holds Tryd.pinned (.plain (OpenSpec.ofChange slabApartSpec)) slabApartCard

/-- THE TIED CARD OF 'icehouselaw11.SlabAgain'. -/
def slabAgainCard : Claim7 := { stood := { row := slabAgainRow, standIns := [], harness := (true, "f84df75468ffa591f97c247a2bd7efa63d67a37ee3f83b024460f481f5557564"), looks := false }, kinds := [], alts := [], laidByText := true, laidKinds := [.data], laidTests := true, laidLooks := .later }
def SlabAgainCardSaid : Prop := Claim7.holds Tryd.pinned (.plain (OpenSpec.ofChange slabAgainSpec)) slabAgainCard

/-- THE TIED CARD OF 'icehouselaw11.SlabGives'. -/
def slabGivesCard : Claim7 := { stood := { row := slabGivesRow, standIns := [], harness := (true, "f84df75468ffa591f97c247a2bd7efa63d67a37ee3f83b024460f481f5557564"), looks := false }, kinds := [], alts := [], laidByText := true, laidKinds := [.data], laidTests := true, laidLooks := .later }
def SlabGivesCardSaid : Prop := Claim7.holds Tryd.pinned (.plain (OpenSpec.ofChange slabGivesSpec)) slabGivesCard

/-- THE TIED CARD OF 'icehouselaw11.SlabNone'. -/
def slabNoneCard : Claim7 := { stood := { row := slabNoneRow, standIns := [], harness := (true, "f84df75468ffa591f97c247a2bd7efa63d67a37ee3f83b024460f481f5557564"), looks := false }, kinds := [], alts := [], laidByText := true, laidKinds := [.data], laidTests := true, laidLooks := .later }
def SlabNoneCardSaid : Prop := Claim7.holds Tryd.pinned (.plain (OpenSpec.ofChange slabNoneSpec)) slabNoneCard

/-- THE TIED CARD OF 'icehouselaw13.RamOldest'. -/
def ramOldestCard : Claim7 := { stood := { row := ramOldestRow, standIns := [], harness := (true, "f84df75468ffa591f97c247a2bd7efa63d67a37ee3f83b024460f481f5557564"), looks := false }, kinds := [], alts := [], laidByText := true, laidKinds := [.data], laidTests := true, laidLooks := .later }
def RamOldestCardSaid : Prop := Claim7.holds Tryd.pinned (.plain (OpenSpec.ofChange ramOldestSpec)) ramOldestCard

/-- THE TIED CARD OF 'icehouselaw13.RamKeeps'. -/
def ramKeepsCard : Claim7 := { stood := { row := ramKeepsRow, standIns := [], harness := (true, "f84df75468ffa591f97c247a2bd7efa63d67a37ee3f83b024460f481f5557564"), looks := false }, kinds := [], alts := [], laidByText := true, laidKinds := [.data], laidTests := true, laidLooks := .later }
def RamKeepsCardSaid : Prop := Claim7.holds Tryd.pinned (.plain (OpenSpec.ofChange ramKeepsSpec)) ramKeepsCard

/-- THE TIED CARD OF 'icehouselaw13.RamDoes'. -/
def ramDoesCard : Claim7 := { stood := { row := ramDoesRow, standIns := [], harness := (true, "f84df75468ffa591f97c247a2bd7efa63d67a37ee3f83b024460f481f5557564"), looks := false }, kinds := [], alts := [], laidByText := true, laidKinds := [.data], laidTests := true, laidLooks := .later }
def RamDoesCardSaid : Prop := Claim7.holds Tryd.pinned (.plain (OpenSpec.ofChange ramDoesSpec)) ramDoesCard

/-- THE TIED CARD OF 'icehouselaw13.RamNone'. -/
def ramNoneCard : Claim7 := { stood := { row := ramNoneRow, standIns := [], harness := (true, "f84df75468ffa591f97c247a2bd7efa63d67a37ee3f83b024460f481f5557564"), looks := false }, kinds := [], alts := [], laidByText := true, laidKinds := [.data], laidTests := true, laidLooks := .later }
def RamNoneCardSaid : Prop := Claim7.holds Tryd.pinned (.plain (OpenSpec.ofChange ramNoneSpec)) ramNoneCard

/-- THE SECOND FORM's CARD OF 'icehouselaw11.SlabClasses'. -/
def slabClassesUptoCard : Claim7 := { stood := { row := slabClassesUptoRow, standIns := [], harness := (true, "f84df75468ffa591f97c247a2bd7efa63d67a37ee3f83b024460f481f5557564"), looks := false }, kinds := [], alts := [], laidByText := true, laidKinds := [.data], laidTests := true, laidLooks := .later }
def SlabClassesUptoCardSaid : Prop := Claim7.holds Tryd.pinned (.plain (OpenSpec.upto slabClassesSpec)) slabClassesUptoCard

/-- THE SECOND FORM's CARD OF 'icehouselaw11.SlabApart'. -/
def slabApartUptoCard : Claim7 := { stood := { row := slabApartUptoRow, standIns := [], harness := (true, "f84df75468ffa591f97c247a2bd7efa63d67a37ee3f83b024460f481f5557564"), looks := false }, kinds := [], alts := [], laidByText := true, laidKinds := [.data], laidTests := true, laidLooks := .later }
def SlabApartUptoCardSaid : Prop := Claim7.holds Tryd.pinned (.plain (OpenSpec.upto slabApartSpec)) slabApartUptoCard

/-- THE SECOND FORM's CARD OF 'icehouselaw11.SlabAgain'. -/
def slabAgainUptoCard : Claim7 := { stood := { row := slabAgainUptoRow, standIns := [], harness := (true, "f84df75468ffa591f97c247a2bd7efa63d67a37ee3f83b024460f481f5557564"), looks := false }, kinds := [], alts := [], laidByText := true, laidKinds := [.data], laidTests := true, laidLooks := .later }
def SlabAgainUptoCardSaid : Prop := Claim7.holds Tryd.pinned (.plain (OpenSpec.upto slabAgainSpec)) slabAgainUptoCard

/-- THE SECOND FORM's CARD OF 'icehouselaw11.SlabGives'. -/
def slabGivesUptoCard : Claim7 := { stood := { row := slabGivesUptoRow, standIns := [], harness := (true, "f84df75468ffa591f97c247a2bd7efa63d67a37ee3f83b024460f481f5557564"), looks := false }, kinds := [], alts := [], laidByText := true, laidKinds := [.data], laidTests := true, laidLooks := .later }
def SlabGivesUptoCardSaid : Prop := Claim7.holds Tryd.pinned (.plain (OpenSpec.upto slabGivesSpec)) slabGivesUptoCard

/-- THE SECOND FORM's CARD OF 'icehouselaw11.SlabNone'. -/
def slabNoneUptoCard : Claim7 := { stood := { row := slabNoneUptoRow, standIns := [], harness := (true, "f84df75468ffa591f97c247a2bd7efa63d67a37ee3f83b024460f481f5557564"), looks := false }, kinds := [], alts := [], laidByText := true, laidKinds := [.data], laidTests := true, laidLooks := .later }
def SlabNoneUptoCardSaid : Prop := Claim7.holds Tryd.pinned (.plain (OpenSpec.upto slabNoneSpec)) slabNoneUptoCard

/-- THE SECOND FORM's CARD OF 'icehouselaw13.RamOldest'. -/
def ramOldestUptoCard : Claim7 := { stood := { row := ramOldestUptoRow, standIns := [], harness := (true, "f84df75468ffa591f97c247a2bd7efa63d67a37ee3f83b024460f481f5557564"), looks := false }, kinds := [], alts := [], laidByText := true, laidKinds := [.data], laidTests := true, laidLooks := .later }
def RamOldestUptoCardSaid : Prop := Claim7.holds Tryd.pinned (.plain (OpenSpec.upto ramOldestSpec)) ramOldestUptoCard

/-- THE SECOND FORM's CARD OF 'icehouselaw13.RamKeeps'. -/
def ramKeepsUptoCard : Claim7 := { stood := { row := ramKeepsUptoRow, standIns := [], harness := (true, "f84df75468ffa591f97c247a2bd7efa63d67a37ee3f83b024460f481f5557564"), looks := false }, kinds := [], alts := [], laidByText := true, laidKinds := [.data], laidTests := true, laidLooks := .later }
def RamKeepsUptoCardSaid : Prop := Claim7.holds Tryd.pinned (.plain (OpenSpec.upto ramKeepsSpec)) ramKeepsUptoCard

/-- THE SECOND FORM's CARD OF 'icehouselaw13.RamDoes'. -/
def ramDoesUptoCard : Claim7 := { stood := { row := ramDoesUptoRow, standIns := [], harness := (true, "f84df75468ffa591f97c247a2bd7efa63d67a37ee3f83b024460f481f5557564"), looks := false }, kinds := [], alts := [], laidByText := true, laidKinds := [.data], laidTests := true, laidLooks := .later }
def RamDoesUptoCardSaid : Prop := Claim7.holds Tryd.pinned (.plain (OpenSpec.upto ramDoesSpec)) ramDoesUptoCard

/-- THE SECOND FORM's CARD OF 'icehouselaw13.RamNone'. -/
def ramNoneUptoCard : Claim7 := { stood := { row := ramNoneUptoRow, standIns := [], harness := (true, "f84df75468ffa591f97c247a2bd7efa63d67a37ee3f83b024460f481f5557564"), looks := false }, kinds := [], alts := [], laidByText := true, laidKinds := [.data], laidTests := true, laidLooks := .later }
def RamNoneUptoCardSaid : Prop := Claim7.holds Tryd.pinned (.plain (OpenSpec.upto ramNoneSpec)) ramNoneUptoCard
end Rows
end Go.Proofs.YthnagihgjenimaaDoor
