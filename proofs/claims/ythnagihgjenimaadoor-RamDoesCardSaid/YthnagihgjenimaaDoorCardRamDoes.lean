/- RamDoes: for every input the law returns true, and each argument reads afterwards as it read before. No further condition. The tied card. -/
import Derived.Test.YthnagihgjenimaaDoorRowRamDoes
namespace Go.Proofs.YthnagihgjenimaaDoor.ramDoes
open Go
theorem proved : Rows.RamDoesCardSaid :=
  Claim7.holds_tied_plain_at .later [] [.data] true (true, "f84df75468ffa591f97c247a2bd7efa63d67a37ee3f83b024460f481f5557564") false
    over (fun _ h => by cases h) (by kernel_rfl) (fun _ h => by cases h) ramDoes_row_tie rfl ⟨rfl, rfl⟩ (by kernel_rfl) rfl
    (fun f fn hf hfn => by
      obtain rfl : f = 10 := Option.some.inj ((show Tryd.prog.funcNamed "icehouse/icehouselaw13.RamDoes" = some 10 by kernel_rfl).symm.trans hf) |>.symm
      obtain rfl : fn = Tryd.f10 := (Option.some.inj (Tryd.func10.symm.trans hfn)).symm
      exact ⟨by kernel_rfl, fun j t ht => by
        rw [Tryd.params10] at ht
        have h3 : t = 3 ∨ t = 71 := by
          rcases j with _ | j
          · left; simpa using ht.symm
          · rcases j with _ | j
            · right; simpa using ht.symm
            · simp at ht
        rcases h3 with rfl | rfl
        · exact (show Tryd.prog.wantsStandIn 3 = false by kernel_rfl)
        · exact (show Tryd.prog.wantsStandIn 71 = false by kernel_rfl)⟩)
    (by kernel_rfl)
#print axioms proved
end Go.Proofs.YthnagihgjenimaaDoor.ramDoes
