/- RamOldest: for every input the law returns true, and each argument reads afterwards as it read before. No further condition. The tied card. -/
import Derived.Test.YthnagihgjenimaaDoorRowRamOldest
namespace Go.Proofs.YthnagihgjenimaaDoor.ramOldest
open Go
theorem proved : Rows.RamOldestCardSaid :=
  Claim7.holds_tied_plain_at .later [] [.data] true (true, "f84df75468ffa591f97c247a2bd7efa63d67a37ee3f83b024460f481f5557564") false
    over (fun _ h => by cases h) (by kernel_rfl) (fun _ h => by cases h) ramOldest_row_tie rfl ⟨rfl, rfl⟩ (by kernel_rfl) rfl
    (fun f fn hf hfn => by
      obtain rfl : f = 8 := Option.some.inj ((show Tryd.prog.funcNamed "icehouse/icehouselaw13.RamOldest" = some 8 by kernel_rfl).symm.trans hf) |>.symm
      obtain rfl : fn = Tryd.f8 := (Option.some.inj (Tryd.func8.symm.trans hfn)).symm
      exact ⟨by kernel_rfl, fun j t ht => by
        rw [Tryd.params8] at ht
        have h3 : t = 3 ∨ t = 28 := by
          rcases j with _ | j
          · left; simpa using ht.symm
          · rcases j with _ | j
            · right; simpa using ht.symm
            · simp at ht
        rcases h3 with rfl | rfl
        · exact (show Tryd.prog.wantsStandIn 3 = false by kernel_rfl)
        · exact (show Tryd.prog.wantsStandIn 28 = false by kernel_rfl)⟩)
    (by kernel_rfl)
#print axioms proved
end Go.Proofs.YthnagihgjenimaaDoor.ramOldest
