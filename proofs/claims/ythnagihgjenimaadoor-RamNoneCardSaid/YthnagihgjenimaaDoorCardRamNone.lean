/- RamNone: for every input the law returns true, and each argument reads afterwards as it read before. No further condition. The tied card. -/
import Derived.Test.YthnagihgjenimaaDoorRowRamNone
namespace Go.Proofs.YthnagihgjenimaaDoor.ramNone
open Go
theorem proved : Rows.RamNoneCardSaid :=
  Claim7.holds_tied_plain_at .later [] [.data] true (true, "f84df75468ffa591f97c247a2bd7efa63d67a37ee3f83b024460f481f5557564") false
    over (fun _ h => by cases h) (by kernel_rfl) (fun _ h => by cases h) ramNone_row_tie rfl ⟨rfl, rfl⟩ (by kernel_rfl) rfl
    (fun f fn hf hfn => by
      obtain rfl : f = 11 := Option.some.inj ((show Tryd.prog.funcNamed "icehouse/icehouselaw13.RamNone" = some 11 by kernel_rfl).symm.trans hf) |>.symm
      obtain rfl : fn = Tryd.f11 := (Option.some.inj (Tryd.func11.symm.trans hfn)).symm
      exact ⟨by kernel_rfl, fun j t ht => by
        rw [Tryd.params11] at ht
        have h3 : t = 64 := by
          rcases j with _ | j
          · simpa using ht.symm
          · simp at ht
        subst h3
        exact (show Tryd.prog.wantsStandIn 64 = false by kernel_rfl)⟩)
    (by kernel_rfl)
#print axioms proved
end Go.Proofs.YthnagihgjenimaaDoor.ramNone
