/- super: a superblock is bytes. -/
import Derived.Test.YtjiammhmeliogaaSupM
import Derived.Test.YtjiammhmeliogaaOctet3
namespace Go.Proofs.Ytjiammhmeliogaa
open Go.RowKit
set_option linter.unusedVariables false
theorem sup_byte2 (x : SX) (t : Int) : ∀ z ∈ sup x t, Byte z := by
  intro z hz
  unfold sup shead letters at hz
  simp only [List.mem_append] at hz
  rcases hz with (h | h | h | h | h | h | h | h | h) | h
  · simp at h
    rcases h with h | h | h | h | h | h | h | h <;> subst h <;> exact ⟨by decide, by decide⟩
  · exact hi_range _ _ _ h
  · exact hi_range _ _ _ h
  · exact hi_range _ _ _ h
  · exact hi_range _ _ _ h
  · exact hi_range _ _ _ h
  · exact hi_range _ _ _ h
  · exact hi_range _ _ _ h
  · simp at h
    subst h
    exact ⟨by decide, by decide⟩
  · exact hi_range _ _ _ h
end Go.Proofs.Ytjiammhmeliogaa
