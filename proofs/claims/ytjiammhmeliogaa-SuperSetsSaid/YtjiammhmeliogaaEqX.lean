/- super: '==' of what is known. -/
import Derived.Test.YtjiammhmeliogaaRows
import Derived.Test.YtjiammhmeliogaaSupM
import Derived.WalkKit
import Derived.Laws.StructEq
namespace Go.Proofs.Ytjiammhmeliogaa
open Go.RowKit
set_option linter.unusedVariables false
set_option linter.unusedSimpArgs false

deriving instance DecidableEq for SX
theorem eq71 (a b c d e f a' b' c' d' e' f' : Int) (w : World) : (Op.equalIn 10000 71 (.agg #[.int .i64 a, .int .i64 b, .int .u64 c, .int .u64 d, .int .u64 e, .int .u64 f]) (.agg #[.int .i64 a', .int .i64 b', .int .u64 c', .int .u64 d', .int .u64 e', .int .u64 f'])).run Try.prog w =
    .ok (decide ((⟨a, b, c, d, e, f⟩ : SX) = ⟨a', b', c', d', e', f'⟩)) w := by
  have u3 := Try.underlying3
  have a3 := Try.isAgg3
  have z3 := Try.sizeOf3
  have u69 := Try.underlying69
  have a69 := Try.isAgg69
  have z69 := Try.sizeOf69
  have hS : Try.prog.underlying 71 = some (.struct (Try.prog.fieldsOf 71)) := by kernel_rfl
  have hp : Try.prog.stoodInHeld 71 = false := by kernel_rfl
  rw [show (10000 : Nat) = 9999 + 1 from rfl, run_equalIn_agg w 9999 71 _ _ hS hp]
  simp only [Program.fieldsOf, Try.underlying71]
  go_simp
  by_cases h1 : a = a' <;> by_cases h2 : b = b' <;> by_cases h3 : c = c' <;> by_cases h4 : d = d' <;> by_cases h5 : e = e' <;> by_cases h6 : f = f' <;> simp [h1, h2, h3, h4, h5, h6]
end Go.Proofs.Ytjiammhmeliogaa
