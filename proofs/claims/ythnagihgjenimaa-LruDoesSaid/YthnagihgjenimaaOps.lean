/- The rows of what is done: few, kind; an argument that is a slice of Op read as a list. -/
import Derived.Test.YthnagihgjenimaaWakes
namespace Go.Proofs.Ythnagihgjenimaa
open Go.RowKit
set_option linter.unusedVariables false

structure Op3 where
  kind : Int
  list : Int
  num : Int

/-- A slice that reads as ops: each three cells. -/
def OpRow (w : World) (a : Option Addr) (n : Nat) (l : List Op3) : Prop :=
  l.length = n ∧ ∀ i (o : Op3), l[i]? = some o → ∃ b off, a = some ⟨b, off, none⟩ ∧ b < w.heap.size ∧ w.cell? ⟨b, off + i * 3, none⟩ = some (.int .i64 o.kind) ∧ w.cell? ⟨b, off + i * 3 + 1, none⟩ = some (.int .i64 o.list) ∧ w.cell? ⟨b, off + i * 3 + 2, none⟩ = some (.int .i64 o.num)

theorem block_add (a : Addr) (n : Nat) : (a.add n).block = a.block := by unfold Addr.add; split <;> rfl

theorem OpRow.below {w w' : World} {a : Option Addr} {n : Nat} {l : List Op3} (h : OpRow w a n l) (hb : Below w.heap.size w w') : OpRow w' a n l := by
  refine ⟨h.1, fun i o ho => ?_⟩
  obtain ⟨b, off, e, hl, h1, h2, h3⟩ := h.2 i o ho
  exact ⟨b, off, e, Nat.lt_of_lt_of_le hl hb.size, by rw [hb.cell hl]; exact h1, by rw [hb.cell hl]; exact h2, by rw [hb.cell hl]; exact h3⟩
theorem OpRow.take {w : World} {a : Option Addr} {n : Nat} {l : List Op3} (h : OpRow w a n l) (k : Nat) (hk : k ≤ n) : OpRow w a k (l.take k) := by
  refine ⟨by rw [List.length_take, h.1]; omega, fun i o ho => h.2 i o ?_⟩
  rw [List.getElem?_take] at ho
  split at ho
  · exact ho
  · cases ho

theorem few_any (a : Option Addr) (n c : Nat) (w : World) (hn : n ≤ c) (hm : c ≤ 140737488355328) :
    Calls Try.prog 15 #[.slice a n c] w fun e w' => e = .returned (.slice a (min n 200) c) ∧ w = w' := by
  by_cases h : n ≤ 200
  · have e : min n 200 = n := by omega
    rw [e]
    go_enter Try.func15, Try.ntmps15
    go_wp2
    go_ret
    exact ⟨rfl, rfl⟩
  · have e : min n 200 = 200 := by omega
    rw [e]
    have h' : 200 < n := by omega
    go_enter Try.func15, Try.ntmps15
    go_wp2
    go_ret
    exact ⟨rfl, rfl⟩

/-- What an op is: 0 push, 1 touch, 2 remove. -/
def kindOf (k : Int) : Int := if k % 4 ≤ 1 then 0 else k % 4 - 1

theorem kind_index0 (w : World) : (Instr.index 64 (.agg #[.int .i64 0, .int .i64 0, .int .i64 1, .int .i64 2]) (.int .u64 0)).run Try.prog w = .ok (.int .i64 0) w := by kernel_rfl
theorem kind_index1 (w : World) : (Instr.index 64 (.agg #[.int .i64 0, .int .i64 0, .int .i64 1, .int .i64 2]) (.int .u64 1)).run Try.prog w = .ok (.int .i64 0) w := by kernel_rfl
theorem kind_index2 (w : World) : (Instr.index 64 (.agg #[.int .i64 0, .int .i64 0, .int .i64 1, .int .i64 2]) (.int .u64 2)).run Try.prog w = .ok (.int .i64 1) w := by kernel_rfl
theorem kind_index3 (w : World) : (Instr.index 64 (.agg #[.int .i64 0, .int .i64 0, .int .i64 1, .int .i64 2]) (.int .u64 3)).run Try.prog w = .ok (.int .i64 2) w := by kernel_rfl
theorem kind_index (r : Nat) (hr : r < 4) (w : World) : (Instr.index 64 (.agg #[.int .i64 0, .int .i64 0, .int .i64 1, .int .i64 2]) (.int .u64 (r : Int))).run Try.prog w = .ok (.int .i64 (kindOf r)) w := by
  have h : r = 0 ∨ r = 1 ∨ r = 2 ∨ r = 3 := by omega
  rcases h with rfl | rfl | rfl | rfl
  · exact kind_index0 w
  · exact kind_index1 w
  · exact kind_index2 w
  · exact kind_index3 w

theorem kind_any (k i x : Int) (w : World) (hk : (Lit.int .i64 k).wf = true) :
    Calls Try.prog 16 #[.agg #[.int .i64 k, .int .i64 i, .int .i64 x]] w fun e w' => e = .returned (.int .i64 (kindOf k)) ∧ w' = w.alloc (.cells #[.int .i64 k, .int .i64 i, .int .i64 x] 35) := by
  obtain ⟨r, hr⟩ : ∃ r : Nat, (IntKind.u64.wrap k).tmod 4 = (r : Int) ∧ r < 4 ∧ kindOf r = kindOf k := by
    refine ⟨(k % 4).toNat, ?_, by omega, ?_⟩
    · rw [Int.tmod_eq_emod_of_nonneg (by rw [IntKind.wrap_u64]; omega), IntKind.wrap_u64]; omega
    · rw [show (((k % 4).toNat : Nat) : Int) = k % 4 from by omega]
      unfold kindOf
      rw [show k % 4 % 4 = k % 4 from by omega]
  obtain ⟨hr1, hr2, hr3⟩ := hr
  have hi := fun W => kind_index r hr2 W
  rw [hr3] at hi
  clear hk hr3
  go_enter Try.func16, Try.ntmps16
  go_wp2
  go_ret
  exact ⟨rfl, rfl⟩
end Go.Proofs.Ythnagihgjenimaa
