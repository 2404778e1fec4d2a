/- Two arrays of integers are equal as lists are. Over any program. -/
import Derived.WalkKit
import Derived.ChangeKeysEq
import Derived.Laws.StructEq
namespace Go.Proofs.Ytjiammhmeliogaa
open Go.RowKit

section
variable {P : Program} {e : TypeId} {k : IntKind}
theorem run_eqItems_ints (d : Nat) (he : P.underlying e = some (.int k)) (hp : P.plainKey e = true) (xs ys : List Int) (w : World) : ∀ is : List Nat, (∀ i ∈ is, i < xs.length ∧ i < ys.length) →
    (Op.eqItems (d + 1) e 1 (xs.map (Value.int k)).toArray (ys.map (Value.int k)).toArray is).run P w = .ok (is.all fun i => xs.getD i 0 == ys.getD i 0) w
  | [], _ => by simp [Op.eqItems]
  | i :: is, h => by
    have hi := h i (List.mem_cons_self ..)
    have ih := run_eqItems_ints d he hp xs ys w is (fun j hj => h j (List.mem_cons_of_mem _ hj))
    have p1 := run_part_plain (P := P) (w := w) hp (xs := (xs.map (Value.int k)).toArray) (off := i) (v := .int k (xs.getD i 0)) (by simp [hi.1])
    have p2 := run_part_plain (P := P) (w := w) hp (xs := (ys.map (Value.int k)).toArray) (off := i) (v := .int k (ys.getD i 0)) (by simp [hi.2])
    have p3 := run_equalIn_int (P := P) (w := w) d e k k (xs.getD i 0) (ys.getD i 0) he
    simp only [Op.eqItems, Nat.mul_one, Sem.run_bind, p1, p2, p3, Result.andThen_ok, List.all_cons]
    cases hb : (xs.getD i 0 == ys.getD i 0)
    · simp
    · simp only [Bool.not_true, Bool.false_eq_true, if_false, Bool.true_and]
      exact ih

theorem all_getD_eq : ∀ (xs ys : List Int), xs.length = ys.length → ((List.range xs.length).all fun i => xs.getD i 0 == ys.getD i 0) = decide (xs = ys) := by
  intro xs ys hl
  rw [Bool.eq_iff_iff]
  simp only [List.all_eq_true, List.mem_range, beq_iff_eq, decide_eq_true_eq]
  constructor
  · intro h
    apply List.ext_getElem hl
    intro i h1 h2
    have := h i h1
    simpa [h1, h2] using this
  · rintro rfl i _
    rfl

/-- '==' on two arrays of integers. -/
theorem run_eq_ints {t : TypeId} {n : Nat} (d : Nat) (hu : P.underlying t = some (.array n e)) (he : P.underlying e = some (.int k)) (hp : P.plainKey e = true) {i : TypeInfo} (hi : P.info? e = some i) (hc : P.cellsOf e = 1)
    (xs ys : List Int) (hx : xs.length = n) (hy : ys.length = n) (w : World) :
    (Op.equalIn (d + 2) t (.agg (xs.map (Value.int k)).toArray) (.agg (ys.map (Value.int k)).toArray)).run P w = .ok (decide (xs = ys)) w := by
  rw [run_equalIn_array w (d + 1) _ _ hu hi, hc, run_eqItems_ints d he hp xs ys w _ (fun j hj => by have := List.mem_range.1 hj; omega), ← all_getD_eq xs ys (by omega), hx]
end
end Go.Proofs.Ytjiammhmeliogaa
