/- Bytes appended to a row of bytes, whatever the slice (nil too). -/
import Derived.Laws.OwnMore
import Derived.Test.YthnagihgjenimaaDoorRSam
namespace Go.Proofs.YthnagihgjenimaaDoor
open Go.RowKit
set_option linter.unusedVariables false
set_option linter.unusedSimpArgs false
theorem info5r : (Tryd.prog.info? 5).map (fun i => (i.zero, i.size, i.bytes)) = some (some (.int .u8 0), 1, 1) := by kernel_rfl
theorem run_byt (w : World) (base : Nat) (ty : TypeId) (v : Value) (n : Nat) (xs : List Value) (hown : w.ownsRow base 5 1 v n xs) (x : Value) (us : List Int) (hx : SlB w x us) (hle : n + us.length ≤ 1000000) (hbase : base ≤ w.heap.size) :
    ∃ v' w', (Builtin.append_ #[56, 56] ty #[v, x]).run Tryd.prog w = .ok v' w' ∧ w'.ownsRow base 5 1 v' (n + us.length) (xs ++ nb us) ∧ w.grownBy w' v.ownBlock := by
  obtain ⟨i0, hi1, hz0, hz1, hz2⟩ := info_parts info5r
  obtain ⟨a, c, rfl, hr⟩ := hx
  cases a with
  | none =>
    have h0 : us.length = 0 := by
      rcases Nat.eq_zero_or_pos us.length with e | e
      · exact e
      · obtain ⟨_, e2, _⟩ := hr.2 0 e; cases e2
    have hu : us = [] := List.eq_nil_of_length_eq_zero h0
    subst hu
    have hr : (Builtin.append_ #[56, 56] ty #[v, .slice none 0 c]).run Tryd.prog w = .ok v w := by
      rcases hown.2 with ⟨rfl, rfl⟩ | ⟨g, cap, cur, rfl, _, _, hnc, _⟩
      · simp [Builtin.append_, run_underlying Tryd.underlying56, sizeOf, typeInfo, hi1, Builtin.lenOf, Builtin.firstCells]
      · simp [Builtin.append_, run_underlying Tryd.underlying56, sizeOf, typeInfo, hi1, Builtin.lenOf, Builtin.firstCells, hnc, storeCells]
    exact ⟨v, w, hr, by simpa [nb] using hown, World.grownBy.refl _ _⟩
  | some ad =>
    have hl : (nb us).length = us.length * 1 := by rw [nb_len]; omega
    have hnw := row_new hr
    obtain ⟨v', w', h1, h2, h3, _⟩ := run_append_own_at (P := Tryd.prog) w base 56 ty 5 i0 (.int .u8 0) 1 1 Tryd.underlying56 hi1 hz0 hz1 hz2 rfl (by omega) v n xs hown ad us.length c (nb us) (by omega) hnw (nb_one _) (by unfold maxLen; omega) (by omega) hbase
    exact ⟨v', w', h1, h2, h3⟩
theorem step_byt {ops : Array Oper} {o : Oper} {a : Act} {w : World} {K : Act → World → Prop} {Q : Exit → Act → World → Prop} {E : Prop} (hgd : o.guard = none) (s x : Operand)
    (ho : o.op = .call { callee := .builtin .append, args := #[s, x], argTypes := #[56, 56] })
    (base : Nat) (v : Value) (n : Nat) (xs : List Value) (hs : a.eval s = v) (hown : w.ownsRow base 5 1 v n xs) (u : Value) (us : List Int) (hx : a.eval x = u) (hu : SlB w u us)
    (hle : n + us.length ≤ 1000000) (hbase : base ≤ w.heap.size)
    (h : ∀ v' w', w'.ownsRow base 5 1 v' (n + us.length) (xs ++ nb us) → w.grownBy w' v.ownBlock → K (a.put o.dst v') w') :
    if Region.wanted o (yielded ops a.tmps) = true then Oper.wp Tryd.prog o a w K Q else E := by
  have hw : Region.wanted o (yielded ops a.tmps) = true := by simp [Region.wanted, hgd]
  rw [if_pos hw]
  obtain ⟨v', w', hr, h2, h3⟩ := run_byt w base o.type v n xs hown u us hu hle hbase
  unfold Oper.wp execOp
  simp only [ho, resolve, invoke, builtin, Sem.run_bind, Sem.run_pure, Result.andThen_ok, List.map_toArray, List.map_cons, List.map_nil, hs, hx, hr]
  exact h v' w' h2 h3
end Go.Proofs.YthnagihgjenimaaDoor
