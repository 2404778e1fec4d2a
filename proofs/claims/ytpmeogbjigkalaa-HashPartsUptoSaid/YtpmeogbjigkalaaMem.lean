/- Appending a slice that reads as integers (nil or not) onto a slice of the call's own. Over any program. -/
import Derived.Test.YtpmeogbjigkalaaFnv
import Derived.Deep.AppendLies
import Derived.Laws.OwnMore
import Derived.Laws.BytesArg
namespace Go.Proofs.Ytpmeogbjigkalaa
open Go.RowKit

theorem row_zero {k : IntKind} {w : World} {n : Nat} {xs : List Int} (h : Row k w none n xs) : n = 0 ∧ xs = [] := by
  rcases Nat.eq_zero_or_pos n with h0 | h0
  · subst h0
    exact ⟨rfl, List.eq_nil_of_length_eq_zero h.1⟩
  · obtain ⟨ad, e, _⟩ := h.2 0 h0
    cases e

theorem row_cells {k : IntKind} {w : World} {ad : Addr} {n : Nat} {xs : List Int} (h : Row k w (some ad) n xs) :
    ∀ j u, (xs.map (Value.int k))[j]? = some u → w.cell? (ad.add j) = some u := by
  intro j u hu
  rw [List.getElem?_map, Option.map_eq_some_iff] at hu
  obtain ⟨x, hx, rfl⟩ := hu
  have hj : j < n := by
    rw [← h.1]
    rcases Nat.lt_or_ge j xs.length with h' | h'
    · exact h'
    · rw [List.getElem?_eq_none h'] at hx; cases hx
  obtain ⟨ad', e, hc⟩ := h.2 j hj
  injection e with e
  subst e
  rw [hc, List.getD_eq_getElem?_getD, hx]
  rfl

section
variable {P : Program} (w : World)
/-- append(x, y...) where y reads as integers, nil or not. -/
theorem wpList_append_row {ops : Array Oper} {rest : List Oper} {o : Oper} {a : Act} {Q : Exit → Act → World → Prop} (hgd : Region.wanted o (yielded ops a.tmps) = true) (s x : Operand) (t : TypeId)
    (ho : o.op = .call { callee := .builtin .append, args := #[s, x], argTypes := #[t, t] })
    (base : Nat) (e : TypeId) (i : TypeInfo) (k : IntKind) (bytes : Nat) (ht : P.underlying t = some (.slice e)) (hi : P.info? e = some i) (hz : i.zero = some (.int k 0))
    (hsize : i.size = 1) (hby : i.bytes = bytes)
    (v : Value) (n : Nat) (xs : List Value) (hs : a.eval s = v) (hown : w.ownsRow base e 1 v n xs)
    (A : Option Addr) (m c : Nat) (ys : List Int) (hx : a.eval x = .slice A m c) (hr : Row k w A m ys) (hc : A = none → c = 0)
    (h63 : n + m ≤ maxLen) (hbytes : (n + m) * bytes ≤ 140737488355328) (hbase : base ≤ w.heap.size)
    (h : ∀ v' w', w'.ownsRow base e 1 v' (n + m) (xs ++ ys.map (Value.int k)) → w.grownBy w' v.ownBlock → wpList P ops Q rest (a.put o.dst v') w') : wpList P ops Q (o :: rest) a w := by
  refine wpList_step fun K hK => ?_
  rw [if_pos hgd]
  rcases A with _ | ad
  · obtain ⟨rfl, rfl⟩ := row_zero hr
    obtain rfl := hc rfl
    have hrun := run_append_owned_none (P := P) (w := w) base t o.type e i 1 ht hi v n xs hown
    unfold Oper.wp execOp
    simp only [ho, resolve, invoke, builtin, Sem.run_bind, Sem.run_pure, Result.andThen_ok, List.map_toArray, List.map_cons, List.map_nil, hs, hx, hrun]
    exact hK _ _ (h v w (by simpa using hown) (World.grownBy.refl w _))
  · refine wp_append_own w s x t ho base e i (.int k 0) 1 bytes ht hi hz hsize hby rfl (by omega) v n xs hs hown ad m c (ys.map (Value.int k)) hx (by simp [hr.1]) (row_cells hr) (ints_oneCell _ _) h63 hbytes hbase fun v' w' h2 h3 _ => hK _ _ (h v' w' h2 h3)
end
end Go.Proofs.Ytpmeogbjigkalaa
