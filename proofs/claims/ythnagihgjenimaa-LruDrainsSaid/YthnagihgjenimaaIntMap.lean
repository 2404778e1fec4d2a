/- A map from int to int that the call made, told as a function: 0 where nothing stands. -/
import Derived.Test.YthnagihgjenimaaBlk
import Derived.Test.YthnagihgjenimaaRows
import Derived.Maps.Own
import Derived.Maps.OwnOps
import Derived.Maps.Views
namespace Go.Proofs.Ythnagihgjenimaa
open Go.RowKit

/-- Block b is a map of at most n entries that tells u. -/
def IMap (w : World) (b n : Nat) (u : Int → Int) : Prop :=
  ∃ D : DataW Unit, w.ownsMap Try.prog 3 (plainElem Try.prog 3) b n D ∧ Maps.IsMap D ∧ ∀ x, D.atKey (.int .i64 x) (.lit (.int .i64 0)) = .lit (.int .i64 (u x))

theorem imap_law : Maps.Keyed Try.prog 3 := Maps.int_keyed Try.underlying3
theorem imap_zero (w : World) : (zeroValue 3).run Try.prog w = .ok (.int .i64 0) w := by kernel_rfl

section
variable {w w' : World} {b n : Nat} {u : Int → Int}
theorem IMap.made (w : World) : IMap (w.alloc (.map #[] 0)) w.heap.size 0 (fun _ => 0) := ⟨.map [], World.ownsMap_made _ _ _ _, ⟨[], rfl⟩, fun _ => rfl⟩
theorem IMap.lt (h : IMap w b n u) : b < w.heap.size := by obtain ⟨D, h1, _⟩ := h; exact h1.lt
theorem IMap.block (h : IMap w b n u) (hk : w'.heap[b]? = w.heap[b]?) : IMap w' b n u := by
  obtain ⟨D, ⟨es, clock, hb, r⟩, h2⟩ := h
  exact ⟨D, ⟨es, clock, hk.trans hb, r⟩, h2⟩
theorem IMap.keep {S : Nat → Prop} (h : IMap w b n u) (hk : Keeps S w w') (hn : ¬ S b) : IMap w' b n u := h.block (hk.block b h.lt hn)
theorem IMap.drew (h : IMap w b n u) : IMap w.drew b n u := h
theorem IMap.alloc (h : IMap w b n u) (o : Obj) : IMap (w.alloc o) b n u := h.block (Below.heap_alloc w o b h.lt)
theorem IMap.mono (h : IMap w b n u) {m : Nat} (hm : n ≤ m) : IMap w b m u := by obtain ⟨D, h1, h2⟩ := h; exact ⟨D, h1.mono hm, h2⟩
theorem IMap.update (h : IMap w b n u) (hn : n < maxLen) (x y : Int) (hx : (Lit.int .i64 x).wf = true) (hy : (Lit.int .i64 y).wf = true) {t : TypeId} (ht : Try.prog.underlying t = some (.map 3 3)) :
    ∃ w', (Instr.mapUpdate t (.map (some b)) (.int .i64 x) (.int .i64 y)).run Try.prog w = .ok () w' ∧ IMap w' b (n + 1) (fun z => if z = x then y else u z) ∧ w.grownBy w' (some b) := by
  obtain ⟨D, h1, h2, h3⟩ := h
  obtain ⟨w', r1, r2, r3⟩ := h1.update imap_law ht hn (Maps.keyOf_int_mk Try.underlying3 hx) (plainElem_int Try.underlying3 hy)
  refine ⟨w', r1, ⟨_, r2, h2.put _ _, fun z => ?_⟩, r3⟩
  by_cases e : z = x
  · subst e
    simp only [if_true]
    exact Maps.atKey_put_same h2 (by trivial) _ _
  · simp only [if_neg e]
    rw [Maps.atKey_put_other (by simpa using e)]
    exact h3 z
theorem IMap.lookup (h : IMap w b n u) (x : Int) (hx : (Lit.int .i64 x).wf = true) {t : TypeId} (ht : Try.prog.underlying t = some (.map 3 3)) :
    (Instr.lookup t (.map (some b)) (.int .i64 x) false).run Try.prog w = .ok (.int .i64 (u x)) w := by
  obtain ⟨D, h1, h2, h3⟩ := h
  obtain ⟨c, r1, r2, _⟩ := h1.lookup_int imap_law ht Try.underlying3 (imap_zero w) (Maps.keyOf_int_mk Try.underlying3 hx)
  rw [r1]
  rw [h3 x] at r2
  injection r2 with r2
  injection r2 with _ r2
  rw [r2]
end

/-- m[x] = y at the operation. -/
theorem wpList_imap_store (w : World) {ops : Array Oper} {rest : List Oper} {o : Oper} {a : Act} {Q : Exit → Act → World → Prop} (hgd : Region.wanted o (yielded ops a.tmps) = true) (m x v : Operand) (t : TypeId) (hop : o.op = Op.mapUpdate t m x v)
    (ht : Try.prog.underlying t = some (.map 3 3)) (b n : Nat) (u : Int → Int) (hm : a.eval m = .map (some b)) (h : IMap w b n u) (hn : n < maxLen) (kx ky : Int) (hx : a.eval x = .int .i64 kx) (hv : a.eval v = .int .i64 ky)
    (wx : (Lit.int .i64 kx).wf = true) (wy : (Lit.int .i64 ky).wf = true)
    (hK : ∀ w', IMap w' b (n + 1) (fun z => if z = kx then ky else u z) → w.grownBy w' (some b) → wpList Try.prog ops Q rest (a.put o.dst undef) w') : wpList Try.prog ops Q (o :: rest) a w := by
  refine wpList_step fun K' hK' => ?_
  rw [if_pos hgd]
  obtain ⟨w', hrun, r1, r2⟩ := h.update hn kx ky wx wy ht
  unfold Oper.wp
  simp [execOp, hop, hm, hx, hv, hrun, Result.andThen]
  exact hK' _ _ (hK w' r1 r2)
end Go.Proofs.Ythnagihgjenimaa
