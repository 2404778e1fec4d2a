/- An argument of the type Op, opened. -/
import Derived.Test.YthnagihgjenimaaOpenAt
import Derived.Test.YthnagihgjenimaaNone
namespace Go.Proofs.Ythnagihgjenimaa
open Go.ChangeShapes Go.WideShapes Go.ChangeAt Go.RowKit Go.Deep
set_option linter.unusedVariables false

/-- What an argument of the type 'Op' is. -/
def Op3.Ok (o : Op3) (v : Value) (W : World) : Prop :=
  v = .agg #[.int .i64 o.kind, .int .i64 o.list, .int .i64 o.num] ∧ (Lit.int .i64 o.kind).wf = true ∧ (Lit.int .i64 o.list).wf = true ∧ (Lit.int .i64 o.num).wf = true

theorem open_op35 {H : Type} {enc : TypeId × Value → H} {W : World} {base : Nat} {v : Value} {d : DataW H} {p : List MemPlace}
    (hv : Value.okWide Try.prog W .any base 35 v) (h : DataW.Trod enc Try.prog W 0 (fun _ => true) true 35 v d p) (hw : ∀ n ∈ d.weights Try.prog 35, n ≤ reachBytes) : ∃ o : Op3, o.Ok v W := by
  obtain ⟨f0, f1, f2, he, hone, e0, e1, e2⟩ := op_struct
  obtain ⟨cs, rfl, hcs⟩ := okWide_struct he hv
  have hcs3 : cs.size = 3 := hcs.trans (by kernel_rfl)
  obtain ⟨fuel, hf⟩ := h
  simp only [Value.cells] at hf
  obtain ⟨ys, n', hn', hy, hlen, hyl, hfs⟩ := DataW.trod_struct he hf
  obtain ⟨l, rfl⟩ : ∃ l : List Value, cs = l.toArray := ⟨cs.toList, by simp⟩
  have hl3 : l.length = 3 := by simpa using hcs3
  match l, hl3 with
  | [x0, x1, x2], _ =>
    match ys, hyl with
    | [y0, y1, y2], _ =>
      obtain ⟨o0, k0⟩ := hone_of hone 0 f0 rfl
      obtain ⟨o1, k1⟩ := hone_of hone 1 f1 rfl
      obtain ⟨o2, k2⟩ := hone_of hone 2 f2 rfl
      have t0 := hfs 0 f0 rfl
      have t1 := hfs 1 f1 rfl
      have t2 := hfs 2 f2 rfl
      simp [o0, k0] at t0
      simp [o1, k1] at t1
      simp [o2, k2] at t2
      obtain ⟨z0, g0, _, w0⟩ := DataW.trod_int (by rw [e0]; exact Try.underlying3) t0
      obtain ⟨z1, g1, _, w1⟩ := DataW.trod_int (by rw [e1]; exact Try.underlying3) t1
      obtain ⟨z2, g2, _, w2⟩ := DataW.trod_int (by rw [e2]; exact Try.underlying3) t2
      simp at g0 g1 g2
      subst g0 g1 g2
      exact ⟨⟨z0, z1, z2⟩, rfl, w0, w1, w2⟩

theorem none_walk (v : Value) (o : Op3) (W : World) (w0 : o.Ok v W) :
    Calls Try.prog 7 #[v] W fun e w' => e = .returned (.bool true) ∧ Below W.heap.size W w' := by
  obtain ⟨rfl, _⟩ := w0
  exact none_law o.kind o.list o.num W
end Go.Proofs.Ythnagihgjenimaa
