/- Arguments of SuperSets and SuperCuts opened. -/
import Derived.Test.YtjiammhmeliogaaOpenX
namespace Go.Proofs.Ytjiammhmeliogaa
open Go.ChangeShapes Go.WideShapes Go.ChangeAt Go.RowKit Go.Deep
set_option linter.unusedVariables false

structure CutIn where
  at' : Int
  fl : Int
  a : Option Addr
  n : Nat
  c : Nat
  l : List Bool
/-- What a cut is, as an argument. -/
def CutIn.Is (x : CutIn) (v : Value) (W : World) : Prop := v = .agg #[.int .i64 x.at', .int .i64 x.fl, .slice x.a x.n x.c] ∧ (Lit.int .i64 x.at').wf = true ∧ (Lit.int .i64 x.fl).wf = true ∧ BoolRow W x.a x.n x.l ∧ x.n ≤ x.c ∧ x.c ≤ 140737488351232 ∧ (x.a = none → x.c = 0)
set_option maxRecDepth 100000 in
theorem cut_struct : ∃ f0 f1 f2 : Field, Try.prog.underlying 89 = some (.struct #[f0, f1, f2]) ∧ oneCellFields Try.prog #[f0, f1, f2] = true ∧ f0.type = 3 ∧ f1.type = 3 ∧ f2.type = 30 :=
  ⟨_, _, _, Try.underlying89, by kernel_rfl, rfl, rfl, rfl⟩
/-- Superblocks in a row. -/
def SupRow (b0 : Nat) (w : World) (a : Option Addr) (n : Nat) (l : List SX) : Prop :=
  l.length = n ∧ ∀ i x, l[i]? = some x → ∃ b off, a = some ⟨b, off, none⟩ ∧ b < b0 ∧ ∀ j v, x.cells[j]? = some v → w.cell? ⟨b, off + i * 6 + j, none⟩ = some v
structure SupsIn where
  a : Option Addr
  n : Nat
  c : Nat
  l : List SX
def SupsIn.Ok (x : SupsIn) (v : Value) (W : World) : Prop :=
  v = .slice x.a x.n x.c ∧ SupRow W.heap.size W x.a x.n x.l ∧ (∀ s ∈ x.l, s.Wf) ∧ x.n ≤ x.c ∧ x.c ≤ 140737488351232
section
variable {H : Type} {enc : TypeId × Value → H} {W : World} {base : Nat} {v : Value} {d : DataW H} {p : List MemPlace}
set_option maxRecDepth 100000 in
theorem open_cut89 (hv : Value.okWide Try.prog W .any base 89 v) (h : DataW.Trod enc Try.prog W 0 (fun _ => true) true 89 v d p) (hw : ∀ n ∈ d.weights Try.prog 89, n ≤ reachBytes) : ∃ x : CutIn, x.Is v W := by
  obtain ⟨f0, f1, f2, he, hone, e0, e1, e2⟩ := cut_struct
  obtain ⟨cs, rfl, hcs⟩ := okWide_struct he hv
  have hcs3 : cs.size = 3 := hcs.trans (by kernel_rfl)
  obtain ⟨fuel, hf⟩ := h
  simp only [Value.cells] at hf
  obtain ⟨ys, n', hn', hy, hlen, hyl, hfs⟩ := DataW.trod_struct he hf
  obtain ⟨l, rfl⟩ : ∃ l : List Value, cs = l.toArray := ⟨cs.toList, by simp⟩
  have hl3 : l.length = 3 := by simpa using hcs3
  match l, hl3 with
  | [x0, x1, x2], _ =>
    match ys, hyl with
    | [y0, y1, y2], _ =>
      obtain ⟨o0, k0⟩ := hone_of hone 0 f0 rfl
      obtain ⟨o1, k1⟩ := hone_of hone 1 f1 rfl
      obtain ⟨o2, k2⟩ := hone_of hone 2 f2 rfl
      have t0 := hfs 0 f0 rfl
      have t1 := hfs 1 f1 rfl
      have t2 := hfs 2 f2 rfl
      simp [o0, k0] at t0
      simp [o1, k1] at t1
      simp [o2, k2] at t2
      have h2 : Try.prog.underlying f2.type = some (.slice 4) := by rw [e2]; exact Try.underlying30
      obtain ⟨z0, g0, _, w0⟩ := DataW.trod_int (by rw [e0]; exact Try.underlying3) t0
      obtain ⟨z1, g1, _, w1⟩ := DataW.trod_int (by rw [e1]; exact Try.underlying3) t1
      obtain ⟨va, vn, vc, ks, g3, w3, w4, w5⟩ := open_bools h2 Try.underlying4 (by kernel_rfl) t2
      simp at g0 g1
      subst g0 g1 g3
      have w6 : vc ≤ 140737488351232 := by
        refine bools_bound h2 Try.underlying4 (by kernel_rfl) (of_decide_eq_true (by kernel_rfl)) t2 fun n hn => hw n ?_
        rw [show d = .agg [y0.1, y1.1, y2.1] from by
          have := congrArg Prod.fst hy
          simpa using this]
        simp only [DataW.weights, he]
        exact DataW.weights_mem_each (j := 2) (t := f2.type) (d := y2.1) rfl rfl n hn
      have w7 := bools_nil (enc := enc) h2 t2
      exact ⟨⟨z0, z1, va, vn, vc, ks⟩, rfl, w0, w1, w3, w4, w6, w7⟩
set_option maxRecDepth 100000 in
theorem open_sups65 (hv : Value.okWide Try.prog W .any base 65 v) (h : DataW.Trod enc Try.prog W 0 (fun _ => true) true 65 v d p) (hw : ∀ n ∈ d.weights Try.prog 65, n ≤ reachBytes) : ∃ x : SupsIn, x.Ok v W := by
  have hu : Try.prog.underlying 65 = some (.slice 71) := Try.underlying65
  have hC : Try.prog.cellsOf 71 = 6 := by kernel_rfl
  have hB : 1 ≤ Try.prog.bytesOf 71 := of_decide_eq_true (by kernel_rfl)
  obtain ⟨a0, len, cap, rfl⟩ := okWide_slice hu hv
  obtain ⟨fuel, hf⟩ := h
  rcases open_slice hu hf with ⟨hcs, _⟩ | ⟨a, l, c, m, n, D, Pl, hcs, _, hl, hm, hmm, hx, hi⟩
  · simp [Value.cells] at hcs
    obtain ⟨rfl, rfl, rfl⟩ := hcs
    exact ⟨⟨none, 0, 0, []⟩, rfl, ⟨rfl, fun i o ho => by simp at ho⟩, fun o ho => by simp at ho, Nat.le_refl _, by decide⟩
  · simp [Value.cells] at hcs
    obtain ⟨rfl, rfl, rfl⟩ := hcs
    simp only [if_true] at hmm
    subst hmm
    simp only [Prod.mk.injEq] at hx
    obtain ⟨rfl, _⟩ := hx
    have each : ∀ i, i < m → ∃ s : SX, (∀ j v, s.cells[j]? = some v → W.cell? (a.add (i * 6 + j)) = some v) ∧ s.Wf := by
      intro i him
      obtain ⟨cs', hc, ht'⟩ := hi i him
      rw [hC] at hc
      obtain ⟨_, hcl, hat⟩ := World.cells?_some hc
      obtain ⟨s, rfl, hs⟩ := cells_super hcl ht'
      refine ⟨s, fun j v hj => ?_, hs⟩
      have hj6 : j < 6 := by
        rcases Nat.lt_or_ge j 6 with h | h
        · exact h
        · rw [List.getElem?_eq_none (by simpa [SX.cells] using h)] at hj; cases hj
      have cj := hat j (by omega)
      rw [Go.Deep.add_add] at cj
      rw [cj, ← hj]
    let ops : List SX := (List.range len).map fun i => if hi' : i < m then Classical.choose (each i hi') else SX.zero
    have hops : ∀ i o, ops[i]? = some o → i < len ∧ (∀ j v, o.cells[j]? = some v → W.cell? (a.add (i * 6 + j)) = some v) ∧ o.Wf := by
      intro i o ho
      have hil : i < len := by
        rcases Nat.lt_or_ge i len with h' | h'
        · exact h'
        · rw [List.getElem?_eq_none (by simpa [ops] using h')] at ho; cases ho
      have him : i < m := by omega
      have : o = Classical.choose (each i him) := by
        have h' : ops[i]? = some (Classical.choose (each i him)) := by simp [ops, hil, him]
        rw [h'] at ho
        exact (Option.some.inj ho).symm
      subst this
      exact ⟨hil, Classical.choose_spec (each i him)⟩
    refine ⟨⟨some a, len, m, ops⟩, rfl, ⟨by simp [ops], fun i o ho => ?_⟩, fun o ho => ?_, hl, ?_⟩
    · obtain ⟨hil, hc, _⟩ := hops i o ho
      have hm0 : 0 < m := by omega
      obtain ⟨o0, cz, _⟩ := each 0 hm0
      have cz' := cz 0 _ rfl
      obtain ⟨hsp, hbl⟩ := plain_of_cell (a := a) (by simpa [Addr.add] using cz')
      refine ⟨a.block, a.off, congrArg some (plain_eta hsp), hbl, fun j v hj => ?_⟩
      have := hc j v hj
      rw [add_plain hsp] at this
      rwa [← Nat.add_assoc] at this
    · obtain ⟨i, hi'⟩ := List.getElem?_of_mem ho
      exact (hops i o hi').2.2
    · have h1 := hw (len * Try.prog.bytesOf 71 + (m - len) * Try.prog.bytesOf 71) (by
        simp [DataW.weights, hu]
        left
        rw [← Nat.add_mul])
      have h2 : len * 1 ≤ len * Try.prog.bytesOf 71 := Nat.mul_le_mul_left _ hB
      have h3 : (m - len) * 1 ≤ (m - len) * Try.prog.bytesOf 71 := Nat.mul_le_mul_left _ hB
      have h4 : reachBytes = 140737488351232 := rfl
      show m ≤ 140737488351232
      omega
end
end Go.Proofs.Ytjiammhmeliogaa
