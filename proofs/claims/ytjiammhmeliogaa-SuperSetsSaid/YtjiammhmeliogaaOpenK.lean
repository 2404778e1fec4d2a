/- An argument of the type []Op opened, with the bound of the ops' own slices. -/
import Derived.Test.YtjiammhmeliogaaOpen
namespace Go.Proofs.Ytjiammhmeliogaa
open Go.ChangeShapes Go.WideShapes Go.ChangeAt Go.RowKit Go.Deep
set_option linter.unusedVariables false
section
variable {H : Type} {enc : TypeId × Value → H} {P : Program} {W : World} {base : Nat} {v : Value} {d : DataW H} {p : List MemPlace}

theorem weights_all {e : TypeId} {d : DataW H} {n : Nat} (hn : n ∈ d.weights P e) : ∀ {l : List (DataW H)}, d ∈ l → n ∈ DataW.weightsAll P e l
  | [], h => by simp at h
  | x :: r, h => by
    simp only [DataW.weightsAll, List.mem_append]
    rcases List.mem_cons.1 h with rfl | h
    · exact .inl hn
    · exact .inr (weights_all hn h)
theorem weights_elem {t e : TypeId} (hu : P.underlying t = some (.slice e)) {len m i n : Nat} {D : Nat → DataW H} (hi : i < len ∨ (len ≤ i ∧ i < m)) (hn : n ∈ (D i).weights P e) :
    n ∈ (DataW.slice ((List.range len).map D) ((List.range (m - len)).map fun j => D (len + j))).weights P t := by
  simp only [DataW.weights, hu, List.mem_cons, List.mem_append]
  refine .inr ?_
  rcases hi with hi | ⟨h1, h2⟩
  · exact .inl (weights_all hn (List.mem_map.2 ⟨i, List.mem_range.2 hi, rfl⟩))
  · exact .inr (weights_all hn (List.mem_map.2 ⟨i - len, List.mem_range.2 (by omega), by congr 1; omega⟩))
theorem bools_bound {t e : TypeId} {fuel : Nat} {x : DataW H × List MemPlace} (ht : P.underlying t = some (.slice e)) (he : P.underlying e = some .bool) (hc : P.cellsOf e = 1) (hB : 1 ≤ P.bytesOf e) {va : Option Addr} {vn vc : Nat} (h : DataW.trod enc P W 0 (fun _ => true) true fuel t [.slice va vn vc] = some x) (hw : ∀ n ∈ x.1.weights P t, n ≤ reachBytes) : vc ≤ 140737488351232 := by
  rcases open_slice ht h with ⟨hcs, _⟩ | ⟨a, l, c, m, n, D, Pl, hcs, _, hl, hm, hmm, hx, hi⟩
  · simp at hcs
    obtain ⟨_, _, rfl⟩ := hcs
    omega
  · simp at hcs
    obtain ⟨_, rfl, rfl⟩ := hcs
    simp only [if_true] at hmm
    subst hmm
    subst hx
    have h1 := hw (vn * P.bytesOf e + (m - vn) * P.bytesOf e) (by
      simp [DataW.weights, ht]
      left
      rw [← Nat.add_mul])
    have h2 : vn * 1 ≤ vn * P.bytesOf e := Nat.mul_le_mul_left _ hB
    have h3 : (m - vn) * 1 ≤ (m - vn) * P.bytesOf e := Nat.mul_le_mul_left _ hB
    have h4 : reachBytes = 140737488351232 := rfl
    omega

/-- An op's slice is within the form's bound. -/
def OpT.Kept (o : OpT) : Prop := o.vc ≤ 140737488351232 ∧ (o.va = none → o.vc = 0)
theorem bools_nil {t e : TypeId} {fuel : Nat} {x : DataW H × List MemPlace} (ht : P.underlying t = some (.slice e)) {va : Option Addr} {vn vc : Nat} (h : DataW.trod enc P W 0 (fun _ => true) true fuel t [.slice va vn vc] = some x) (hv : va = none) : vc = 0 := by
  subst hv
  rcases open_slice ht h with ⟨hcs, _⟩ | ⟨a, l, c, m, n, D, Pl, hcs, _⟩
  · simp at hcs
    exact hcs.2
  · simp at hcs

theorem open_ops2 {t e : TypeId} {f0 f1 f2 f3 : Field} {te tb : TypeId} (hu : P.underlying t = some (.slice e)) (he : P.underlying e = some (.struct #[f0, f1, f2, f3])) (hone : oneCellFields P #[f0, f1, f2, f3] = true) (hC : P.cellsOf e = 4) (hB : 1 ≤ P.bytesOf e)
    (h0 : P.underlying f0.type = some (.int .i64)) (h1 : P.underlying f1.type = some (.int .i64)) (h2 : P.underlying f2.type = some (.int .u8)) (h3 : P.underlying f3.type = some (.slice tb)) (hb : P.underlying tb = some .bool) (hbc : P.cellsOf tb = 1) (hbB : 1 ≤ P.bytesOf tb)
    (hv : Value.okWide P W .any base t v) (h : DataW.Trod enc P W 0 (fun _ => true) true t v d p) (hw : ∀ n ∈ d.weights P t, n ≤ reachBytes) : ∃ x : OpsIn, x.Ok v W ∧ ∀ o ∈ x.l, o.Kept := by
  obtain ⟨a0, len, cap, rfl⟩ := okWide_slice hu hv
  obtain ⟨fuel, hf⟩ := h
  rcases open_slice hu hf with ⟨hcs, _⟩ | ⟨a, l, c, m, n, D, Pl, hcs, _, hl, hm, hmm, hx, hi⟩
  · simp [Value.cells] at hcs
    obtain ⟨rfl, rfl, rfl⟩ := hcs
    exact ⟨⟨none, 0, 0, []⟩, ⟨rfl, ⟨rfl, fun i o ho => by simp at ho⟩, fun o ho => by simp at ho, Nat.le_refl _, by decide⟩, fun o ho => by simp at ho⟩
  · simp [Value.cells] at hcs
    obtain ⟨rfl, rfl, rfl⟩ := hcs
    simp only [if_true] at hmm
    subst hmm
    simp only [Prod.mk.injEq] at hx
    obtain ⟨rfl, _⟩ := hx
    have each : ∀ i, i < m → ∃ o : OpT, (∀ j v, (opc o)[j]? = some v → W.cell? (a.add (i * 4 + j)) = some v) ∧ o.Ok W ∧ o.Kept := by
      intro i him
      obtain ⟨cs', hc, ht'⟩ := hi i him
      have hwi : ∀ n ∈ (D i).weights P e, n ≤ reachBytes := fun n hn => hw n (weights_elem hu (by omega) hn)
      rw [hC] at hc
      obtain ⟨ys, n', hn', hy, hlen, hyl, hfs⟩ := DataW.trod_struct he ht'
      obtain ⟨_, hcl, hat⟩ := World.cells?_some hc
      match cs', hcl with
      | [x0, x1, x2, x3], _ =>
        match ys, hyl with
        | [y0, y1, y2, y3], _ =>
          obtain ⟨o0, k0⟩ := hone_of hone 0 f0 rfl
          obtain ⟨o1, k1⟩ := hone_of hone 1 f1 rfl
          obtain ⟨o2, k2⟩ := hone_of hone 2 f2 rfl
          obtain ⟨o3, k3⟩ := hone_of hone 3 f3 rfl
          have t0 := hfs 0 f0 rfl
          have t1 := hfs 1 f1 rfl
          have t2 := hfs 2 f2 rfl
          have t3 := hfs 3 f3 rfl
          simp [o0, k0] at t0
          simp [o1, k1] at t1
          simp [o2, k2] at t2
          simp [o3, k3] at t3
          obtain ⟨z0, e0, _, w0⟩ := DataW.trod_int h0 t0
          obtain ⟨z1, e1, _, w1⟩ := DataW.trod_int h1 t1
          obtain ⟨z2, e2, _, w2⟩ := DataW.trod_int h2 t2
          obtain ⟨va, vn, vc, ks, e3, w3, w4, w5⟩ := open_bools h3 hb hbc t3
          have w7 : va = none → vc = 0 := by
            rw [e3] at t3
            exact bools_nil h3 t3
          have w6 : vc ≤ 140737488351232 := by
            rw [e3] at t3
            refine bools_bound h3 hb hbc hbB t3 fun n hn => hwi n ?_
            rw [show (D i) = .agg [y0.1, y1.1, y2.1, y3.1] from by
              have := congrArg Prod.fst hy
              simpa using this]
            simp only [DataW.weights, he]
            exact DataW.weights_mem_each (j := 3) (t := f3.type) (d := y3.1) rfl rfl n hn
          simp at e0 e1 e2
          subst e0 e1 e2 e3
          have c0 := hat 0 (by omega)
          have c1 := hat 1 (by omega)
          have c2 := hat 2 (by omega)
          have c3 := hat 3 (by omega)
          rw [Go.Deep.add_add] at c0 c1 c2 c3
          refine ⟨⟨z0, z1, z2, va, vn, vc, ks⟩, fun j v hj => ?_, ⟨w0, w1, w2, w3, w4, w5⟩, w6, w7⟩
          match j, hj with
          | 0, hj => cases hj; simpa using c0
          | 1, hj => cases hj; simpa using c1
          | 2, hj => cases hj; simpa using c2
          | 3, hj => cases hj; simpa using c3
          | j + 4, hj => simp [opc, opv] at hj
    let ops : List OpT := (List.range len).map fun i => if hi' : i < m then Classical.choose (each i hi') else ⟨0, 0, 0, none, 0, 0, []⟩
    have hops : ∀ i o, ops[i]? = some o → i < len ∧ (∀ j v, (opc o)[j]? = some v → W.cell? (a.add (i * 4 + j)) = some v) ∧ o.Ok W ∧ o.Kept := by
      intro i o ho
      have hil : i < len := by
        rcases Nat.lt_or_ge i len with h' | h'
        · exact h'
        · rw [List.getElem?_eq_none (by simpa [ops] using h')] at ho; cases ho
      have him : i < m := by omega
      have : o = Classical.choose (each i him) := by
        have h' : ops[i]? = some (Classical.choose (each i him)) := by simp [ops, hil, him]
        rw [h'] at ho
        exact (Option.some.inj ho).symm
      subst this
      exact ⟨hil, Classical.choose_spec (each i him)⟩
    refine ⟨⟨some a, len, m, ops⟩, ⟨rfl, ⟨by simp [ops], fun i o ho => ?_⟩, fun o ho => ?_, hl, ?_⟩, fun o ho => ?_⟩
    · obtain ⟨hil, hc, _, _⟩ := hops i o ho
      have hm0 : 0 < m := by omega
      obtain ⟨o0, cz, _⟩ := each 0 hm0
      have cz' := cz 0 _ rfl
      obtain ⟨hsp, hbl⟩ := plain_of_cell (a := a) (by simpa [Addr.add] using cz')
      refine ⟨a.block, a.off, congrArg some (plain_eta hsp), hbl, fun j v hj => ?_⟩
      have := hc j v hj
      rw [add_plain hsp] at this
      rwa [← Nat.add_assoc] at this
    · obtain ⟨i, hi'⟩ := List.getElem?_of_mem ho
      exact (hops i o hi').2.2.1
    · have h1 := hw (len * P.bytesOf e + (m - len) * P.bytesOf e) (by
        simp [DataW.weights, hu]
        left
        rw [← Nat.add_mul])
      have h2 : len * 1 ≤ len * P.bytesOf e := Nat.mul_le_mul_left _ hB
      have h3 : (m - len) * 1 ≤ (m - len) * P.bytesOf e := Nat.mul_le_mul_left _ hB
      have h4 : reachBytes = 140737488351232 := rfl
      show m ≤ 140737488351232
      omega
    · obtain ⟨i, hi'⟩ := List.getElem?_of_mem ho
      exact (hops i o hi').2.2.2
end

set_option maxRecDepth 100000 in
theorem open_ops22k {H : Type} {enc : TypeId × Value → H} {W : World} {base : Nat} {v : Value} {d : DataW H} {p : List MemPlace}
    (hv : Value.okWide Try.prog W .any base 22 v) (h : DataW.Trod enc Try.prog W 0 (fun _ => true) true 22 v d p) (hw : ∀ n ∈ d.weights Try.prog 22, n ≤ reachBytes) : ∃ x : OpsIn, x.Ok v W ∧ ∀ o ∈ x.l, o.Kept := by
  obtain ⟨f0, f1, f2, f3, h1, h2, e0, e1, e2, e3⟩ := op_struct
  exact open_ops2 (te := 3) (tb := 4) Try.underlying22 h1 h2 (by kernel_rfl) (of_decide_eq_true (by kernel_rfl)) (by rw [e0]; exact Try.underlying3) (by rw [e1]; exact Try.underlying3) (by rw [e2]; exact Try.underlying5) (by rw [e3]; exact Try.underlying30) Try.underlying4 (by kernel_rfl) (of_decide_eq_true (by kernel_rfl)) hv h hw

/-- One op. -/
def OpT.Is (o : OpT) (v : Value) (W : World) : Prop := v = .agg #[.int .i64 o.k, .int .i64 o.a, .int .u8 o.f, .slice o.va o.vn o.vc] ∧ o.Ok W ∧ o.Kept
set_option maxRecDepth 100000 in
theorem open_op32 {H : Type} {enc : TypeId × Value → H} {W : World} {base : Nat} {v : Value} {d : DataW H} {p : List MemPlace}
    (hv : Value.okWide Try.prog W .any base 32 v) (h : DataW.Trod enc Try.prog W 0 (fun _ => true) true 32 v d p) (hw : ∀ n ∈ d.weights Try.prog 32, n ≤ reachBytes) : ∃ o : OpT, o.Is v W := by
  obtain ⟨f0, f1, f2, f3, he, hone, e0, e1, e2, e3⟩ := op_struct
  obtain ⟨cs, rfl, hcs⟩ := okWide_struct he hv
  have hcs4 : cs.size = 4 := hcs.trans (by kernel_rfl)
  obtain ⟨fuel, hf⟩ := h
  simp only [Value.cells] at hf
  obtain ⟨ys, n', hn', hy, hlen, hyl, hfs⟩ := DataW.trod_struct he hf
  obtain ⟨l, rfl⟩ : ∃ l : List Value, cs = l.toArray := ⟨cs.toList, by simp⟩
  have hl4 : l.length = 4 := by simpa using hcs4
  match l, hl4 with
  | [x0, x1, x2, x3], _ =>
    match ys, hyl with
    | [y0, y1, y2, y3], _ =>
      obtain ⟨o0, k0⟩ := hone_of hone 0 f0 rfl
      obtain ⟨o1, k1⟩ := hone_of hone 1 f1 rfl
      obtain ⟨o2, k2⟩ := hone_of hone 2 f2 rfl
      obtain ⟨o3, k3⟩ := hone_of hone 3 f3 rfl
      have t0 := hfs 0 f0 rfl
      have t1 := hfs 1 f1 rfl
      have t2 := hfs 2 f2 rfl
      have t3 := hfs 3 f3 rfl
      simp [o0, k0] at t0
      simp [o1, k1] at t1
      simp [o2, k2] at t2
      simp [o3, k3] at t3
      have h3 : Try.prog.underlying f3.type = some (.slice 4) := by rw [e3]; exact Try.underlying30
      obtain ⟨z0, g0, _, w0⟩ := DataW.trod_int (by rw [e0]; exact Try.underlying3) t0
      obtain ⟨z1, g1, _, w1⟩ := DataW.trod_int (by rw [e1]; exact Try.underlying3) t1
      obtain ⟨z2, g2, _, w2⟩ := DataW.trod_int (by rw [e2]; exact Try.underlying5) t2
      obtain ⟨va, vn, vc, ks, g3, w3, w4, w5⟩ := open_bools h3 Try.underlying4 (by kernel_rfl) t3
      simp at g0 g1 g2
      subst g0 g1 g2 g3
      have w7 := bools_nil (enc := enc) h3 t3
      have w6 : vc ≤ 140737488351232 := by
        refine bools_bound h3 Try.underlying4 (by kernel_rfl) (of_decide_eq_true (by kernel_rfl)) t3 fun n hn => hw n ?_
        rw [show d = .agg [y0.1, y1.1, y2.1, y3.1] from by
          have := congrArg Prod.fst hy
          simpa using this]
        simp only [DataW.weights, he]
        exact DataW.weights_mem_each (j := 3) (t := f3.type) (d := y3.1) rfl rfl n hn
      exact ⟨⟨z0, z1, z2, va, vn, vc, ks⟩, rfl, ⟨w0, w1, w2, w3, w4, w5⟩, w6, w7⟩
end Go.Proofs.Ytjiammhmeliogaa
