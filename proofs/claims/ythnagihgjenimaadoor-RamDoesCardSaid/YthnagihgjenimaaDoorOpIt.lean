/- Arguments of Ram's laws opened: an item; a row of items. -/
import Derived.Deep.Slices
import Derived.Deep.Fields
import Derived.Test.YthnagihgjenimaaDoorOwn
namespace Go.Proofs.YthnagihgjenimaaDoor
open Go.ChangeShapes Go.WideShapes Go.ChangeAt Go.RowKit Go.Deep
set_option linter.unusedVariables false
set_option linter.unusedSimpArgs false
theorem plain_cell {W : World} {a : Addr} {v : Value} (h : W.cell? a = some v) : a.spot = none ∧ a.block < W.heap.size := by
  constructor
  · cases hs : a.spot with
    | none => rfl
    | some s =>
      unfold World.cell? at h
      split at h
      · rw [if_pos (by simp [hs])] at h; cases h
      · cases h
  · exact cell_lt h
theorem plainA_eta {a : Addr} (h : a.spot = none) : a = ⟨a.block, a.off, none⟩ := by cases a; cases h; rfl
theorem addA_plain {a : Addr} (h : a.spot = none) (i : Nat) : a.add i = ⟨a.block, a.off + i, none⟩ := by
  cases a; cases h; unfold Addr.add; split <;> simp_all
theorem wf_u8b {x : Int} (h : (Lit.int .u8 x).wf = true) : 0 ≤ x ∧ x ≤ 255 := by
  simpa [Lit.wf, IntKind.min, IntKind.max, IntKind.signed, IntKind.bits] using h
theorem wf_u64b {x : Int} (h : (Lit.int .u64 x).wf = true) : 0 ≤ x ∧ x ≤ 18446744073709551615 := by
  simpa [Lit.wf, IntKind.min, IntKind.max, IntKind.signed, IntKind.bits] using h
/-- An item, as an argument. -/
structure IT.In (i : IT) (W : World) (kv vv : Value) : Prop where
  b : ItB W i kv vv
  kb : Bytes i.key
  vb : Bytes i.val
  kl : i.key.length ≤ 140737488351232
  vl : i.val.length ≤ 140737488351232
  sq : 0 ≤ i.sq
section
variable {H : Type} {enc : TypeId × Value → H} {W : World} {base : Nat} {v : Value} {d : DataW H} {p : List MemPlace}
theorem open_slb {fuel : Nat} {x : DataW H × List MemPlace} {xv : Value} (h : DataW.trod enc Tryd.prog W 0 (fun _ => true) true fuel 56 [xv] = some x) (hw : ∀ n ∈ x.1.weights Tryd.prog 56, n ≤ reachBytes) : ∃ xs : List Int, SlB W xv xs ∧ Bytes xs ∧ xs.length ≤ 140737488351232 := by
  rcases open_ints Tryd.underlying56 Tryd.underlying5 (by kernel_rfl) h with ⟨hcs, _⟩ | ⟨a, l, c, zs, hcs, _, hl, hm, hz, hx, hcell, hwz⟩
  · simp at hcs
    subst hcs
    exact ⟨[], ⟨none, 0, rfl, rfl, fun i hi => absurd hi (by simp)⟩, (fun z hz => by cases hz), by simp⟩
  · simp at hcs
    subst hcs
    have hzl : zs.length = c := by simpa using hz
    have htl : (zs.take l).length = l := by simp; omega
    refine ⟨zs.take l, ⟨some a, c, by rw [htl], htl.symm ▸ rfl, fun i hi => ⟨a, rfl, ?_⟩⟩, fun z hz => wf_u8b (hwz z (List.mem_of_mem_take hz)), ?_⟩
    · have hi' : i < l := by omega
      rw [hcell i (by omega), List.getD_eq_getElem?_getD, List.getD_eq_getElem?_getD, List.getElem?_take, if_pos hi']
    · have hB : 1 ≤ Tryd.prog.bytesOf 5 := of_decide_eq_true (by kernel_rfl)
      have h1 := hw (l * Tryd.prog.bytesOf 5 + (zs.length - l) * Tryd.prog.bytesOf 5) (by
        rw [hx]
        simp [DataW.weights, Tryd.underlying56, lits]
        left
        rw [← Nat.add_mul]
        congr 1
        omega)
      have h2 : l * 1 ≤ l * Tryd.prog.bytesOf 5 := Nat.mul_le_mul_left _ hB
      have h3 : reachBytes = 140737488351232 := rfl
      omega
set_option maxRecDepth 100000 in
theorem item_struct : ∃ f0 f1 f2 f3 f4 f5 : Field, Tryd.prog.underlying 64 = some (.struct #[f0, f1, f2, f3, f4, f5]) ∧ oneCellFields Tryd.prog #[f0, f1, f2, f3, f4, f5] = true ∧ f0.type = 56 ∧ f1.type = 56 ∧ f2.type = 62 ∧ f3.type = 62 ∧ f4.type = 61 ∧ f5.type = 4 :=
  ⟨_, _, _, _, _, _, Tryd.underlying64, by kernel_rfl, rfl, rfl, rfl, rfl, rfl, rfl⟩
set_option maxRecDepth 100000 in
theorem item_cells {fuel : Nat} {x : DataW H × List MemPlace} {l : List Value} (hl : l.length = 6) (hf : DataW.trod enc Tryd.prog W 0 (fun _ => true) true fuel 64 l = some x) (hw : ∀ n ∈ x.1.weights Tryd.prog 64, n ≤ reachBytes) : ∃ (i : IT) (kv vv : Value), l = i.cells kv vv ∧ i.In W kv vv := by
  obtain ⟨f0, f1, f2, f3, f4, f5, he, hone, e0, e1, e2, e3, e4, e5⟩ := item_struct
  obtain ⟨ys, n', hn', hy, hlen, hyl, hfs⟩ := DataW.trod_struct he hf
  match l, hl with
  | [x0, x1, x2, x3, x4, x5], _ =>
    match ys, hyl with
    | [y0, y1, y2, y3, y4, y5], _ =>
      obtain ⟨o0, k0⟩ := hone_of hone 0 f0 rfl
      obtain ⟨o1, k1⟩ := hone_of hone 1 f1 rfl
      obtain ⟨o2, k2⟩ := hone_of hone 2 f2 rfl
      obtain ⟨o3, k3⟩ := hone_of hone 3 f3 rfl
      obtain ⟨o4, k4⟩ := hone_of hone 4 f4 rfl
      obtain ⟨o5, k5⟩ := hone_of hone 5 f5 rfl
      have t0 := hfs 0 f0 rfl
      have t1 := hfs 1 f1 rfl
      have t2 := hfs 2 f2 rfl
      have t3 := hfs 3 f3 rfl
      have t4 := hfs 4 f4 rfl
      have t5 := hfs 5 f5 rfl
      simp [o0, k0] at t0
      simp [o1, k1] at t1
      simp [o2, k2] at t2
      simp [o3, k3] at t3
      simp [o4, k4] at t4
      simp [o5, k5] at t5
      have hd : x.1 = .agg [y0.1, y1.1, y2.1, y3.1, y4.1, y5.1] := by
        have := congrArg Prod.fst hy
        simpa using this
      have hw0 : ∀ n ∈ y0.1.weights Tryd.prog f0.type, n ≤ reachBytes := fun n hn => hw n (by
        rw [hd]
        simp only [DataW.weights, he]
        exact DataW.weights_mem_each (j := 0) (t := f0.type) (d := y0.1) rfl rfl n hn)
      have hw1 : ∀ n ∈ y1.1.weights Tryd.prog f1.type, n ≤ reachBytes := fun n hn => hw n (by
        rw [hd]
        simp only [DataW.weights, he]
        exact DataW.weights_mem_each (j := 1) (t := f1.type) (d := y1.1) rfl rfl n hn)
      rw [e0] at t0 hw0
      rw [e1] at t1 hw1
      obtain ⟨ks, b0, kb, kl⟩ := open_slb t0 hw0
      obtain ⟨vs, b1, vb, vl⟩ := open_slb t1 hw1
      obtain ⟨z2, g2, _, w2⟩ := DataW.trod_int (by rw [e2]; exact Tryd.underlying62) t2
      obtain ⟨z3, g3, _, w3⟩ := DataW.trod_int (by rw [e3]; exact Tryd.underlying62) t3
      obtain ⟨z4, g4, _, w4⟩ := DataW.trod_int (by rw [e4]; exact Tryd.underlying61) t4
      obtain ⟨z5, g5, _⟩ := DataW.trod_bool (by rw [e5]; exact Tryd.underlying4) t5
      simp at g2 g3 g4 g5
      subst g2 g3 g4 g5
      exact ⟨⟨ks, vs, z2, z3, z4, z5⟩, x0, x1, rfl, ⟨b0, b1⟩, kb, vb, kl, vl, (wf_u64b w4).1⟩
set_option maxRecDepth 100000 in
theorem open_item64 (hv : Value.okWide Tryd.prog W .any base 64 v) (h : DataW.Trod enc Tryd.prog W 0 (fun _ => true) true 64 v d p) (hw : ∀ n ∈ d.weights Tryd.prog 64, n ≤ reachBytes) : ∃ (i : IT) (kv vv : Value), v = i.agg kv vv ∧ i.In W kv vv := by
  obtain ⟨f0, f1, f2, f3, f4, f5, he, hone, _⟩ := item_struct
  obtain ⟨cs, rfl, hcs⟩ := okWide_struct he hv
  have hcs6 : cs.size = 6 := hcs.trans (by kernel_rfl)
  obtain ⟨fuel, hf⟩ := h
  simp only [Value.cells] at hf
  obtain ⟨l, rfl⟩ : ∃ l : List Value, cs = l.toArray := ⟨cs.toList, by simp⟩
  obtain ⟨i, kv, vv, rfl, hi⟩ := item_cells (by simpa using hcs6) hf hw
  exact ⟨i, kv, vv, rfl, hi⟩
theorem weights_all {P : Program} {e : TypeId} {d : DataW H} {n : Nat} (hn : n ∈ d.weights P e) : ∀ {l : List (DataW H)}, d ∈ l → n ∈ DataW.weightsAll P e l
  | [], h => by simp at h
  | x :: r, h => by
    simp only [DataW.weightsAll, List.mem_append]
    rcases List.mem_cons.1 h with rfl | h
    · exact .inl hn
    · exact .inr (weights_all hn h)
theorem weights_elem {P : Program} {t e : TypeId} (hu : P.underlying t = some (.slice e)) {len m i n : Nat} {D : Nat → DataW H} (hi : i < len ∨ (len ≤ i ∧ i < m)) (hn : n ∈ (D i).weights P e) :
    n ∈ (DataW.slice ((List.range len).map D) ((List.range (m - len)).map fun j => D (len + j))).weights P t := by
  simp only [DataW.weights, hu, List.mem_cons, List.mem_append]
  refine .inr ?_
  rcases hi with hi | ⟨h1, h2⟩
  · exact .inl (weights_all hn (List.mem_map.2 ⟨i, List.mem_range.2 hi, rfl⟩))
  · exact .inr (weights_all hn (List.mem_map.2 ⟨i - len, List.mem_range.2 (by omega), by congr 1; omega⟩))
/-- An item that comes in: its slices. -/
structure ITV where
  it : IT
  kv : Value
  vv : Value
/-- A row of items, as an argument. -/
structure ItsIn (W : World) (v : Value) (a : Option Addr) (n : Nat) (l : List ITV) : Prop where
  form : ∃ c, v = .slice a n c ∧ n ≤ c ∧ c ≤ 140737488351232
  len : l.length = n
  cell : ∀ i o, l[i]? = some o → ∃ b off, a = some ⟨b, off, none⟩ ∧ b < W.heap.size ∧ ∀ j u, (o.it.cells o.kv o.vv)[j]? = some u → W.cell? ⟨b, off + i * 6 + j, none⟩ = some u
  good : ∀ o ∈ l, o.it.In W o.kv o.vv
set_option maxRecDepth 100000 in
theorem open_items58 (hv : Value.okWide Tryd.prog W .any base 58 v) (h : DataW.Trod enc Tryd.prog W 0 (fun _ => true) true 58 v d p) (hw : ∀ n ∈ d.weights Tryd.prog 58, n ≤ reachBytes) : ∃ a n l, ItsIn W v a n l := by
  obtain ⟨a0, len, cap, rfl⟩ := okWide_slice Tryd.underlying58 hv
  have hC : Tryd.prog.cellsOf 64 = 6 := by kernel_rfl
  have hB : 1 ≤ Tryd.prog.bytesOf 64 := of_decide_eq_true (by kernel_rfl)
  obtain ⟨fuel, hf⟩ := h
  rcases open_slice Tryd.underlying58 hf with ⟨hcs, _⟩ | ⟨a, l, c, m, n, D, Pl, hcs, _, hl, hm, hmm, hx, hi⟩
  · simp [Value.cells] at hcs
    obtain ⟨rfl, rfl, rfl⟩ := hcs
    exact ⟨none, 0, [], ⟨0, rfl, Nat.le_refl _, by decide⟩, rfl, (fun i o ho => by simp at ho), (fun o ho => by simp at ho)⟩
  · simp [Value.cells] at hcs
    obtain ⟨rfl, rfl, rfl⟩ := hcs
    simp only [if_true] at hmm
    subst hmm
    simp only [Prod.mk.injEq] at hx
    obtain ⟨rfl, _⟩ := hx
    have each : ∀ i, i < m → ∃ o : ITV, (∀ j u, (o.it.cells o.kv o.vv)[j]? = some u → W.cell? (a.add (i * 6 + j)) = some u) ∧ o.it.In W o.kv o.vv := by
      intro i him
      obtain ⟨cs', hc, ht'⟩ := hi i him
      have hwi : ∀ n ∈ (D i).weights Tryd.prog 64, n ≤ reachBytes := fun n hn => hw n (weights_elem Tryd.underlying58 (by omega) hn)
      rw [hC] at hc
      obtain ⟨_, hcl, hat⟩ := World.cells?_some hc
      obtain ⟨it, kv, vv, rfl, hin⟩ := item_cells hcl ht' hwi
      refine ⟨⟨it, kv, vv⟩, fun j u hj => ?_, hin⟩
      have hj6 : j < 6 := by
        have := (List.getElem?_eq_some_iff.1 hj).1
        simpa [IT.cells] using this
      have := hat j hj6
      rw [Go.Deep.add_add] at this
      rw [this]
      exact hj
    let ops : List ITV := (List.range len).map fun i => if hi' : i < m then Classical.choose (each i hi') else ⟨⟨[], [], 0, 0, 0, false⟩, .slice none 0 0, .slice none 0 0⟩
    have hops : ∀ i o, ops[i]? = some o → i < len ∧ (∀ j u, (o.it.cells o.kv o.vv)[j]? = some u → W.cell? (a.add (i * 6 + j)) = some u) ∧ o.it.In W o.kv o.vv := by
      intro i o ho
      have hil : i < len := by
        rcases Nat.lt_or_ge i len with h' | h'
        · exact h'
        · rw [List.getElem?_eq_none (by simpa [ops] using h')] at ho; cases ho
      have him : i < m := by omega
      have : o = Classical.choose (each i him) := by
        have h' : ops[i]? = some (Classical.choose (each i him)) := by simp [ops, hil, him]
        rw [h'] at ho
        exact (Option.some.inj ho).symm
      subst this
      exact ⟨hil, Classical.choose_spec (each i him)⟩
    refine ⟨some a, len, ops, ⟨m, rfl, hl, ?_⟩, by simp [ops], fun i o ho => ?_, fun o ho => ?_⟩
    · have h1 := hw (len * Tryd.prog.bytesOf 64 + (m - len) * Tryd.prog.bytesOf 64) (by
        simp [DataW.weights, Tryd.underlying58]
        left
        rw [← Nat.add_mul])
      have h2 : len * 1 ≤ len * Tryd.prog.bytesOf 64 := Nat.mul_le_mul_left _ hB
      have h3 : (m - len) * 1 ≤ (m - len) * Tryd.prog.bytesOf 64 := Nat.mul_le_mul_left _ hB
      have h4 : reachBytes = 140737488351232 := rfl
      omega
    · obtain ⟨hil, hc, _⟩ := hops i o ho
      have hm0 : 0 < m := by omega
      obtain ⟨o0, cz, _⟩ := each 0 hm0
      have cz' := cz 0 _ rfl
      obtain ⟨hsp, hbl⟩ := plain_cell (a := a) (by simpa [Addr.add] using cz')
      refine ⟨a.block, a.off, congrArg some (plainA_eta hsp), hbl, fun j u hj => ?_⟩
      have := hc j u hj
      rw [addA_plain hsp] at this
      rwa [← Nat.add_assoc] at this
    · obtain ⟨i, hi'⟩ := List.getElem?_of_mem ho
      exact (hops i o hi').2.2
end
end Go.Proofs.YthnagihgjenimaaDoor
