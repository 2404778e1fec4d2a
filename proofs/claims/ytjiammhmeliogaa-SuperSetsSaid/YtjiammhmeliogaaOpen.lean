/- An argument of the type []Op opened. -/
import Derived.Test.YtjiammhmeliogaaLastW
import Derived.ShutString
import Derived.ProofKit
import Derived.OpenShut
import Derived.SizedLaws
import Derived.Deep.Slices
import Derived.Deep.Fields
namespace Go.Proofs.Ytjiammhmeliogaa
open Go.ChangeShapes Go.WideShapes Go.ChangeAt Go.RowKit Go.Deep
open Go.ChangeMaps (open_string shut_string)
set_option linter.unusedVariables false

section
variable {H : Type} {enc : TypeId × Value → H} {P : Program} {W : World} {base : Nat} {v : Value} {d : DataW H} {p : List MemPlace}

theorem weights_at {ts : List TypeId} {ds : List (DataW H)} (h : (DataW.weightsEach P ts ds).all (· ≤ reachBytes) = true) (j : Nat) {t : TypeId} {d : DataW H} (ht : ts[j]? = some t) (hd : ds[j]? = some d) :
    ∀ n ∈ d.weights P t, n ≤ reachBytes := fun n hn => by
  have := List.all_eq_true.1 h n (DataW.weights_mem_each ht hd n hn)
  simpa using this

/-- A cell that is read stands at a plain address. -/
theorem plain_of_cell {W : World} {a : Addr} {v : Value} (h : W.cell? a = some v) : a.spot = none ∧ a.block < W.heap.size := by
  constructor
  · cases hs : a.spot with
    | none => rfl
    | some s =>
      unfold World.cell? at h
      split at h
      · rw [if_pos (by simp [hs])] at h; cases h
      · cases h
  · rcases Nat.lt_or_ge a.block W.heap.size with h' | h'
    · exact h'
    · simp [World.cell?, Array.getElem?_eq_none h'] at h

theorem plain_eta {a : Addr} (h : a.spot = none) : a = ⟨a.block, a.off, none⟩ := by cases a; cases h; rfl
theorem add_plain {a : Addr} (h : a.spot = none) (i : Nat) : a.add i = ⟨a.block, a.off + i, none⟩ := by
  cases a; cases h; unfold Addr.add; split <;> simp_all

structure OpsIn where
  a : Option Addr
  n : Nat
  c : Nat
  l : List OpT

/-- What an op's numbers and its slice are. -/
def OpT.Ok (o : OpT) (W : World) : Prop := (Lit.int .i64 o.k).wf = true ∧ (Lit.int .i64 o.a).wf = true ∧ (Lit.int .u8 o.f).wf = true ∧ BoolRow W o.va o.vn o.ks ∧ o.vn ≤ o.vc ∧ o.vc ≤ maxLen

/-- What an argument of the type '[]Op' is. -/
def OpsIn.Ok (x : OpsIn) (v : Value) (W : World) : Prop :=
  v = .slice x.a x.n x.c ∧ OpRow W.heap.size W x.a x.n x.l ∧ (∀ o ∈ x.l, o.Ok W) ∧ x.n ≤ x.c ∧ x.c ≤ 140737488351232

theorem open_bools {t e : TypeId} {fuel : Nat} {x : DataW H × List MemPlace} (ht : P.underlying t = some (.slice e)) (he : P.underlying e = some .bool) (hc : P.cellsOf e = 1) {xv : Value} (h : DataW.trod enc P W 0 (fun _ => true) true fuel t [xv] = some x) :
    ∃ (va : Option Addr) (vn vc : Nat) (ks : List Bool), xv = .slice va vn vc ∧ BoolRow W va vn ks ∧ vn ≤ vc ∧ vc ≤ maxLen := by
  rcases open_slice1 ht hc h with ⟨hcs, _⟩ | ⟨a, len, cap, m, n, V, D, Pl, hcs, _, hl, hm, hmm, _, hi⟩
  · simp at hcs
    exact ⟨none, 0, 0, [], hcs, ⟨rfl, fun i hi => absurd hi (by omega)⟩, Nat.le_refl _, by unfold maxLen; omega⟩
  · simp at hcs
    simp only [if_true] at hmm
    subst hmm
    have each : ∀ i, i < m → ∃ b : Bool, W.cell? (a.add i) = some (.bool b) := by
      intro i him
      obtain ⟨h1, h2⟩ := hi i him
      obtain ⟨b, h3, _⟩ := DataW.trod_bool he h2
      simp at h3
      exact ⟨b, by rw [h1, h3]⟩
    obtain ⟨f, hf⟩ : ∃ f : Nat → Bool, ∀ i, i < m → W.cell? (a.add i) = some (.bool (f i)) := by
      refine ⟨fun i => if hi' : i < m then Classical.choose (each i hi') else false, fun i hi' => ?_⟩
      simp only [hi', dif_pos]
      exact Classical.choose_spec (each i hi')
    refine ⟨some a, len, m, (List.range len).map f, hcs, ⟨by simp, fun i hi' => ?_⟩, hl, hm⟩
    have h0 := hf 0 (by omega)
    obtain ⟨hsp0, hbl'⟩ := plain_of_cell (a := a) (by simpa [Addr.add] using h0)
    have hci := hf i (by omega)
    rw [add_plain hsp0] at hci
    refine ⟨a.block, a.off, congrArg some (plain_eta hsp0), hbl', ?_⟩
    rw [hci]
    congr 2
    rw [List.getD_eq_getElem?_getD, List.getElem?_map, List.getElem?_range hi']
    rfl

theorem open_ops {t e : TypeId} {f0 f1 f2 f3 : Field} {te tb : TypeId} (hu : P.underlying t = some (.slice e)) (he : P.underlying e = some (.struct #[f0, f1, f2, f3])) (hone : oneCellFields P #[f0, f1, f2, f3] = true) (hC : P.cellsOf e = 4) (hB : 1 ≤ P.bytesOf e)
    (h0 : P.underlying f0.type = some (.int .i64)) (h1 : P.underlying f1.type = some (.int .i64)) (h2 : P.underlying f2.type = some (.int .u8)) (h3 : P.underlying f3.type = some (.slice tb)) (hb : P.underlying tb = some .bool) (hbc : P.cellsOf tb = 1)
    (hv : Value.okWide P W .any base t v) (h : DataW.Trod enc P W 0 (fun _ => true) true t v d p) (hw : ∀ n ∈ d.weights P t, n ≤ reachBytes) : ∃ x : OpsIn, x.Ok v W := by
  obtain ⟨a0, len, cap, rfl⟩ := okWide_slice hu hv
  obtain ⟨fuel, hf⟩ := h
  rcases open_slice hu hf with ⟨hcs, _⟩ | ⟨a, l, c, m, n, D, Pl, hcs, _, hl, hm, hmm, hx, hi⟩
  · simp [Value.cells] at hcs
    obtain ⟨rfl, rfl, rfl⟩ := hcs
    exact ⟨⟨none, 0, 0, []⟩, rfl, ⟨rfl, fun i o ho => by simp at ho⟩, fun o ho => by simp at ho, Nat.le_refl _, by decide⟩
  · simp [Value.cells] at hcs
    obtain ⟨rfl, rfl, rfl⟩ := hcs
    simp only [if_true] at hmm
    subst hmm
    simp only [Prod.mk.injEq] at hx
    obtain ⟨rfl, _⟩ := hx
    have each : ∀ i, i < m → ∃ o : OpT, (∀ j v, (opc o)[j]? = some v → W.cell? (a.add (i * 4 + j)) = some v) ∧ o.Ok W := by
      intro i him
      obtain ⟨cs', hc, ht'⟩ := hi i him
      rw [hC] at hc
      obtain ⟨ys, n', hn', hy, hlen, hyl, hfs⟩ := DataW.trod_struct he ht'
      obtain ⟨_, hcl, hat⟩ := World.cells?_some hc
      match cs', hcl with
      | [x0, x1, x2, x3], _ =>
        match ys, hyl with
        | [y0, y1, y2, y3], _ =>
          obtain ⟨o0, k0⟩ := hone_of hone 0 f0 rfl
          obtain ⟨o1, k1⟩ := hone_of hone 1 f1 rfl
          obtain ⟨o2, k2⟩ := hone_of hone 2 f2 rfl
          obtain ⟨o3, k3⟩ := hone_of hone 3 f3 rfl
          have t0 := hfs 0 f0 rfl
          have t1 := hfs 1 f1 rfl
          have t2 := hfs 2 f2 rfl
          have t3 := hfs 3 f3 rfl
          simp [o0, k0] at t0
          simp [o1, k1] at t1
          simp [o2, k2] at t2
          simp [o3, k3] at t3
          obtain ⟨z0, e0, _, w0⟩ := DataW.trod_int h0 t0
          obtain ⟨z1, e1, _, w1⟩ := DataW.trod_int h1 t1
          obtain ⟨z2, e2, _, w2⟩ := DataW.trod_int h2 t2
          obtain ⟨va, vn, vc, ks, e3, w3, w4, w5⟩ := open_bools h3 hb hbc t3
          simp at e0 e1 e2
          subst e0 e1 e2 e3
          have c0 := hat 0 (by omega)
          have c1 := hat 1 (by omega)
          have c2 := hat 2 (by omega)
          have c3 := hat 3 (by omega)
          rw [Go.Deep.add_add] at c0 c1 c2 c3
          refine ⟨⟨z0, z1, z2, va, vn, vc, ks⟩, fun j v hj => ?_, w0, w1, w2, w3, w4, w5⟩
          match j, hj with
          | 0, hj => cases hj; simpa using c0
          | 1, hj => cases hj; simpa using c1
          | 2, hj => cases hj; simpa using c2
          | 3, hj => cases hj; simpa using c3
          | j + 4, hj => simp [opc, opv] at hj
    let ops : List OpT := (List.range len).map fun i => if hi' : i < m then Classical.choose (each i hi') else ⟨0, 0, 0, none, 0, 0, []⟩
    have hops : ∀ i o, ops[i]? = some o → i < len ∧ (∀ j v, (opc o)[j]? = some v → W.cell? (a.add (i * 4 + j)) = some v) ∧ o.Ok W := by
      intro i o ho
      have hil : i < len := by
        rcases Nat.lt_or_ge i len with h' | h'
        · exact h'
        · rw [List.getElem?_eq_none (by simpa [ops] using h')] at ho; cases ho
      have him : i < m := by omega
      have : o = Classical.choose (each i him) := by
        have h' : ops[i]? = some (Classical.choose (each i him)) := by simp [ops, hil, him]
        rw [h'] at ho
        exact (Option.some.inj ho).symm
      subst this
      exact ⟨hil, Classical.choose_spec (each i him)⟩
    refine ⟨⟨some a, len, m, ops⟩, rfl, ⟨by simp [ops], fun i o ho => ?_⟩, fun o ho => ?_, hl, ?_⟩
    · obtain ⟨hil, hc, _⟩ := hops i o ho
      have hm0 : 0 < m := by omega
      obtain ⟨o0, cz, _⟩ := each 0 hm0
      have cz' := cz 0 _ rfl
      obtain ⟨hsp, hbl⟩ := plain_of_cell (a := a) (by simpa [Addr.add] using cz')
      refine ⟨a.block, a.off, congrArg some (plain_eta hsp), hbl, fun j v hj => ?_⟩
      have := hc j v hj
      rw [add_plain hsp] at this
      rwa [← Nat.add_assoc] at this
    · obtain ⟨i, hi'⟩ := List.getElem?_of_mem ho
      exact (hops i o hi').2.2
    · have h1 := hw (len * P.bytesOf e + (m - len) * P.bytesOf e) (by
        simp [DataW.weights, hu]
        left
        rw [← Nat.add_mul])
      have h2 : len * 1 ≤ len * P.bytesOf e := Nat.mul_le_mul_left _ hB
      have h3 : (m - len) * 1 ≤ (m - len) * P.bytesOf e := Nat.mul_le_mul_left _ hB
      have h4 : reachBytes = 140737488351232 := rfl
      show m ≤ 140737488351232
      omega
end

theorem op_struct : ∃ f0 f1 f2 f3 : Field, Try.prog.underlying 32 = some (.struct #[f0, f1, f2, f3]) ∧ oneCellFields Try.prog #[f0, f1, f2, f3] = true ∧ f0.type = 3 ∧ f1.type = 3 ∧ f2.type = 5 ∧ f3.type = 30 :=
  ⟨_, _, _, _, Try.underlying32, by kernel_rfl, rfl, rfl, rfl, rfl⟩
set_option maxRecDepth 100000 in
theorem open_ops22 {H : Type} {enc : TypeId × Value → H} {W : World} {base : Nat} {v : Value} {d : DataW H} {p : List MemPlace}
    (hv : Value.okWide Try.prog W .any base 22 v) (h : DataW.Trod enc Try.prog W 0 (fun _ => true) true 22 v d p) (hw : ∀ n ∈ d.weights Try.prog 22, n ≤ reachBytes) : ∃ x : OpsIn, x.Ok v W := by
  obtain ⟨f0, f1, f2, f3, h1, h2, e0, e1, e2, e3⟩ := op_struct
  exact open_ops (te := 3) (tb := 4) Try.underlying22 h1 h2 (by kernel_rfl) (of_decide_eq_true (by kernel_rfl)) (by rw [e0]; exact Try.underlying3) (by rw [e1]; exact Try.underlying3) (by rw [e2]; exact Try.underlying5) (by rw [e3]; exact Try.underlying30) Try.underlying4 (by kernel_rfl) hv h hw

theorem last_walk (v : Value) (x : OpsIn) (W : World) (w0 : x.Ok v W) :
    Calls Try.prog 3 #[v] W fun e w' => e = .returned (.bool true) ∧ Below W.heap.size W w' := by
  obtain ⟨rfl, hr, _, hn, hc⟩ := w0
  refine (last_law x.a x.n x.c x.l W hr hn (by unfold maxLen; omega)).mono ?_
  rintro e w' ⟨rfl, hk⟩
  exact ⟨rfl, hk.below (fun _ h => h.elim) (Nat.le_refl _)⟩
end Go.Proofs.Ytjiammhmeliogaa
