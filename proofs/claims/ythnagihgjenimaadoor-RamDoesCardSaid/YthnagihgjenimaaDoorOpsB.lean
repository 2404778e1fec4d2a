/- The argument '[]Op' of SlabGives, opened; one Give, one answer. -/
import Derived.Test.YthnagihgjenimaaDoorRefC
import Derived.Deep.Slices
import Derived.Deep.Fields
namespace Go.Proofs.YthnagihgjenimaaDoor
open Go.ChangeShapes Go.WideShapes Go.ChangeAt Go.RowKit Go.Deep
set_option linter.unusedVariables false
set_option linter.unusedSimpArgs false

theorem giveS_one {D D1 D2 : AD} {k : Nat} {r1 q1 r2 q2 : Int} (h1 : GiveS D k r1 q1 D1) (h2 : GiveS D k r2 q2 D2) : r1 = r2 ∧ q1 = q2 ∧ D1 = D2 := by
  cases h1 with
  | hit j hj hh hb =>
    cases h2 with
    | hit j2 hj2 hh2 hb2 =>
      obtain rfl : j = j2 := by
        rcases Nat.lt_trichotomy j j2 with h | h | h
        · exact absurd hh (hb2 _ h)
        · exact h
        · exact absurd hh2 (hb _ h)
      exact ⟨rfl, rfl, rfl⟩
    | page hn => exact absurd hh (hn _ hj)
    | full hn => exact absurd hh (hn _ hj)
  | page hn j hj h0 hb =>
    cases h2 with
    | hit j2 hj2 hh2 => exact absurd hh2 (hn _ hj2)
    | page _ j2 hj2 h02 hb2 =>
      obtain rfl : j = j2 := by
        rcases Nat.lt_trichotomy j j2 with h | h | h
        · exact absurd h0 (hb2 _ h)
        · exact h
        · exact absurd h02 (hb _ h)
      exact ⟨rfl, rfl, rfl⟩
    | full _ hz => exact absurd h0 (hz _ hj)
  | full hn hz =>
    cases h2 with
    | hit j2 hj2 hh2 => exact absurd hh2 (hn _ hj2)
    | page _ j2 hj2 h02 hb2 => exact absurd h02 (hz _ hj2)
    | full => exact ⟨rfl, rfl, rfl⟩
/-- What a Give of z answers. -/
def GiveR (D : AD) (z r q : Int) (D' : AD) : Prop := (z < 0 ∧ r = 0 ∧ q = 2 ∧ D' = D) ∨ (0 ≤ z ∧ z ≤ 1024 ∧ GiveS D (cls z) r q D') ∨ (1024 < z ∧ r = 0 ∧ q = 3 ∧ D' = D)
theorem giveR_one {D D1 D2 : AD} {z r1 q1 r2 q2 : Int} (h1 : GiveR D z r1 q1 D1) (h2 : GiveR D z r2 q2 D2) : r1 = r2 ∧ q1 = q2 ∧ D1 = D2 := by
  rcases h1 with ⟨a1, rfl, rfl, rfl⟩ | ⟨a1, a2, g1⟩ | ⟨a1, rfl, rfl, rfl⟩ <;> rcases h2 with ⟨b1, rfl, rfl, rfl⟩ | ⟨b1, b2, g2⟩ | ⟨b1, rfl, rfl, rfl⟩
  any_goals omega
  · exact ⟨rfl, rfl, rfl⟩
  · exact giveS_one g1 g2
  · exact ⟨rfl, rfl, rfl⟩
theorem GiveR.ok {D D' : AD} {z r q : Int} (hD : D.Ok) (h : GiveR D z r q D') : D'.Ok ∧ D'.n = D.n := by
  rcases h with ⟨_, _, _, rfl⟩ | ⟨_, _, hs⟩ | ⟨_, _, _, rfl⟩
  · exact ⟨hD, rfl⟩
  · exact hD.give (cls_lt z) hs
  · exact ⟨hD, rfl⟩

/-! ### The argument -/
structure OpB where
  take : Bool
  copied : Bool
  num : Int
def OpBRow (w : World) (a : Option Addr) (n : Nat) (l : List OpB) : Prop :=
  l.length = n ∧ ∀ i (o : OpB), l[i]? = some o → ∃ b off, a = some ⟨b, off, none⟩ ∧ b < w.heap.size ∧ w.cell? ⟨b, off + i * 3, none⟩ = some (.bool o.take) ∧ w.cell? ⟨b, off + i * 3 + 1, none⟩ = some (.bool o.copied) ∧ w.cell? ⟨b, off + i * 3 + 2, none⟩ = some (.int .i64 o.num)
section
variable {H : Type} {enc : TypeId × Value → H} {P : Program} {W : World} {base : Nat} {v : Value} {d : DataW H} {p : List MemPlace}
theorem plain_of_cell {W : World} {a : Addr} {v : Value} (h : W.cell? a = some v) : a.spot = none ∧ a.block < W.heap.size := by
  constructor
  · cases hs : a.spot with
    | none => rfl
    | some s =>
      unfold World.cell? at h
      split at h
      · rw [if_pos (by simp [hs])] at h; cases h
      · cases h
  · exact cell_lt h
theorem plain_eta {a : Addr} (h : a.spot = none) : a = ⟨a.block, a.off, none⟩ := by cases a; cases h; rfl
theorem add_plain {a : Addr} (h : a.spot = none) (i : Nat) : a.add i = ⟨a.block, a.off + i, none⟩ := by
  cases a; cases h; unfold Addr.add; split <;> simp_all
structure OpsIn where
  a : Option Addr
  n : Nat
  c : Nat
  l : List OpB
/-- What an argument of the type '[]Op' is. -/
def OpsIn.Ok (x : OpsIn) (v : Value) (W : World) : Prop :=
  v = .slice x.a x.n x.c ∧ OpBRow W x.a x.n x.l ∧ (∀ o ∈ x.l, (Lit.int .i64 o.num).wf = true) ∧ x.n ≤ x.c ∧ x.c ≤ 140737488351232

theorem open_opsB {t e ti : TypeId} {f0 f1 f2 : Field} (hu : P.underlying t = some (.slice e)) (he : P.underlying e = some (.struct #[f0, f1, f2])) (hone : oneCellFields P #[f0, f1, f2] = true) (hC : P.cellsOf e = 3) (hB : 1 ≤ P.bytesOf e)
    (h0 : P.underlying f0.type = some .bool) (h1 : P.underlying f1.type = some .bool) (h2 : P.underlying f2.type = some (.int .i64))
    (hv : Value.okWide P W .any base t v) (h : DataW.Trod enc P W 0 (fun _ => true) true t v d p) (hw : ∀ n ∈ d.weights P t, n ≤ reachBytes) : ∃ x : OpsIn, x.Ok v W := by
  obtain ⟨a0, len, cap, rfl⟩ := okWide_slice hu hv
  obtain ⟨fuel, hf⟩ := h
  rcases open_slice hu hf with ⟨hcs, _⟩ | ⟨a, l, c, m, n, D, Pl, hcs, _, hl, hm, hmm, hx, hi⟩
  · simp [Value.cells] at hcs
    obtain ⟨rfl, rfl, rfl⟩ := hcs
    exact ⟨⟨none, 0, 0, []⟩, rfl, ⟨rfl, fun i o ho => by simp at ho⟩, fun o ho => by simp at ho, Nat.le_refl _, by decide⟩
  · simp [Value.cells] at hcs
    obtain ⟨rfl, rfl, rfl⟩ := hcs
    simp only [if_true] at hmm
    subst hmm
    simp only [Prod.mk.injEq] at hx
    obtain ⟨rfl, _⟩ := hx
    have each : ∀ i, i < m → ∃ o : OpB, W.cell? (a.add (i * 3)) = some (.bool o.take) ∧ W.cell? (a.add (i * 3 + 1)) = some (.bool o.copied) ∧ W.cell? (a.add (i * 3 + 2)) = some (.int .i64 o.num) ∧ (Lit.int .i64 o.num).wf = true := by
      intro i him
      obtain ⟨cs', hc, ht'⟩ := hi i him
      rw [hC] at hc
      obtain ⟨ys, n', hn', hy, hlen, hyl, hfs⟩ := DataW.trod_struct he ht'
      obtain ⟨_, hcl, hat⟩ := World.cells?_some hc
      match cs', hcl with
      | [x0, x1, x2], _ =>
        match ys, hyl with
        | [y0, y1, y2], _ =>
          obtain ⟨o0, k0⟩ := hone_of hone 0 f0 rfl
          obtain ⟨o1, k1⟩ := hone_of hone 1 f1 rfl
          obtain ⟨o2, k2⟩ := hone_of hone 2 f2 rfl
          have t0 := hfs 0 f0 rfl
          have t1 := hfs 1 f1 rfl
          have t2 := hfs 2 f2 rfl
          simp [o0, k0] at t0
          simp [o1, k1] at t1
          simp [o2, k2] at t2
          obtain ⟨z0, e0, _⟩ := DataW.trod_bool h0 t0
          obtain ⟨z1, e1, _⟩ := DataW.trod_bool h1 t1
          obtain ⟨z2, e2, _, w2⟩ := DataW.trod_int h2 t2
          simp at e0 e1 e2
          subst e0 e1 e2
          have c0 := hat 0 (by omega)
          have c1 := hat 1 (by omega)
          have c2 := hat 2 (by omega)
          rw [Go.Deep.add_add] at c0 c1 c2
          exact ⟨⟨z0, z1, z2⟩, by simpa using c0, by simpa using c1, by simpa using c2, w2⟩
    let ops : List OpB := (List.range len).map fun i => if hi' : i < m then Classical.choose (each i hi') else ⟨false, false, 0⟩
    have hops : ∀ i o, ops[i]? = some o → i < len ∧ W.cell? (a.add (i * 3)) = some (.bool o.take) ∧ W.cell? (a.add (i * 3 + 1)) = some (.bool o.copied) ∧ W.cell? (a.add (i * 3 + 2)) = some (.int .i64 o.num) ∧ (Lit.int .i64 o.num).wf = true := by
      intro i o ho
      have hil : i < len := by
        rcases Nat.lt_or_ge i len with h' | h'
        · exact h'
        · rw [List.getElem?_eq_none (by simpa [ops] using h')] at ho; cases ho
      have him : i < m := by omega
      have : o = Classical.choose (each i him) := by
        have h' : ops[i]? = some (Classical.choose (each i him)) := by simp [ops, hil, him]
        rw [h'] at ho
        exact (Option.some.inj ho).symm
      subst this
      exact ⟨hil, Classical.choose_spec (each i him)⟩
    refine ⟨⟨some a, len, m, ops⟩, rfl, ⟨by simp [ops], fun i o ho => ?_⟩, fun o ho => ?_, hl, ?_⟩
    · obtain ⟨hil, c0, c1, c2, _⟩ := hops i o ho
      have hm0 : 0 < m := by omega
      obtain ⟨z0, cz, _⟩ := each 0 hm0
      obtain ⟨hsp, hbl⟩ := plain_of_cell (a := a) (by simpa [Addr.add] using cz)
      rw [add_plain hsp] at c0 c1 c2
      exact ⟨a.block, a.off, congrArg some (plain_eta hsp), hbl, c0, by rw [← Nat.add_assoc] at c1; exact c1, by rw [← Nat.add_assoc] at c2; exact c2⟩
    · obtain ⟨i, hi'⟩ := List.getElem?_of_mem ho
      exact (hops i o hi').2.2.2.2
    · have h1 := hw (len * P.bytesOf e + (m - len) * P.bytesOf e) (by
        simp [DataW.weights, hu]
        left
        rw [← Nat.add_mul])
      have h2 : len * 1 ≤ len * P.bytesOf e := Nat.mul_le_mul_left _ hB
      have h3 : (m - len) * 1 ≤ (m - len) * P.bytesOf e := Nat.mul_le_mul_left _ hB
      have h4 : reachBytes = 140737488351232 := rfl
      show m ≤ 140737488351232
      omega
end
end Go.Proofs.YthnagihgjenimaaDoor
