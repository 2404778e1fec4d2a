/- Arguments of Super's laws opened. -/
import Derived.Test.YtjiammhmeliogaaOpenK
import Derived.Test.YtjiammhmeliogaaRrd
namespace Go.Proofs.Ytjiammhmeliogaa
open Go.ChangeShapes Go.WideShapes Go.ChangeAt Go.RowKit Go.Deep
set_option linter.unusedVariables false

theorem wf_i64 {x : Int} (h : (Lit.int .i64 x).wf = true) : -9223372036854775808 ≤ x ∧ x ≤ 9223372036854775807 := by
  simpa [Lit.wf, IntKind.min, IntKind.max, IntKind.signed, IntKind.bits] using h
theorem wf_u64 {x : Int} (h : (Lit.int .u64 x).wf = true) : u64 x := by
  unfold u64
  simpa [Lit.wf, IntKind.min, IntKind.max, IntKind.signed, IntKind.bits] using h
theorem wf_u8 {x : Int} (h : (Lit.int .u8 x).wf = true) : Byte x := by
  unfold Byte
  simpa [Lit.wf, IntKind.min, IntKind.max, IntKind.signed, IntKind.bits] using h
/-- What is known, as an argument. -/
def SX.Is (x : SX) (v : Value) : Prop := v = x.val ∧ x.Wf
set_option maxRecDepth 100000 in
theorem sup_struct : ∃ f0 f1 f2 f3 f4 f5 : Field, Try.prog.underlying 71 = some (.struct #[f0, f1, f2, f3, f4, f5]) ∧ oneCellFields Try.prog #[f0, f1, f2, f3, f4, f5] = true ∧ f0.type = 3 ∧ f1.type = 3 ∧ f2.type = 69 ∧ f3.type = 69 ∧ f4.type = 69 ∧ f5.type = 69 :=
  ⟨_, _, _, _, _, _, Try.underlying71, by kernel_rfl, rfl, rfl, rfl, rfl, rfl, rfl⟩
section
variable {H : Type} {enc : TypeId × Value → H} {W : World} {base : Nat} {v : Value} {d : DataW H} {p : List MemPlace}
set_option maxRecDepth 100000 in
theorem cells_super {fuel : Nat} {x : DataW H × List MemPlace} {l : List Value} (hl : l.length = 6) (hf : DataW.trod enc Try.prog W 0 (fun _ => true) true fuel 71 l = some x) : ∃ s : SX, l = s.cells ∧ s.Wf := by
  obtain ⟨f0, f1, f2, f3, f4, f5, he, hone, e0, e1, e2, e3, e4, e5⟩ := sup_struct
  obtain ⟨ys, n', hn', hy, hlen, hyl, hfs⟩ := DataW.trod_struct he hf
  match l, hl with
  | [x0, x1, x2, x3, x4, x5], _ =>
    match ys, hyl with
    | [y0, y1, y2, y3, y4, y5], _ =>
      obtain ⟨o0, k0⟩ := hone_of hone 0 f0 rfl
      obtain ⟨o1, k1⟩ := hone_of hone 1 f1 rfl
      obtain ⟨o2, k2⟩ := hone_of hone 2 f2 rfl
      obtain ⟨o3, k3⟩ := hone_of hone 3 f3 rfl
      obtain ⟨o4, k4⟩ := hone_of hone 4 f4 rfl
      obtain ⟨o5, k5⟩ := hone_of hone 5 f5 rfl
      have t0 := hfs 0 f0 rfl
      have t1 := hfs 1 f1 rfl
      have t2 := hfs 2 f2 rfl
      have t3 := hfs 3 f3 rfl
      have t4 := hfs 4 f4 rfl
      have t5 := hfs 5 f5 rfl
      simp [o0, k0] at t0
      simp [o1, k1] at t1
      simp [o2, k2] at t2
      simp [o3, k3] at t3
      simp [o4, k4] at t4
      simp [o5, k5] at t5
      obtain ⟨z0, g0, _, w0⟩ := DataW.trod_int (by rw [e0]; exact Try.underlying3) t0
      obtain ⟨z1, g1, _, w1⟩ := DataW.trod_int (by rw [e1]; exact Try.underlying3) t1
      obtain ⟨z2, g2, _, w2⟩ := DataW.trod_int (by rw [e2]; exact Try.underlying69) t2
      obtain ⟨z3, g3, _, w3⟩ := DataW.trod_int (by rw [e3]; exact Try.underlying69) t3
      obtain ⟨z4, g4, _, w4⟩ := DataW.trod_int (by rw [e4]; exact Try.underlying69) t4
      obtain ⟨z5, g5, _, w5⟩ := DataW.trod_int (by rw [e5]; exact Try.underlying69) t5
      simp at g0 g1 g2 g3 g4 g5
      subst g0 g1 g2 g3 g4 g5
      exact ⟨⟨z0, z1, z2, z3, z4, z5⟩, rfl, wf_u64 w2, wf_u64 w3, wf_u64 w4, wf_u64 w5⟩
set_option maxRecDepth 100000 in
theorem open_super71 (hv : Value.okWide Try.prog W .any base 71 v) (h : DataW.Trod enc Try.prog W 0 (fun _ => true) true 71 v d p) (hw : ∀ n ∈ d.weights Try.prog 71, n ≤ reachBytes) : ∃ x : SX, x.Is v := by
  obtain ⟨f0, f1, f2, f3, f4, f5, he, hone, e0, e1, e2, e3, e4, e5⟩ := sup_struct
  obtain ⟨cs, rfl, hcs⟩ := okWide_struct he hv
  have hcs6 : cs.size = 6 := hcs.trans (by kernel_rfl)
  obtain ⟨fuel, hf⟩ := h
  simp only [Value.cells] at hf
  obtain ⟨l, rfl⟩ : ∃ l : List Value, cs = l.toArray := ⟨cs.toList, by simp⟩
  obtain ⟨s, rfl, hs⟩ := cells_super (by simpa using hcs6) hf
  exact ⟨s, rfl, hs⟩
/-- A sector, as an argument. -/
def BlkIs (b : List Int) (v : Value) : Prop := v = .agg (bk b).toArray ∧ b.length = 64 ∧ ∀ z ∈ b, Byte z
set_option maxRecDepth 100000 in
theorem open_block27 (hv : Value.okWide Try.prog W .any base 27 v) (h : DataW.Trod enc Try.prog W 0 (fun _ => true) true 27 v d p) (hw : ∀ n ∈ d.weights Try.prog 27, n ≤ reachBytes) : ∃ b : List Int, BlkIs b v := by
  simp only [Value.okWide, Try.underlying27] at hv
  obtain ⟨cs, rfl, hcs, _⟩ := hv
  have hcs64 : cs.size = 64 := hcs.trans (by kernel_rfl)
  obtain ⟨fuel, hf⟩ := h
  simp only [Value.cells] at hf
  obtain ⟨ys, m, hm, hy, hlen, hyl, hfs⟩ := DataW.trod_array Try.underlying27 hf
  have hc5 : Try.prog.cellsOf 5 = 1 := by kernel_rfl
  obtain ⟨l, rfl⟩ : ∃ l : List Value, cs = l.toArray := ⟨cs.toList, by simp⟩
  have hl : l.length = 64 := by simpa using hcs64
  have each : ∀ i, i < 64 → ∃ z : Int, l[i]? = some (.int .u8 z) ∧ Byte z := by
    intro i hi
    have h1 := hfs i hi
    rw [hc5, Nat.mul_one, List.drop_eq_getElem_cons (by rw [hl]; exact hi), List.take_succ_cons, List.take_zero, List.getElem?_eq_getElem (by rw [hyl]; exact hi)] at h1
    obtain ⟨z, g, _, hw⟩ := DataW.trod_int Try.underlying5 h1
    simp at g
    exact ⟨z, by rw [List.getElem?_eq_getElem (by rw [hl]; exact hi), g], wf_u8 hw⟩
  let b : List Int := (List.range 64).map fun i => if hi : i < 64 then Classical.choose (each i hi) else 0
  have hb : ∀ i (hi : i < 64), b[i]? = some (Classical.choose (each i hi)) := fun i hi => by simp [b, hi]
  refine ⟨b, ?_, by simp [b], fun z hz => ?_⟩
  · congr 1
    congr 1
    apply List.ext_getElem?
    intro i
    by_cases hi : i < 64
    · rw [(Classical.choose_spec (each i hi)).1]
      unfold bk
      rw [List.getElem?_map, hb i hi]
      rfl
    · rw [List.getElem?_eq_none (by omega), List.getElem?_eq_none (by simp [bk, b]; omega)]
  · obtain ⟨i, hi⟩ := List.getElem?_of_mem hz
    have hlt : i < 64 := by
      rcases Nat.lt_or_ge i 64 with h | h
      · exact h
      · rw [List.getElem?_eq_none (by simp [b]; omega)] at hi; cases hi
    rw [hb i hlt] at hi
    cases hi
    exact (Classical.choose_spec (each i hlt)).2
end
end Go.Proofs.Ytjiammhmeliogaa
