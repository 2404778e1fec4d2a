/- A slice of integers, opened; LruTurns with its arguments opened. -/
import Derived.Test.YthnagihgjenimaaTurns
import Derived.Test.YthnagihgjenimaaOpen
import Derived.ShutString
import Derived.ChangeOld
namespace Go.Proofs.Ythnagihgjenimaa
open Go.ChangeShapes Go.WideShapes Go.ChangeAt Go.RowKit
open Go.ChangeMaps (open_string shut_string)
set_option linter.unusedVariables false

section
variable {H : Type} {enc : TypeId × Value → H} {P : Program} {W : World} {base : Nat} {v : Value} {d : DataW H} {p : List MemPlace}
theorem open_row {k : IntKind} {t e : TypeId} (hu : P.underlying t = some (.slice e)) (he : P.underlying e = some (.int k)) (hC : P.cellsOf e = 1) (hB : 1 ≤ P.bytesOf e)
    (hv : Value.okWide P W .any base t v) (h : DataW.Trod enc P W 0 (fun _ => true) true t v d p) (hw : ∀ n ∈ d.weights P t, n ≤ reachBytes) :
    ∃ (a : Option Addr) (len cap : Nat) (xs : List Int), v = .slice a len cap ∧ Row k W a len xs ∧ (∀ x ∈ xs, (Lit.int k x).wf = true) ∧ len ≤ 140737488351232 ∧ len ≤ cap := by
  obtain ⟨a0, len, cap, rfl⟩ := okWide_slice hu hv
  obtain ⟨fuel, hf⟩ := h
  rcases open_ints hu he hC hf with ⟨hcs, _⟩ | ⟨x, l, c, zs, hcs, _, hl, hm, hz, hx, hcell, hwz⟩
  · simp [Value.cells] at hcs
    obtain ⟨rfl, rfl, rfl⟩ := hcs
    exact ⟨none, 0, 0, [], rfl, ⟨rfl, fun i hi => absurd hi (by omega)⟩, (by simp), by omega, by omega⟩
  · simp [Value.cells] at hcs
    obtain ⟨rfl, rfl, rfl⟩ := hcs
    have hzl : zs.length = cap := by simpa using hz
    simp only [Prod.mk.injEq] at hx
    obtain ⟨rfl, _⟩ := hx
    refine ⟨some x, len, cap, zs.take len, rfl, ⟨by simp; omega, fun i hi => ⟨x, rfl, ?_⟩⟩, fun y hy => hwz y (List.mem_of_mem_take hy), ?_, hl⟩
    · rw [hcell i (by omega)]
      congr 2
      rw [List.getD_eq_getElem?_getD, List.getD_eq_getElem?_getD, List.getElem?_take, if_pos hi]
    · have h1 := hw (len * P.bytesOf e + (zs.length - len) * P.bytesOf e) (by
        simp [DataW.weights, hu, lits]
        left
        rw [← Nat.add_mul]
        congr 1
        omega)
      have h2 : len * 1 ≤ len * P.bytesOf e := Nat.mul_le_mul_left _ hB
      have h3 : reachBytes = 140737488351232 := rfl
      omega

end

theorem turns_walk (a : Int) (A : Option Addr) (len cap : Nat) (zs : List Int) (W : World) (ha : (Lit.int .i64 a).wf = true) (hR : Row .u8 W A len zs) (hwf : ∀ x ∈ zs, (Lit.int .u8 x).wf = true) (hc : len ≤ 140737488351232) (hnc : len ≤ cap) :
    Calls Try.prog 5 #[.int .i64 a, .slice A len cap] W fun e w' => e = .returned (.bool true) ∧ Below W.heap.size W w' :=
  turns_law a A len cap zs W ha hR hwf hnc hc
end Go.Proofs.Ythnagihgjenimaa
