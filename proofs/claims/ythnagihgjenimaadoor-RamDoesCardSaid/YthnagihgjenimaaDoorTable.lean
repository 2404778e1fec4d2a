/- The table of math/bits, as the row lays it. -/
import Derived.Test.YthnagihgjenimaaDoorRows
import Derived.Test.YthnagihgjenimaaDoorClassL
import Derived.ChangeSame
import Derived.ChangeVars
import Derived.JoinedOf
import Derived.RowKit
import Derived.ProofKit
namespace Go.Proofs.YthnagihgjenimaaDoor
open Go.ChangeShapes Go.WideShapes Go.RowKit
set_option linter.unusedVariables false

theorem Tryd.own : ownKnob Tryd.prog.godebug = none := by kernel_rfl
theorem tb_name : Tryd.prog.globalNamed "math/bits.deBruijn32tab" = some 0 := by kernel_rfl
theorem tb_type : (Tryd.prog.globals[0]?).map (·.type) = some 127 := by kernel_rfl
theorem tb_under : Tryd.prog.underlying 127 = some (.array 32 5) := by kernel_rfl
theorem tb_elem : Tryd.prog.underlying 5 = some (.int .u8) := by kernel_rfl
theorem tb_cells : Tryd.prog.cellsOf 127 = 32 := by kernel_rfl
theorem tb_cells5 : Tryd.prog.cellsOf 5 = 1 := by kernel_rfl
theorem mapM_at {α β : Type} {f : α → Option β} : ∀ {l : List α} {xs : List β}, l.mapM f = some xs → ∀ (i : Nat) (a : α), l[i]? = some a → ∃ b : β, xs[i]? = some b ∧ f a = some b
  | [], xs, h, i, a, ha => by simp at ha
  | x :: l, xs, h, i, a, ha => by
    rw [List.mapM_cons] at h
    simp only [Option.bind_eq_bind, Option.bind_eq_some_iff, Option.pure_def, Option.some.injEq] at h
    obtain ⟨y, hy, ys, hys, rfl⟩ := h
    cases i with
    | zero =>
      obtain rfl : x = a := by simpa using ha
      exact ⟨y, by simp, hy⟩
    | succ i => exact mapM_at hys i a (by simpa using ha)
theorem int_of_trod {H : Type} {enc : TypeId × Value → H} {P : Program} {w : World} {base : Nat} {sp : Nat → Bool} {held : Bool} {fuel : Nat} {t : TypeId} {k : IntKind} {c : Value} {y : DataW H × List MemPlace}
    (ht : P.underlying t = some (.int k)) (h : DataW.trod enc P w base sp held fuel t [c] = some y) : ∃ n, c = .int k n ∧ y = (.lit (.int k n), []) := by
  cases fuel with
  | zero => simp [DataW.trod] at h
  | succ fuel =>
    cases c <;> simp [DataW.trod, ht] at h
    rename_i k' n
    obtain ⟨⟨rfl, _⟩, rfl⟩ := h
    exact ⟨n, rfl, rfl⟩
def tbLits {H : Type} : List (DataW H) := Lib.deBruijn32tab.map fun n => .lit (.int .u8 ((n : Nat) : Int))
theorem laid_eq {H : Type} : (Rows.laid_math_bits_deBruijn32tab : DataW H) = .agg tbLits := rfl
theorem tab_of_laid {W : World} (h : laidMet Tryd.prog [("math/bits.deBruijn32tab", Rows.laid_math_bits_deBruijn32tab)] W) : Tab W := by
  obtain ⟨ps, ⟨g, t, cs, fuel, p, q, hg, ht, hvar, hd, _, _⟩, _⟩ := h
  obtain rfl := Option.some.inj (tb_name.symm.trans hg)
  obtain rfl := Option.some.inj (tb_type.symm.trans ht)
  intro j hj
  rw [World.var?_cell hg hvar j]
  rw [laid_eq] at hd
  cases fuel with
  | zero => simp [DataW.trod] at hd
  | succ fuel =>
    simp only [DataW.trod, tb_under, tb_cells, tb_cells5] at hd
    split at hd
    · rename_i hl
      simp only [Option.map_eq_some_iff] at hd
      obtain ⟨xs, hm, hx⟩ := hd
      obtain ⟨b, hb, hf⟩ := mapM_at hm j j (by simp [hj])
      have hc : ((cs.toList.drop (j * 1)).take 1) = [cs.toList[j]'(by omega)] := by
        rw [Nat.mul_one, List.drop_eq_getElem_cons (by omega)]
        rfl
      rw [hc] at hf
      obtain ⟨n, hn, rfl⟩ := int_of_trod tb_elem hf
      injection hx with hx _
      injection hx with hx
      have h3 : (xs.map (·.1))[j]? = some (.lit (.int .u8 n)) := by rw [List.getElem?_map, hb]; rfl
      rw [hx] at h3
      unfold tbLits at h3
      rw [List.getElem?_map] at h3
      have hlen : Lib.deBruijn32tab.length = 32 := by decide
      rw [List.getElem?_eq_getElem (by omega)] at h3
      simp at h3
      have e : Lib.deBruijn32tab.getD j 0 = Lib.deBruijn32tab[j]'(by omega) := by rw [List.getD_eq_getElem?_getD, List.getElem?_eq_getElem (by omega)]; rfl
      rw [e]
      rw [h3]
      rw [← Array.getElem?_toList, List.getElem?_eq_getElem (by omega), hn]
    · cases hd
end Go.Proofs.YthnagihgjenimaaDoor
