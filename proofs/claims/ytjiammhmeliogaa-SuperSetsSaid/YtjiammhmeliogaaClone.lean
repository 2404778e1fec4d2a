/- slices.Clone of blocks and of writes; a disk is copied. -/
import Derived.Test.YtjiammhmeliogaaNew
namespace Go.Proofs.Ytjiammhmeliogaa
open Go.RowKit
set_option linter.unusedVariables false
set_option linter.unusedSimpArgs false

/-- A row is cloned. -/
def CloneP (e size n : Nat) (xs : List Value) (w : World) (ed : Ending) (w' : World) : Prop := ∃ rv, ed = .returned rv ∧ w'.ownsRow w.heap.size e size rv n xs ∧ Keeps (fun _ => False) w w'

theorem range0 : Array.range 0 = #[] := by
  apply Array.eq_empty_of_size_eq_zero
  simp
theorem empty35 (w : World) : (Instr.buildSlice 35 0 #[]).run Try.prog w = .ok (.slice (some ⟨w.heap.size, 0, none⟩) 0 0) (w.alloc (.cells #[] 27)) := by
  obtain ⟨it, z, h1, h2, h3, h4, _⟩ := info27
  simp [Instr.buildSlice, run_underlying Try.underlying35, sizeOf, typeInfo, zeroValue, h1, h2, h4, newRow, Instr.fill]
  rw [range0, Array.map_empty]
theorem empty93 (w : World) : (Instr.buildSlice 93 0 #[]).run Try.prog w = .ok (.slice (some ⟨w.heap.size, 0, none⟩) 0 0) (w.alloc (.cells #[] 106)) := by
  obtain ⟨it, z, h1, h2, h3, h4, _⟩ := info106
  simp [Instr.buildSlice, run_underlying Try.underlying93, sizeOf, typeInfo, zeroValue, h1, h2, h4, newRow, Instr.fill]
  rw [range0, Array.map_empty]

theorem own_empty (w : World) (e size : Nat) : (w.alloc (.cells #[] e)).ownsRow w.heap.size e size (.slice (some ⟨w.heap.size, 0, none⟩) 0 0) 0 [] :=
  World.ownsRow_made w #[] 0 (Nat.le_refl _) (by unfold maxLen; omega) (by simp)
theorem own_news {w : World} {base e size n cap g : Nat} {xs : List Value} (h : w.ownsRow base e size (.slice (some ⟨g, 0, none⟩) n cap) n xs) (o : Obj) : ∀ j u, xs[j]? = some u → (w.alloc o).cell? ((⟨g, 0, none⟩ : Addr).add j) = some u :=
  fun j u hu => (h.alloc o).cells (g := g) rfl j u hu
theorem own_grow {w w1 w' : World} {row : Option Nat} (hk : Keeps (fun _ => False) w w1) (hg : w1.grownBy w' row) (hr : ∀ g, row = some g → w.heap.size ≤ g) : Keeps (fun _ => False) w w' :=
  Keeps.mono (S := fun k => row = some k) ((hk.mono fun _ _ h => h.elim).trans (Keeps.of_grown hg)) fun k hk' h => absurd (hr k h) (Nat.not_le.2 hk')

set_option maxRecDepth 100000 in
set_option maxHeartbeats 1000000 in
theorem clone27 (v : Value) (n : Nat) (xs : List Value) (base : Nat) (w : World) (h : w.ownsRow base 27 64 v n xs) (hn : n ≤ 2048) (h1 : ∀ u ∈ xs, u.oneCell' = true) : Calls Try.prog 67 #[v] w (CloneP 27 64 n xs w) := by
  obtain ⟨i0, z0, hi1, hz0, hzc, hz1, hz2⟩ := info27
  have hzs : z0.cells.size = 64 := by rw [hzc]; simp [bk_len, zb_len]
  have hlen := h.1
  have h2 := h.2
  rcases h2 with ⟨rfl, rfl⟩ | ⟨g, cap, cur, rfl, hb, hg, hcap, hmx, hc3, hc4⟩
  · have hx : xs = [] := List.eq_nil_of_length_eq_zero (by simpa using hlen)
    have HX := Lib.hid hx
    clear h h1 hx hzc hlen
    have hnil := Lib.run_eql_slice_nil (P := Try.prog) w 35 27 none 0 0 0 0 Try.underlying35
    go_enter Try.func67, Try.ntmps67
    go_wp2
    go_ret
    rw [HX.out]
    exact ⟨_, rfl, World.ownsRow_nil _ _ _ _, Keeps.refl _ _⟩
  · have HO := Lib.hid (own_empty w 27 64)
    have HNW := Lib.hid (own_news h (.cells #[] 27))
    have H1 := Lib.hid h1
    have HL := Lib.hid hlen
    have hem := empty35 w
    have hnil := Lib.run_eql_slice_nil (P := Try.prog) w 35 27 (some ⟨g, 0, none⟩) n cap 0 0 Try.underlying35
    have hkw : Keeps (fun _ => False) w (w.alloc (.cells #[] 27)) := (Keeps.refl _ _).alloc _
    have HKW := Lib.hid hkw
    have hgw := (Array.getElem?_eq_some_iff.1 hg).1
    clear h h1 hlen hzc hc3 hc4 hg hkw
    unfold maxLen at hmx
    go_enter Try.func67, Try.ntmps67
    go_wp2_with (at_builtin; refine wpList_append_own _ rfl _ _ 35 rfl w.heap.size 27 i0 z0 64 64 Try.underlying35 hi1 hz0 hz1 hz2 hzs (by decide) _ _ _ rfl HO.out ⟨g, 0, none⟩ n cap xs rfl HL.out HNW.out H1.out (by unfold maxLen; omega) (by omega) (by simp) ?_; intro v' w1 hown hgrow _; have HOW := Lib.hid hown; have HGR := Lib.hid hgrow; clear hown hgrow)
    go_ret
    have ho := HOW.out
    simp only [Nat.zero_add, List.nil_append] at ho
    exact ⟨_, rfl, ho, own_grow HKW.out HGR.out fun g hg => by injection hg with hg; rw [← hg]; exact Nat.le_refl _⟩

set_option maxRecDepth 100000 in
set_option maxHeartbeats 1000000 in
theorem clone106 (v : Value) (n : Nat) (xs : List Value) (base : Nat) (w : World) (h : w.ownsRow base 106 65 v n xs) (hn : n ≤ 1000000) (h1 : ∀ u ∈ xs, u.oneCell' = true) : Calls Try.prog 68 #[v] w (CloneP 106 65 n xs w) := by
  obtain ⟨i0, z0, hi1, hz0, hzc, hz1, hz2⟩ := info106
  have hzs : z0.cells.size = 65 := by rw [hzc]; simp [z106]
  have hlen := h.1
  have h2 := h.2
  rcases h2 with ⟨rfl, rfl⟩ | ⟨g, cap, cur, rfl, hb, hg, hcap, hmx, hc3, hc4⟩
  · have hx : xs = [] := List.eq_nil_of_length_eq_zero (by simpa using hlen)
    have HX := Lib.hid hx
    clear h h1 hx hzc hlen
    have hnil := Lib.run_eql_slice_nil (P := Try.prog) w 93 106 none 0 0 0 0 Try.underlying93
    go_enter Try.func68, Try.ntmps68
    go_wp2
    go_ret
    rw [HX.out]
    exact ⟨_, rfl, World.ownsRow_nil _ _ _ _, Keeps.refl _ _⟩
  · have HO := Lib.hid (own_empty w 106 65)
    have HNW := Lib.hid (own_news h (.cells #[] 106))
    have H1 := Lib.hid h1
    have HL := Lib.hid hlen
    have hem := empty93 w
    have hnil := Lib.run_eql_slice_nil (P := Try.prog) w 93 106 (some ⟨g, 0, none⟩) n cap 0 0 Try.underlying93
    have hkw : Keeps (fun _ => False) w (w.alloc (.cells #[] 106)) := (Keeps.refl _ _).alloc _
    have HKW := Lib.hid hkw
    have hgw := (Array.getElem?_eq_some_iff.1 hg).1
    clear h h1 hlen hzc hc3 hc4 hg hkw
    unfold maxLen at hmx
    go_enter Try.func68, Try.ntmps68
    go_wp2_with (at_builtin; refine wpList_append_own _ rfl _ _ 93 rfl w.heap.size 106 i0 z0 65 72 Try.underlying93 hi1 hz0 hz1 hz2 hzs (by decide) _ _ _ rfl HO.out ⟨g, 0, none⟩ n cap xs rfl HL.out HNW.out H1.out (by unfold maxLen; omega) (by omega) (by simp) ?_; intro v' w1 hown hgrow _; have HOW := Lib.hid hown; have HGR := Lib.hid hgrow; clear hown hgrow)
    go_ret
    have ho := HOW.out
    simp only [Nat.zero_add, List.nil_append] at ho
    exact ⟨_, rfl, ho, own_grow HKW.out HGR.out fun g hg => by injection hg with hg; rw [← hg]; exact Nat.le_refl _⟩
end Go.Proofs.Ytjiammhmeliogaa
