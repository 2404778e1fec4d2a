/- slab: Copy. -/
import Derived.Test.YthnagihgjenimaaDoorApartP
namespace Go.Proofs.YthnagihgjenimaaDoor
open Go.RowKit
set_option linter.unusedVariables false
set_option linter.unusedSimpArgs false

theorem range0 : Array.range 0 = #[] := by
  apply Array.eq_empty_of_size_eq_zero
  simp
theorem empty96 (w : World) : (Instr.buildSlice 96 0 #[]).run Tryd.prog w = .ok (.slice (some ⟨w.heap.size, 0, none⟩) 0 0) (w.alloc (.cells #[] 101)) := by
  obtain ⟨it, z, h1, h2, h3, h4, _⟩ := info101'
  simp [Instr.buildSlice, run_underlying Tryd.underlying96, sizeOf, typeInfo, zeroValue, h1, h2, h4, newRow, Instr.fill]
  rw [range0, Array.map_empty]
theorem own_empty (w : World) (e size : Nat) : (w.alloc (.cells #[] e)).ownsRow w.heap.size e size (.slice (some ⟨w.heap.size, 0, none⟩) 0 0) 0 [] :=
  World.ownsRow_made w #[] 0 (Nat.le_refl _) (by unfold maxLen; omega) (by simp)
theorem own_news {w : World} {base e size n cap g : Nat} {xs : List Value} (h : w.ownsRow base e size (.slice (some ⟨g, 0, none⟩) n cap) n xs) (o : Obj) : ∀ j u, xs[j]? = some u → (w.alloc o).cell? ((⟨g, 0, none⟩ : Addr).add j) = some u :=
  fun j u hu => (h.alloc o).cells (g := g) rfl j u hu
theorem own_grow {w w1 w' : World} {row : Option Nat} (hk : Keeps (fun _ => False) w w1) (hg : w1.grownBy w' row) (hr : ∀ g, row = some g → w.heap.size ≤ g) : Keeps (fun _ => False) w w' :=
  Keeps.mono (S := fun k => row = some k) ((hk.mono fun _ _ h => h.elim).trans (Keeps.of_grown hg)) fun k hk' h => absurd (hr k h) (Nat.not_le.2 hk')
theorem pgs_one (D : AD) : ∀ u ∈ pgs D, u.oneCell' = true := by
  intro u hu
  obtain ⟨j, _, rfl⟩ := List.mem_map.1 hu
  unfold pgc
  split <;> rfl

def CloneP (n : Nat) (xs : List Value) (w : World) (ed : Ending) (w' : World) : Prop := ∃ rv, ed = .returned rv ∧ w'.ownsRow w.heap.size 101 2 rv n xs ∧ Keeps (fun _ => False) w w'
set_option maxRecDepth 100000 in
set_option maxHeartbeats 1000000 in
theorem clone101 (L : AL) (D : AD) (w : World) (h : ArAt w L D) : Calls Tryd.prog 58 #[.slice (some ⟨L.G, 0, none⟩) D.n L.cap] w (CloneP D.n (pgs D) w) := by
  obtain ⟨i0, z0, hi1, hz0, hzc, hz1, hz2⟩ := info101'
  have hzs : z0.cells.size = 2 := by rw [hzc]; rfl
  have HO := Lib.hid (own_empty w 101 2)
  have HNW := Lib.hid (own_news h.row (.cells #[] 101))
  have H1 := Lib.hid (pgs_one D)
  have HL := Lib.hid (pgs_len D)
  have hem := empty96 w
  have hnil := Lib.run_eql_slice_nil (P := Tryd.prog) w 96 101 (some ⟨L.G, 0, none⟩) D.n L.cap 0 0 Tryd.underlying96
  have hkw : Keeps (fun _ => False) w (w.alloc (.cells #[] 101)) := (Keeps.refl _ _).alloc _
  have HKW := Lib.hid hkw
  have hgw := h.lt L.G (.inr rfl)
  obtain ⟨hcap, hmx⟩ := own_cap h.row
  have n2 := h.n2
  clear h hzc hkw
  unfold maxLen at hmx
  go_enter Tryd.func58, Tryd.ntmps58
  go_wp2_with (at_builtin; refine wpList_append_own _ rfl _ _ 96 rfl w.heap.size 101 i0 z0 2 16 Tryd.underlying96 hi1 hz0 hz1 hz2 hzs (by decide) _ _ _ rfl HO.out ⟨L.G, 0, none⟩ D.n L.cap (pgs D) rfl HL.out HNW.out H1.out (by unfold maxLen; omega) (by omega) (by simp) ?_; intro v' w1 hown hgrow _; have HOW := Lib.hid hown; have HGR := Lib.hid hgrow; clear hown hgrow)
  go_ret
  have ho := HOW.out
  simp only [Nat.zero_add, List.nil_append] at ho
  exact ⟨_, rfl, ho, own_grow HKW.out HGR.out fun g hg => by injection hg with hg; rw [← hg]; exact Nat.le_refl _⟩
def CopyP (D : AD) (w : World) (e : Ending) (w' : World) : Prop := ∃ L : AL, e = .returned L.ptr ∧ ArAt w' L D ∧ (∀ k, L.own k → w.heap.size ≤ k) ∧ Keeps (fun _ => False) w w'
theorem copy_any (L : AL) (D : AD) (w : World) (h : ArAt w L D) : Calls Tryd.prog 26 #[L.ptr] w (CopyP D w) := by
  have HC := Lib.hid (clone101 L D w h)
  obtain ⟨c0, hc⟩ := h.cells
  have HH := Lib.hid h
  have n1 := h.n1
  clear h hc
  unfold AL.ptr
  go_enter Tryd.func26, Tryd.ntmps26
  go_wp2_with fail
  refine HC.out.mono ?_
  rintro e w1 ⟨rv, rfl, ho, hk⟩
  obtain ⟨h1, h2⟩ := ho
  rcases h2 with ⟨rfl, h2⟩ | ⟨g, cap, cur, rfl, h2⟩
  · omega
  have ho : w1.ownsRow w.heap.size 101 2 (.slice (some ⟨g, 0, none⟩) D.n cap) D.n (pgs D) := ⟨h1, .inr ⟨g, cap, cur, rfl, h2⟩⟩
  have HO := Lib.hid ho
  have HK := Lib.hid hk
  clear h1 h2 ho hk
  go_wp2_with fail
  go_ret
  have b2 := Blk.new w1 98 [.slice (some ⟨g, 0, none⟩) D.n cap]
  refine ⟨⟨w1.heap.size, g, cap⟩, rfl, ⟨b2, own_base (HO.out.alloc _) (Nat.zero_le _), HH.out.n1, HH.out.n2, HH.out.cl, HH.out.gl⟩, fun k hk => ?_, HK.out.alloc _⟩
  rcases hk with rfl | rfl
  · exact HK.out.size
  · exact (own_heap HO.out rfl).1
end Go.Proofs.YthnagihgjenimaaDoor
