/- LruNone: nil lists hold nothing. -/
import Derived.Test.YthnagihgjenimaaSeq
import Derived.Test.YthnagihgjenimaaWakes
namespace Go.Proofs.Ythnagihgjenimaa
open Go.RowKit Go.Shelf
set_option linter.unusedVariables false
set_option linter.unusedSimpArgs false

attribute [local go_sem] Oper.semAt_some

set_option maxRecDepth 100000 in
set_option maxHeartbeats 2000000 in
theorem none_law (a b c : Int) (w : World) :
    Calls Try.prog 7 #[.agg #[.int .i64 a, .int .i64 b, .int .i64 c]] w fun e w' => e = .returned (.bool true) ∧ Below w.heap.size w w' := by
  refine (callsIn_wide (n := 3)).1 ?_
  have h1 : 1 ≤ 3 := by omega
  refine callsIn_of_wp_marks Try.func7 rfl trivial ?_ rfl
  simp only [Try.ntmps7, List.size_toArray, List.length_cons, List.length_nil, Nat.reduceAdd, Nat.reduceSub, Array.replicate_succ, Array.replicate_zero, List.push_toArray, List.append_toArray, List.nil_append, List.cons_append]
  obtain ⟨W0, hW0⟩ : ∃ W0, W0 = (w.alloc (.cells #[.int .i64 a, .int .i64 b, .int .i64 c] 35)).alloc (.cells #[.bool false] 4) := ⟨_, rfl⟩
  have hs0 : W0.heap.size = w.heap.size + 2 := by subst hW0; simp
  have hB0 : Hid (Below w.heap.size w W0) := Lib.hid (by subst hW0; exact ((Below.refl _ w).alloc (Nat.le_refl _) _).alloc (by simp) _)
  have bo : Blk W0 w.heap.size 35 [.int .i64 a, .int .i64 b, .int .i64 c] := by subst hW0; exact (Blk.new w 35 _).alloc _
  have br : Blk W0 (w.heap.size + 1) 4 [.bool false] := by
    subst hW0
    have := Blk.new (w.alloc (.cells #[.int .i64 a, .int .i64 b, .int .i64 c] 35)) 4 [.bool false]
    rwa [World.size_alloc] at this
  have BO := Lib.hid bo
  have BR := Lib.hid br
  clear bo br
  gi_wp2_with (refine ⟨trivial, ?_⟩; gi_at_call 8; rw [← hW0]; refine (callsIn_wide.2 (wakes_yes W0)).mono ?_; rintro e w1 ⟨rfl, hb1⟩; have bo1 := BO.out.kept (hb1.block _ (by omega)); have HB1 := Lib.hid hb1; have hs1 := hb1.size; have o1 := bo1.cell (i := 1) rfl; have BO1 := Lib.hid bo1; have BR1 := Lib.hid (BR.out.kept (hb1.block _ (by omega))); clear bo1 hb1)
  clear hW0
  gi_wp2_with (refine ⟨trivial, ?_⟩; gi_at_call 26; refine (callsIn_wide.2 (all_nil b w1)).mono ?_; rintro e w2 ⟨rfl, hk2, hx2⟩)
  refine wpIn_rangeFunc_ownG rfl h1 (gf := 42) (lb := #[.pointer (some ⟨w1.heap.size, 0, none⟩)]) rfl trivial (enters_of Try.func42 (by kernel_rfl) rfl)
    (seq_stops Fence.wide (3 - 1) trivial rfl (by omega) w1.heap.size w1.heap.size [] (by simp) w2 w2 hx2 (Below.refl _ _)) belowK_t (belowK_b (Nat.le_refl _)) (Below.refl _ _) (fun _ => rfl)
    (fun _ W => Below w2.heap.size w2 W) (fun _ _ _ => False) (ownFrom_below (Nat.le_refl _) (Nat.le_refl _)) (fun _ _ _ _ _ hs _ _ => hs) (Below.refl _ _) ?a1 ?assign ?body ?done ?stop
  case assign =>
    intro l x W K hK
    gi_wp2
    exact hK
  case body =>
    rintro l pre x W _ hl
    exact absurd hl (by simp)
  case stop =>
    rintro D c' pre W _ _ h _
    exact h.elim
  case done =>
    rintro D ys W hD rfl hB hK
    have hbl := hk2.size
    have hsz := hB.size
    have hDl : D < W.heap.size := (Array.getElem?_eq_some_iff.1 hK).1
    have b3 : Blk W w.heap.size 35 [.int .i64 a, .int .i64 b, .int .i64 c] := (hk2.blk BO1.out id).kept (hB.block _ (by omega))
    have r3 : Blk W (w.heap.size + 1) 4 [.bool false] := (hk2.blk BR1.out id).kept (hB.block _ (by omega))
    have H3 : Hid (Below w.heap.size w W) := Lib.hid (hB0.out.trans (((HB1.out.mono (by omega)).trans (hk2.below (B := w.heap.size) (fun _ h => h.elim) (by omega))).trans (hB.mono (by omega))))
    have q1 := b3.cell (i := 1) rfl
    have B3 := Lib.hid b3
    have R3 := Lib.hid r3
    clear b3 r3 hB hk2 hx2
    gi_wp2_with (refine ⟨trivial, ?_⟩; gi_at_call 17; refine (callsIn_wide.2 (oldest_nil b _)).mono ?_; unfold two; rintro e w4 ⟨rfl, hk4⟩; have hs4 := hk4.size; have b4 := hk4.blk B3.out id; have q4 := b4.cell (i := 1) rfl; have B4 := Lib.hid b4; have R4 := Lib.hid (hk4.blk R3.out id); have H4 := Lib.hid hk4; clear hk4 b4)
    gi_wp2_with (refine ⟨trivial, ?_⟩; gi_at_call 19; refine (callsIn_wide.2 (newest_nil b _)).mono ?_; unfold two; rintro e w5 ⟨rfl, hk5⟩; have hs5 := hk5.size; have b5 := hk5.blk B4.out id; have q5 := b5.cell (i := 1) rfl; have t5 := b5.cell (i := 2) rfl; have r5 := hk5.blk R4.out id; have z5 := r5.cell (i := 0) rfl; have y5 := r5.free 0; have K5 : Hid (w5.heap[D]? = some (.deferred (some []))) := Lib.hid ((hk5.block D (by omega) id).trans ((H4.out.block D (by omega) id).trans hK)); have H5 := Lib.hid hk5; clear hk5 b5 r5)
    gi_wp2_with (first
      | (refine ⟨trivial, ?_⟩; gi_at_call 18; refine (callsIn_wide.2 (where_nil c _)).mono ?_; unfold two; rintro e w' ⟨rfl, rfl⟩)
      | (refine ⟨trivial, ?_⟩; gi_at_call 12; refine (callsIn_wide.2 (len_nil b _)).mono ?_; rintro e w' ⟨rfl, rfl⟩)
      | (refine ⟨trivial, ?_⟩; gi_at_call 11; refine (callsIn_wide.2 (push_nil b c _)).mono ?_; rintro e w' ⟨rfl, rfl⟩)
      | (refine ⟨trivial, ?_⟩; gi_at_call 13; refine (callsIn_wide.2 (touch_nil c _)).mono ?_; rintro e w' ⟨rfl, rfl⟩)
      | (refine ⟨trivial, ?_⟩; gi_at_call 14; refine (callsIn_wide.2 (remove_nil c _)).mono ?_; rintro e w' ⟨rfl, rfl⟩))
    have hK' := (KeepsOthers.setCell w5 ⟨w.heap.size + 1, 0, none⟩ (.bool true)).same D _ K5.out rfl
    have hc5 := cell_kept (World.cell?_setCell_same' w5 ⟨w.heap.size + 1, 0, none⟩ (.bool true) (by rw [z5]; rfl)) (grownBy_putObj' _ D (.deferred none)) (fun r e => by cases e; exact ⟨_, hK', rfl⟩)
    refine ⟨by simp, .inl ⟨_, _, rfl, run_takeDeferred hK', ?_⟩⟩
    refine ⟨.bool true, ?_, rfl, ((((H3.out.trans (H4.out.below (B := w.heap.size) (fun _ h => h.elim) (by omega))).trans (H5.out.below (B := w.heap.size) (fun _ h => h.elim) (by omega)))).setCell (p := ⟨w.heap.size + 1, 0, none⟩) (by simp) _).trans (belowK_b (w := w) (Nat.le_refl _) _ D _ _ (by omega) hK' rfl rfl)⟩
    simp [results, Try.f7, go_sem, hc5]
end Go.Proofs.Ythnagihgjenimaa
