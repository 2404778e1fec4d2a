/- RamNone: a memory that is not there, walked. -/
import Derived.Test.YthnagihgjenimaaDoorRamD
import Derived.Test.YthnagihgjenimaaDoorRamX
import Derived.Test.YthnagihgjenimaaDoorRamS
import Derived.Test.YthnagihgjenimaaDoorOpIt
namespace Go.Proofs.YthnagihgjenimaaDoor
open Go.RowKit Go.Shelf
set_option linter.unusedVariables false
set_option linter.unusedSimpArgs false
attribute [local go_sem] Oper.semAt_some
theorem nil_slb (w : World) (c : Nat) : SlB w (.slice none 0 c) [] := ⟨none, c, rfl, rfl, fun i hi => absurd hi (by simp)⟩
theorem zero_same (w : World) : Calls Tryd.prog 44 #[.agg #[.slice none 0 0, .slice none 0 0, .int .u32 0, .int .u32 0, .int .u64 0, .bool false], .agg #[.slice none 0 0, .slice none 0 0, .int .u32 0, .int .u32 0, .int .u64 0, .bool false]] w fun e w' => e = .returned (.bool true) ∧ Keeps (fun _ => False) w w' :=
  same_any ⟨[], [], 0, 0, 0, false⟩ ⟨[], [], 0, 0, 0, false⟩ (.slice none 0 0) (.slice none 0 0) (.slice none 0 0) (.slice none 0 0) w ⟨nil_slb w 0, nil_slb w 0⟩ ⟨nil_slb w 0, nil_slb w 0⟩ (by simp) (by simp) (by simp) (by simp)
set_option maxRecDepth 100000 in
set_option maxHeartbeats 4000000 in
theorem rnone_law (i : IT) (kv vv : Value) (w : World) (hb : ItB w i kv vv) (hT : Tab w) (hpos : 0 < w.heap.size) :
    Calls Tryd.prog 11 #[i.agg kv vv] w fun e w' => e = .returned (.bool true) ∧ Below w.heap.size w w' := by
  obtain ⟨⟨ka, kc, rfl, _⟩, ⟨va, vc, rfl, _⟩⟩ := hb
  obtain ⟨key, val, fg, ex, sq, dt⟩ := i
  unfold IT.agg
  dsimp only
  obtain ⟨n, hn⟩ : ∃ n, n = key.length := ⟨_, rfl⟩
  obtain ⟨m, hm⟩ : ∃ m, m = val.length := ⟨_, rfl⟩
  rw [← hn, ← hm]
  clear hn hm
  refine (callsIn_wide (n := 3)).1 ?_
  have h1 : 1 ≤ 3 := by omega
  refine callsIn_of_wp_marks Tryd.func11 rfl trivial ?_ rfl
  simp only [Tryd.ntmps11, List.size_toArray, List.length_cons, List.length_nil, Nat.reduceAdd, Nat.reduceSub, Array.replicate_succ, Array.replicate_zero, List.push_toArray, List.append_toArray, List.nil_append, List.cons_append]
  obtain ⟨W0, hW0⟩ : ∃ W0, W0 = (w.alloc (.cells #[.slice ka n kc, .slice va m vc, .int .u32 fg, .int .u32 ex, .int .u64 sq, .bool dt] 64)).alloc (.cells #[.bool false] 4) := ⟨_, rfl⟩
  have hs0 : W0.heap.size = w.heap.size + 2 := by subst hW0; simp
  have hB0 : Hid (Keeps (fun _ => False) w W0) := Lib.hid (by subst hW0; exact ((Keeps.refl _ w).alloc _).alloc _)
  have bo : Blk W0 w.heap.size 64 [.slice ka n kc, .slice va m vc, .int .u32 fg, .int .u32 ex, .int .u64 sq, .bool dt] := by subst hW0; exact (Blk.new w 64 _).alloc _
  have br : Blk W0 (w.heap.size + 1) 4 [.bool false] := by
    subst hW0
    have := Blk.new (w.alloc (.cells #[.slice ka n kc, .slice va m vc, .int .u32 fg, .int .u32 ex, .int .u64 sq, .bool dt] 64)) 4 [.bool false]
    rwa [World.size_alloc] at this
  have BO := Lib.hid bo
  have BR := Lib.hid br
  have HWK := Lib.hid (rwakes W0 (hT.keep hB0.out (fun h => h)) (by omega))
  clear bo br hT
  have HG := Lib.hid (fun v W => get_nil_r v W)
  have HP := Lib.hid (fun v W => peek_nil v W)
  unfold PeekN zItemV at HG HP
  gi_wp2_with (refine ⟨trivial, ?_⟩; gi_at_call 31; rw [← hW0]; refine (callsIn_wide.2 HWK.out).mono ?_; rintro e w1 ⟨rfl, hk1⟩; have HK1 := Lib.hid hk1; have b1 := hk1.blk BO.out id; have x0 := b1.cell (i := 0) rfl; have x1 := b1.cell (i := 1) rfl; have x2 := b1.cell (i := 2) rfl; have x3 := b1.cell (i := 3) rfl; have x4 := b1.cell (i := 4) rfl; have x5 := b1.cell (i := 5) rfl; clear hk1 b1)
  gi_wp2_with (refine ⟨trivial, ?_⟩; gi_at_call 33; refine (callsIn_wide.2 (put_nil_r _ _ _ _ _ _ w1)).mono ?_; rintro e w2 ⟨rfl, hk2⟩; have HK2 := Lib.hid (HK1.out.trans hk2); clear x0 x1 x2 x3 x4 x5 hk2; have b2 := HK2.out.blk BO.out id; have x0 := b2.cell (i := 0) rfl; clear b2)
  gi_wp2_with (refine ⟨trivial, ?_⟩; gi_at_call 34; refine (callsIn_wide.2 (HG.out _ w2)).mono ?_; rintro e w3 ⟨rfl, hk3⟩; have HK3 := Lib.hid (HK2.out.trans hk3); clear x0 hk3; have b3 := (HK3.out.alloc (.cells #[.slice none 0 0, .slice none 0 0, .int .u32 0, .int .u32 0, .int .u64 0, .bool false] 64)).blk BO.out id; have x0 := b3.cell (i := 0) rfl; clear b3)
  obtain ⟨W3, hW3⟩ : ∃ W3, W3 = w3.alloc (.cells #[.slice none 0 0, .slice none 0 0, .int .u32 0, .int .u32 0, .int .u64 0, .bool false] 64) := ⟨_, rfl⟩
  have HZ3 : Hid (Blk W3 w3.heap.size 64 [.slice none 0 0, .slice none 0 0, .int .u32 0, .int .u32 0, .int .u64 0, .bool false]) := Lib.hid (by rw [hW3]; exact Blk.new w3 64 _)
  have HK3' : Hid (Keeps (fun _ => False) W0 W3) := Lib.hid (by rw [hW3]; exact HK3.out.alloc _)
  rw [← hW3] at x0
  gi_wp2_with (refine ⟨trivial, ?_⟩; gi_at_call 46; rw [← hW3]; refine (callsIn_wide.2 (HP.out _ _)).mono ?_; rintro e w4 ⟨rfl, hk4⟩; have HK4 := Lib.hid hk4; clear hk4 x0)
  obtain ⟨W4, hW4⟩ : ∃ W4, W4 = w4.alloc (.cells #[.slice none 0 0, .slice none 0 0, .int .u32 0, .int .u32 0, .int .u64 0, .bool false] 64) := ⟨_, rfl⟩
  have HZ4 : Hid (Blk W4 w4.heap.size 64 [.slice none 0 0, .slice none 0 0, .int .u32 0, .int .u32 0, .int .u64 0, .bool false]) := Lib.hid (by rw [hW4]; exact Blk.new w4 64 _)
  have hs4 : W4.heap.size = w4.heap.size + 1 := by rw [hW4]; simp
  have HK4' : Hid (Keeps (fun _ => False) W3 W4) := Lib.hid (by rw [hW4]; exact HK4.out.alloc _)
  gi_wp2_with (refine ⟨trivial, ?_⟩; gi_at_call 53; rw [← hW4]; refine (callsIn_wide.2 (rall_nil W4)).mono ?_; rintro e w6 ⟨rfl, hk6, hx6⟩)
  refine wpIn_rangeFunc_ownG rfl h1 (gf := 75) (lb := #[.pointer (some ⟨w4.heap.size + 1 + 1, 0, none⟩)]) rfl trivial (enters_of Tryd.func75 (by kernel_rfl) rfl)
    (rseq_stops Fence.wide (3 - 1) trivial rfl (w4.heap.size + 1 + 1) w6 w6 (hs4 ▸ hx6) (Below.refl _ _)) belowK_t (belowK_b (Nat.le_refl _)) (Below.refl _ _) (fun _ => rfl)
    (fun _ W => Below w6.heap.size w6 W) (fun _ _ _ => False) (ownFrom_below (Nat.le_refl _) (Nat.le_refl _)) (fun _ _ _ _ _ hs _ _ => hs) (Below.refl _ _) ?a1 ?assign ?body ?done ?stop
  case assign =>
    intro l x W K hK
    gi_wp2
    exact hK
  case body =>
    rintro l pre x W _ hl
    exact absurd hl (by simp)
  case stop =>
    rintro D c' pre W _ _ h _
    exact h.elim
  case done =>
    rintro D ys W hD rfl hB hK
    have hkW : Keeps (fun _ => False) w6 W := (Keeps.of_below hB).mono fun k hk h => absurd h (Nat.not_le.2 hk)
    have HKW : Hid (Keeps (fun _ => False) W0 W) := Lib.hid (((HK3'.out.trans HK4'.out).trans hk6).trans hkW)
    have q1 := HKW.out.blk BO.out id
    have z3 := ((HK4'.out.trans hk6).trans hkW).blk HZ3.out id
    have z4 := (hk6.trans hkW).blk HZ4.out id
    have HQ1 := Lib.hid q1
    have HQ3 := Lib.hid z3
    have HQ4 := Lib.hid z4
    have HKK := Lib.hid hK
    have HDD := Lib.hid hD
    have hs6 : w.heap.size + 1 < w6.heap.size := by
      have h1 := HK3'.out.size
      have h2 := HK4'.out.size
      have h3 := hk6.size
      omega
    have a0 := z3.cell (i := 0) rfl
    have a1 := z3.cell (i := 1) rfl
    have a2 := z3.cell (i := 2) rfl
    have a3 := z3.cell (i := 3) rfl
    have a4 := z3.cell (i := 4) rfl
    have a5 := z3.cell (i := 5) rfl
    have HBS := Lib.hid hkW.size
    clear q1 z3 z4 hB hkW hk6 hx6 hK hD
    gi_wp2_with (refine ⟨trivial, ?_⟩; gi_at_call 44; refine (callsIn_wide.2 (zero_same W)).mono ?_; rintro e w7 ⟨rfl, hk7⟩; have HK7 := Lib.hid hk7; have z7 := hk7.blk HQ4.out id; clear a0 a1 a2 a3 a4 a5 hk7; have a0 := z7.cell (i := 0) rfl; have a1 := z7.cell (i := 1) rfl; have a2 := z7.cell (i := 2) rfl; have a3 := z7.cell (i := 3) rfl; have a4 := z7.cell (i := 4) rfl; have a5 := z7.cell (i := 5) rfl; clear z7)
    gi_wp2_with (refine ⟨trivial, ?_⟩; gi_at_call 44; refine (callsIn_wide.2 (zero_same w7)).mono ?_; rintro e w8 ⟨rfl, hk8⟩; have HK8 := Lib.hid (HK7.out.trans hk8); clear a0 a1 a2 a3 a4 a5 hk8; have z8 := HK8.out.blk HQ1.out id; have x0 := z8.cell (i := 0) rfl; clear z8)
    gi_wp2_with (refine ⟨trivial, ?_⟩; gi_at_call 47; refine (callsIn_wide.2 (remove_nil_r _ w8)).mono ?_; rintro e w' ⟨rfl, hw⟩; rw [hw]; clear hw w')
    gi_wp2_with (refine ⟨trivial, ?_⟩; gi_at_call 49; refine (callsIn_wide.2 (clean_nil_r _ w8)).mono ?_; rintro e w9 ⟨rfl, hk9⟩; have HK9 := Lib.hid (HK8.out.trans hk9); clear x0 hk9; have r9 := (HKW.out.trans HK9.out).blk BR.out id; have z9 := r9.cell (i := 0) rfl; have y9 := r9.free 0; have hs9 : w6.heap.size ≤ w9.heap.size := Nat.le_trans HBS.out HK9.out.size; have HR9 := Lib.hid r9; clear r9)
    gi_wp2_with (refine ⟨trivial, ?_⟩; gi_at_call 51; refine (callsIn_wide.2 (clear_nil_r w9)).mono ?_; rintro e w' ⟨rfl, hw⟩; rw [hw]; clear hw w')
    gi_wp2_with (refine ⟨trivial, ?_⟩; gi_at_call 37; refine (callsIn_wide.2 (len_nil' w9)).mono ?_; rintro e w' ⟨rfl, hw⟩; rw [hw]; clear hw w')
    gi_wp2_with (refine ⟨trivial, ?_⟩; gi_at_call 36; refine (callsIn_wide.2 (charge_nil w9)).mono ?_; rintro e w' ⟨rfl, hw⟩; rw [hw]; clear hw w')
    have hK9 : w9.heap[D]? = some (.deferred (some [])) := (HK9.out.block D (Array.getElem?_eq_some_iff.1 HKK.out).1 id).trans HKK.out
    have hDne : D ≠ w.heap.size + 1 := by
      have := HDD.out
      omega
    have hK' := (KeepsOthers.setCell w9 ⟨w.heap.size + 1, 0, none⟩ (.bool true)).same D _ hK9 rfl
    have hc5 := cell_kept (World.cell?_setCell_same' w9 ⟨w.heap.size + 1, 0, none⟩ (.bool true) (by rw [z9]; rfl)) (grownBy_putObj' _ D (.deferred none)) (fun r e => by cases e; exact ⟨_, hK', rfl⟩)
    refine ⟨by simp, .inl ⟨_, _, rfl, run_takeDeferred hK', ?_⟩⟩
    have hbl : Below w.heap.size w w9 := (hB0.out.trans (HKW.out.trans HK9.out)).below (B := w.heap.size) (fun _ h => h.elim) (Nat.le_refl _)
    refine ⟨.bool true, ?_, rfl, (hbl.setCell (p := ⟨w.heap.size + 1, 0, none⟩) (by simp) _).trans (belowK_b (w := w) (Nat.le_refl _) _ D _ _ (by have := HDD.out; omega) hK' rfl rfl)⟩
    simp [results, Tryd.f11, go_sem, hc5]
theorem ramNone.walk (i : IT) (kv vv : Value) (W : World) (h : i.In W kv vv) (hT : Tab W) : Calls Tryd.prog 11 #[i.agg kv vv] W fun e w' => e = .returned (.bool true) ∧ Below W.heap.size W w' :=
  rnone_law i kv vv W h.b hT hT.lt
end Go.Proofs.YthnagihgjenimaaDoor
