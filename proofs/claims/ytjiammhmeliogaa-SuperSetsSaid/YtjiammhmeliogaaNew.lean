/- New; Pending. -/
import Derived.Test.YtjiammhmeliogaaSync
import Derived.Laws.MakeOwn
namespace Go.Proofs.Ytjiammhmeliogaa
open Go.RowKit
set_option linter.unusedVariables false

/-- A block of noughts. -/
def zb : List Int := List.replicate 64 0
theorem zb_len : zb.length = 64 := by simp [zb]
theorem zero27 : ((Try.prog.info? 27).bind (·.zero)).map (·.cells) = some (bk zb).toArray := by kernel_rfl
theorem size27 : (Try.prog.info? 27).map (fun i => (i.size, i.bytes)) = some (64, 64) := by kernel_rfl
theorem info27 : ∃ it z, Try.prog.info? 27 = some it ∧ it.zero = some z ∧ z.cells = (bk zb).toArray ∧ it.size = 64 ∧ it.bytes = 64 := by
  have h := zero27
  have h2 := size27
  cases hi : Try.prog.info? 27 with
  | none => rw [hi] at h; cases h
  | some it =>
    rw [hi] at h h2
    cases hz : it.zero with
    | none => simp [hz] at h
    | some z =>
      simp [hz] at h
      simp at h2
      exact ⟨it, z, rfl, hz, h, h2.1, h2.2⟩

theorem flat_zero : ∀ n : Nat, flat (fun _ => zb) n = List.replicate (n * 64) (.int .u8 0)
  | 0 => by simp [flat]
  | n + 1 => by
    rw [flat, flat_zero n, Nat.add_mul, ← List.replicate_append_replicate]
    rfl
theorem made27 (n : Nat) : madeCells (bk zb).toArray (n * 64) = (flat (fun _ => zb) n).toArray := by
  rw [flat_zero]
  apply Array.ext
  · simp [madeCells]
  · intro j h1 h2
    have hs : (bk zb).toArray.size = 64 := by rw [List.size_toArray, bk_len, zb_len]
    have hz : ∀ r, r < 64 → (bk zb).toArray[r]! = Value.int .u8 0 := by
      intro r hr
      rw [getElem!_pos _ _ (by rw [hs]; exact hr)]
      simp only [bk, zb, List.map_replicate, List.getElem_toArray, List.getElem_replicate]
    simp only [madeCells, Array.getElem_map, Array.getElem_range]
    rw [hs, hz _ (Nat.mod_lt _ (by omega))]
    simp only [List.getElem_toArray, List.getElem_replicate]

theorem make35 (n : Nat) (hn : n ≤ 2048) (w : World) : (Instr.makeSlice 35 (.int .i64 (n : Int)) (.int .i64 (n : Int))).run Try.prog w = .ok (.slice (some ⟨w.heap.size, 0, none⟩) n n) (w.alloc (.cells (flat (fun _ => zb) n).toArray 27)) := by
  obtain ⟨it, z, h1, h2, h3, h4, h5⟩ := info27
  have h := run_make (P := Try.prog) w 35 27 it z Try.underlying35 h1 h2 .i64 .i64 (n : Int) (n : Int) (by omega) (Int.le_refl _) (by rw [h5]; omega) (by omega)
  rw [h3, h4] at h
  simp only [Int.toNat_natCast] at h
  rw [made27] at h
  exact h

def DD.fresh (n : Nat) : DD := ⟨n, fun _ => zb, [], false, false, 0, 0, 0⟩

/-- New. -/
def NewP (n : Nat) (w : World) (e : Ending) (w' : World) : Prop := ∃ L, e = .returned (.tuple #[L.ptr, .int .i64 0]) ∧ DkAt w' L (DD.fresh n) ∧ (∀ k, L.own k → w.heap.size ≤ k) ∧ Keeps (fun _ => False) w w'

set_option maxRecDepth 100000 in
theorem new_ok (n : Nat) (h1 : 1 ≤ n) (h2 : n ≤ 2048) (w : World) : Calls Try.prog 21 #[.int .i64 (n : Int)] w (NewP n w) := by
  have hmk := make35 n h2 w
  go_enter Try.func21, Try.ntmps21
  go_wp2
  go_ret2
  obtain ⟨F, hF⟩ : ∃ F, F = (w.alloc (.cells (flat (fun _ => zb) n).toArray 27)).alloc (.cells #[.slice (some ⟨w.heap.size, 0, none⟩) n n, .slice none 0 0, .bool false, .bool false, .int .i64 0, .int .i64 0, .int .i64 0] 95) := ⟨_, rfl⟩
  have hb1 : F.heap[w.heap.size]? = some (.cells (flat (fun _ => zb) n).toArray 27 (0, 0)) := by
    subst hF
    exact (Below.heap_alloc _ _ _ (by simp)).trans (heap_alloc_new w _)
  have hb2 : Blk F (w.heap.size + 1) 95 [.slice (some ⟨w.heap.size, 0, none⟩) n n, .slice none 0 0, .bool false, .bool false, .int .i64 0, .int .i64 0, .int .i64 0] := by
    subst hF
    have := Blk.new (w.alloc (.cells (flat (fun _ => zb) n).toArray 27)) 95 [.slice (some ⟨w.heap.size, 0, none⟩) n n, .slice none 0 0, .bool false, .bool false, .int .i64 0, .int .i64 0, .int .i64 0]
    rwa [World.size_alloc] at this
  have hk : Keeps (fun _ => False) w F := by subst hF; exact ((Keeps.refl _ w).alloc _).alloc _
  have hlen : (flat (fun _ => zb) n).length = n * 64 := flat_len fun _ _ => zb_len
  refine ⟨⟨w.heap.size + 1, .slice (some ⟨w.heap.size, 0, none⟩) n n, .slice none 0 0⟩, rfl, ?_, ?_, ?_⟩
  · rw [← hF]
    refine ⟨hb2, ⟨hlen, .inr ⟨w.heap.size, n, _, rfl, Nat.zero_le _, hb1, Nat.le_refl _, by unfold maxLen; show n ≤ _; omega, by simpa using hlen, by show List.take (n * 64) (flat (fun _ => zb) n).toArray.toList = flat (fun _ => zb) n; rw [← hlen]; simp⟩⟩, World.ownsRow_nil _ _ _ _, h1, h2, fun _ _ => zb_len, (by intro a ha; cases ha), (by intro a ha; cases ha), Nat.zero_le _, by show (0 : Int) ≤ 0; omega, by show (0 : Int) ≤ _; omega, by show _ ≤ (0 : Int); omega, by show (0 : Int) ≤ _; omega, by show (0 : Int) ≤ 0; omega, by show (0 : Int) ≤ _; omega⟩
  · intro k hk
    rcases hk with rfl | hk | hk
    · exact Nat.le_succ _
    · simp [Value.ownBlock] at hk; omega
    · simp [Value.ownBlock] at hk
  · rw [← hF]; exact hk

theorem new_bad (n : Int) (h : n < 1 ∨ 2048 < n) (w : World) : Calls Try.prog 21 #[.int .i64 n] w fun e w' => e = .returned (.tuple #[.pointer none, .int .i64 2]) ∧ w = w' := by
  rcases h with h | h
  · go_enter Try.func21, Try.ntmps21
    go_wp2
    go_ret2
    exact ⟨rfl, rfl⟩
  · have h' : decide (n < 1) = false := by simp; omega
    go_enter Try.func21, Try.ntmps21
    go_wp2
    go_ret2
    exact ⟨rfl, rfl⟩

attribute [local go_sem ↓] exec_new106 exec_load106
attribute [local go_sem] padr_some rowAt_drew hasRow_drew zc_size

def ats (p : List (Nat × List Int)) : List Value := p.map fun a => Value.int .i64 (a.1 : Int)
theorem info3 : (Try.prog.info? 3).map (fun i => (i.zero, i.size, i.bytes)) = some (some (.int .i64 0), 1, 8) := by kernel_rfl
def PendP (p : List (Nat × List Int)) (w : World) (e : Ending) (w' : World) : Prop := ∃ rv, e = .returned rv ∧ w'.ownsRow w.heap.size 3 1 rv p.length (ats p) ∧ Keeps (fun _ => False) w w'

theorem grown_below {w w' : World} {row : Option Nat} {B : Nat} (hg : w.grownBy w' row) (hr : ∀ g, row = some g → B ≤ g) (hB : B ≤ w.heap.size) : Below B w w' := (Keeps.of_grown hg).below hr hB
theorem Below.keeps {w w' : World} (h : Below w.heap.size w w') : Keeps (fun _ => False) w w' := (Keeps.of_below h).mono fun k hk h' => absurd h' (Nat.not_le.2 hk)

set_option maxRecDepth 100000 in
set_option maxHeartbeats 2000000 in
theorem pending_any (L : DL) (D : DD) (w : World) (h : DkAt w L D) : Calls Try.prog 33 #[L.ptr] w (PendP D.p w) := by
  have HD := Lib.hid h
  obtain ⟨pa, pc, hpv, hpc1, hpc2⟩ := own_slice h.pend
  obtain ⟨c0, c1, _⟩ := h.cells
  have pn := h.pn
  have hlB := h.obj.lt
  unfold maxLen at hpc2
  rw [hpv] at c1
  have HPV := Lib.hid hpv
  obtain ⟨i0, hi1, hz0, hz1, hz2⟩ := info_parts info3
  have HN : Hid (w.ownsRow w.heap.size 3 1 (.slice none 0 0) 0 (ats (D.p.take 0))) := Lib.hid (World.ownsRow_nil _ _ _ _)
  clear h hpv
  unfold DL.ptr
  go_enter Try.func33, Try.ntmps33
  go_wp2_with fail
  go_loopw [3, 13] (fun v i wr => ∃ t : Nat, t ≤ D.p.length ∧ i = .int .i64 t ∧ wr.ownsRow w.heap.size 3 1 v t (ats (D.p.take t)) ∧ Below w.heap.size w wr) (fun _ i _ => D.p.length - (intOf i).toNat)
  case atStart => exact ⟨0, Nat.zero_le _, rfl, HN.out, Below.refl _ _⟩
  case round =>
    obtain ⟨t, ht, rfl, hown, hbel⟩ := hrel
    have hwr := hbel.size
    by_cases hlt : t < D.p.length
    · obtain ⟨a, ha⟩ : ∃ a, D.p[t]? = some a := ⟨_, List.getElem?_eq_getElem hlt⟩
      have hal := HD.out.pl a (List.mem_of_getElem? ha)
      obtain ⟨g2, pc2, hpv2, _, _, hg2⟩ := own_some HD.out.pend (by omega)
      have hpe := hpv2
      rw [HPV.out] at hpe
      injection hpe with hpe1 _ hpe2
      subst hpe1
      subst hpe2
      have hrng0 : w.rangeAt g2 (t * 65) (wrc a) := by
        have := HD.out.pend
        rw [hpv2, pflat_split ha] at this
        have h2 := own_range this
        rwa [pflat_len (fun b hb => HD.out.pl b (List.mem_of_mem_take hb)), List.length_take, Nat.min_eq_left ht] at h2
      have hrng : wr.rangeAt g2 (t * 65) (wrc a) := fun j v hv => (hbel.cell (p := ⟨g2, t * 65 + j, none⟩) hg2).trans (hrng0 j v hv)
      have hr1 := hasRow_of hrng (n := 65) (wrc_len hal)
      have hr2 := rowAt_of hrng (n := 65) (wrc_len hal)
      obtain ⟨cv, hcv⟩ : ∃ cv, cv = wrc a := ⟨_, rfl⟩
      rw [← hcv] at hr2
      have hcl : cv.length = 65 := by rw [hcv]; exact wrc_len hal
      have hc1 : oneAll cv.toArray = true := by
        rw [hcv]
        unfold oneAll
        exact all_oneCell_toArray wrc_one
      have hb0 : Blk (wr.alloc (.cells cv.toArray 106)) wr.heap.size 106 cv := Blk.new wr 106 cv
      have hx0 := hb0.cell (i := 0) (v := .int .i64 (a.1 : Int)) (by rw [hcv]; rfl)
      have HTK : Hid (ats (D.p.take (t + 1)) = ats (D.p.take t) ++ [.int .i64 (a.1 : Int)]) := Lib.hid (by
        obtain ⟨hi, rfl⟩ := List.getElem?_eq_some_iff.1 ha
        unfold ats
        rw [List.take_succ_eq_append_getElem hi, List.map_append]
        rfl)
      have HOWN := Lib.hid hown
      have HBEL := Lib.hid hbel
      have hq : Hid (Below w.heap.size w (wr.alloc (.cells cv.toArray 106))) := Lib.hid (hbel.alloc hwr _)
      clear ha hown hbel hpv2 hrng hrng0 hb0 hcv hal
      go_wp2_with (at_builtin; refine wpList_append_own _ rfl _ _ 56 rfl w.heap.size 3 i0 (.int .i64 0) 1 8 Try.underlying56 hi1 hz0 hz1 hz2 rfl (by decide) _ _ _ rfl ((HOWN.out.alloc _).alloc _) ⟨wr.heap.size + 1, 0, none⟩ 1 1 [.int .i64 (a.1 : Int)] rfl rfl ?_ (by simp [Value.oneCell']) (by unfold maxLen; omega) (by omega) (by simp; omega) ?_; (have := cell_one_new (wr.alloc (.cells cv.toArray 106)) (.int .i64 (a.1 : Int)) 3; rw [World.size_alloc] at this; exact this))
      intro v' w3 hown' hgrow _
      have HO3 := Lib.hid hown'
      have HB3 : Hid (Below w.heap.size w w3) := Lib.hid ((hq.out.alloc (by simp; omega) _).trans (grown_below hgrow (fun g hgg => (own_heap HOWN.out hgg).1) (by simp; omega)))
      clear hown' hgrow
      go_wp2_with fail
      go_roundw
      case rel => exact ⟨t + 1, by omega, by go_num, by rw [HTK.out]; exact HO3.out, HB3.out⟩
      case measure => simp [intOf]; omega
    · obtain rfl : t = D.p.length := by omega
      rw [List.take_length] at hown
      have HOWN := Lib.hid hown
      have HK := Lib.hid (Below.keeps hbel)
      clear hown hbel
      go_wp2_with fail
      go_ret
      exact ⟨_, rfl, HOWN.out, HK.out⟩
end Go.Proofs.Ytjiammhmeliogaa
