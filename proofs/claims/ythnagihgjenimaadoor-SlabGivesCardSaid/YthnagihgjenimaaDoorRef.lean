/- icehouseref11: which chunks are given, page by page, as it lies in memory; the class of a page. -/
import Derived.Test.YthnagihgjenimaaDoorCopyA
namespace Go.Proofs.YthnagihgjenimaaDoor
open Go.RowKit
set_option linter.unusedVariables false
set_option linter.unusedSimpArgs false

/-- Where the document's arena lies: its row of rows, its rows. -/
structure RG where
  O : Nat
  cap : Nat
  R : Nat → Nat
def rowv (g : Nat) : Value := .slice (some ⟨g, 0, none⟩) 32 32
def RG.val (X : RG) (n : Nat) : Value := .agg #[.slice (some ⟨X.O, 0, none⟩) n X.cap]
def RG.rows (X : RG) (n : Nat) : List Value := (List.range n).map fun i => rowv (X.R i)
def gcs (f : Nat → Nat) : List Value := (List.range 32).map fun k => .int .i64 (f k : Nat)
theorem gcs_len (f : Nat → Nat) : (gcs f).length = 32 := by simp [gcs]
theorem gcs_at (f : Nat → Nat) {k : Nat} (h : k < 32) : (gcs f)[k]? = some (.int .i64 (f k : Nat)) := by simp [gcs, h]
theorem rows_at (X : RG) {n i : Nat} (h : i < n) : (X.rows n)[i]? = some (rowv (X.R i)) := by simp [RG.rows, h]
structure RgAt (w : World) (X : RG) (n : Nat) (f : Nat → Nat → Nat) : Prop where
  n1 : 1 ≤ n
  n2 : n ≤ 40
  out : w.ownsRow 0 28 1 (.slice (some ⟨X.O, 0, none⟩) n X.cap) n (X.rows n)
  row : ∀ i, i < n → Blk w (X.R i) 3 (gcs (f i))
  inj : ∀ i j, i < n → j < n → X.R i = X.R j → i = j
section
variable {w w' : World} {X : RG} {n : Nat} {f f' : Nat → Nat → Nat}
theorem RgAt.cells (h : RgAt w X n f) : ∀ i, i < n → w.cell? ⟨X.O, i, none⟩ = some (rowv (X.R i)) ∧ ∀ k, k < 32 → w.cell? ⟨X.R i, k, none⟩ = some (.int .i64 (f i k : Nat)) :=
  fun i hi => ⟨own_cell h.out (rows_at X hi), fun k hk => (h.row i hi).cell (gcs_at (f i) hk)⟩
theorem RgAt.ltO (h : RgAt w X n f) : X.O < w.heap.size := (own_heap h.out rfl).2.1
theorem RgAt.ltR (h : RgAt w X n f) {i : Nat} (hi : i < n) : X.R i < w.heap.size := (h.row i hi).lt
theorem RgAt.keep {S : Nat → Prop} (h : RgAt w X n f) (hk : Keeps S w w') (hS : ∀ g cur t, (t = 3 ∨ t = 28) → w.heap[g]? = some (.cells cur t (0, 0)) → ¬ S g) : RgAt w' X n f := by
  refine ⟨h.n1, h.n2, hk.own h.out fun g hg => ?_, fun i hi => ?_, h.inj⟩
  · obtain ⟨_, _, cur, hc⟩ := own_heap h.out hg
    exact hS g cur 28 (.inr rfl) hc
  · exact hk.blk (h.row i hi) (hS _ _ 3 (.inl rfl) (h.row i hi))
theorem RgAt.quiet (h : RgAt w X n f) (hk : Keeps (fun _ => False) w w') : RgAt w' X n f := h.keep hk fun _ _ _ _ _ => id
theorem RgAt.congr (h : RgAt w X n f) (he : ∀ i, i < n → ∀ k, k < 32 → f i k = f' i k) : RgAt w X n f' := by
  refine ⟨h.n1, h.n2, h.out, fun i hi => ?_, h.inj⟩
  have : gcs (f i) = gcs (f' i) := by
    unfold gcs
    apply List.map_congr_left
    intro k hk
    rw [he i hi k (List.mem_range.1 hk)]
  rw [← this]
  exact h.row i hi
theorem RgAt.cap (h : RgAt w X n f) : n ≤ X.cap ∧ X.cap ≤ maxLen := own_cap h.out
end

/-- A chunk's cell: 0, or its class and one more. -/
def gv (D : AD) (i k : Nat) : Nat := if bitN (D.g i) k = 1 then D.c i + 1 else 0
theorem gv_pos {D : AD} {i k : Nat} (h : bitN (D.g i) k = 1) : gv D i k = D.c i + 1 := if_pos h
theorem gv_zero {D : AD} {i k : Nat} (h : ¬ bitN (D.g i) k = 1) : gv D i k = 0 := if_neg h
theorem gv_le {D : AD} (h : D.Ok) {i : Nat} (hi : i < D.n) (k : Nat) : gv D i k ≤ 8 := by
  have := h.cl i hi
  unfold gv
  split <;> omega
/-- A page's class; -1: it is free. -/
def AD.of (D : AD) (i : Nat) : Int := if D.g i = 0 then -1 else (D.c i : Nat)
def IntP (x : Int) (w : World) (e : Ending) (w' : World) : Prop := e = .returned (.int .i64 x) ∧ Keeps (fun _ => False) w w'

set_option maxRecDepth 100000 in
set_option maxHeartbeats 1000000 in
theorem of_any (X : RG) (D : AD) (hD : D.Ok) (w : World) (h : RgAt w X D.n (gv D)) (i : Nat) (hi : i < D.n) : Calls Tryd.prog 60 #[X.val D.n, .int .i64 i] w (IntP (D.of i) w) := by
  obtain ⟨c0, hc⟩ := h.cells i hi
  obtain ⟨hcap, hmx⟩ := h.cap
  have n2 := h.n2
  have hO := h.ltO
  have hR := h.ltR hi
  have HC := Lib.hid hc
  have HB : Hid (∀ t, t < 32 → gv D i t ≤ 8) := Lib.hid fun t _ => gv_le hD hi t
  have HD := Lib.hid (hD.g32 hi)
  have b0 := Blk.new w 40 [.slice (some ⟨X.O, 0, none⟩) D.n X.cap]
  have hk0 : Keeps (fun _ => False) w (w.alloc (.cells [Value.slice (some ⟨X.O, 0, none⟩) D.n X.cap].toArray 40)) := (Keeps.refl _ _).alloc _
  have c0' := (hk0.cell (p := ⟨X.O, i, none⟩) hO id).trans c0
  obtain ⟨w1, hw1⟩ : ∃ w1, w1 = w.alloc (.cells [Value.slice (some ⟨X.O, 0, none⟩) D.n X.cap].toArray 40) := ⟨_, rfl⟩
  rw [← hw1] at b0 hk0 c0'
  have hsz := hk0.size
  have hcb := b0.cell (i := 0) rfl
  have hbl := b0.lt
  have HK0 := Lib.hid hk0
  have HDO := Lib.hid hD
  clear h hc hk0 b0 hD c0
  unfold maxLen at hmx
  unfold RG.val rowv at *
  go_enter Tryd.func60, Tryd.ntmps60
  go_wp2
  rw [← hw1]
  clear hw1
  go_loopw [5] (fun k wr => ∃ t : Nat, t ≤ 32 ∧ k = .int .i64 t ∧ (∀ j, j < t → bitN (D.g i) j ≠ 1) ∧ Keeps (fun _ => False) w1 wr) (fun k _ => 32 - (intOf k).toNat)
  case atStart => exact ⟨0, Nat.zero_le _, rfl, fun j hj => absurd hj (by omega), Keeps.refl _ _⟩
  case round =>
    obtain ⟨t, ht, rfl, hb, hk⟩ := hrel
    have HK := Lib.hid hk
    have HBI := Lib.hid hb
    have z0 := (hk.cell (p := ⟨w.heap.size, 0, none⟩) hbl id).trans hcb
    have z1 := (hk.cell (p := ⟨X.O, i, none⟩) (by show X.O < _; omega) id).trans c0'
    by_cases hlt : t < 32
    · have z2 := ((HK0.out.trans hk).cell (p := ⟨X.R i, t, none⟩) hR id).trans (HC.out t hlt)
      have h8 := HB.out t hlt
      by_cases hbt : bitN (D.g i) t = 1
      · have HG : Hid (D.of i = (D.c i : Nat)) := Lib.hid (by unfold AD.of; rw [if_neg (bit_nz hbt)])
        rw [gv_pos hbt] at z2 h8
        have hgt : decide ((0 : Int) < ((D.c i + 1 : Nat) : Int)) = true := by rw [decide_eq_true_iff]; omega
        clear hk hb hbt
        go_wp2_with fail
        go_ret
        exact ⟨by rw [HG.out]; go_num, HK0.out.trans HK.out⟩
      · have HBT := Lib.hid hbt
        rw [gv_zero hbt] at z2
        clear hk hb hbt
        go_wp2_with fail
        go_roundw
        case rel => exact ⟨t + 1, by omega, by go_num, fun j hj => by
          by_cases e : j = t
          · subst e; exact HBT.out
          · exact HBI.out j (by omega), HK.out⟩
        case measure => simp [intOf]; omega
    · obtain rfl : t = 32 := by omega
      have HG : Hid (D.of i = -1) := Lib.hid (by
        unfold AD.of
        rw [if_pos (bits_zero HD.out fun j hj => by have := hb j hj; have := bitN_le (D.g i) j; omega)])
      clear hk hb
      go_wp2_with fail
      go_ret
      exact ⟨by rw [HG.out]; rfl, HK0.out.trans HK.out⟩
end Go.Proofs.YthnagihgjenimaaDoor
