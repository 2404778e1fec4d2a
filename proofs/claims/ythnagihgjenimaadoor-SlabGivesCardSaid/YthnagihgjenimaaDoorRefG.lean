/- icehouseref11: Where, Take. -/
import Derived.Test.YthnagihgjenimaaDoorRefW
namespace Go.Proofs.YthnagihgjenimaaDoor
open Go.RowKit
set_option linter.unusedVariables false
set_option linter.unusedSimpArgs false

def RWhereP (D : AD) (x : Int) (w : World) (e : Ending) (w' : World) : Prop :=
  e = .returned (.tuple #[.int .i64 (if D.find x = 0 then ((D.c (x.toNat / 32) : Nat) : Int) else 0), .int .i64 (D.find x)]) ∧ Keeps (fun _ => False) w w'
set_option maxRecDepth 100000 in
set_option maxHeartbeats 1000000 in
theorem rwhere_any (X : RG) (D : AD) (hD : D.Ok) (w : World) (h : RgAt w X D.n (gv D)) (x : Int) (hx : x < 9223372036854775808) : Calls Tryd.prog 27 #[X.val D.n, .int .i64 x] w (RWhereP D x w) := by
  obtain ⟨hcap, hmx⟩ := h.cap
  have n2 := h.n2
  have hO := h.ltO
  have b0 := Blk.new w 40 [.slice (some ⟨X.O, 0, none⟩) D.n X.cap]
  have hk0 : Keeps (fun _ => False) w (w.alloc (.cells [Value.slice (some ⟨X.O, 0, none⟩) D.n X.cap].toArray 40)) := (Keeps.refl _ _).alloc _
  have h' := h.quiet hk0
  have hcb := b0.cell (i := 0) rfl
  have HK0 := Lib.hid hk0
  clear hk0 b0 h
  unfold maxLen at hmx
  unfold RG.val RWhereP
  by_cases h1 : x < 0
  · have hf : D.find x = 2 := by unfold AD.find; rw [if_pos (Or.inl h1)]
    rw [hf]
    have h3 : decide (x < 0) = true := by simpa using h1
    clear hx h'
    go_enter Tryd.func27, Tryd.ntmps27
    go_wp2
    go_ret2
    exact ⟨rfl, HK0.out⟩
  · obtain ⟨m, rfl⟩ := Int.eq_ofNat_of_zero_le (show 0 ≤ x by omega)
    have h3 : decide ((m : Int) < 0) = false := by simp
    by_cases h2 : (D.n : Int) ≤ (m : Int) / 32
    · have hf : D.find m = 2 := by unfold AD.find; rw [if_pos (Or.inr h2)]
      rw [hf]
      have h4 : decide (32 * (D.n : Int) ≤ (m : Int)) = true := by simp; omega
      clear hx h'
      go_enter Tryd.func27, Tryd.ntmps27
      go_wp2
      go_ret2
      exact ⟨rfl, HK0.out⟩
    · have hi : m / 32 < D.n := by omega
      have hk : m % 32 < 32 := by omega
      obtain ⟨y0, y1⟩ := h'.cells _ hi
      have y2 := y1 _ hk
      have hg8 := gv_le hD hi (m % 32)
      have h4 : decide (32 * (D.n : Int) ≤ (m : Int)) = false := by simp; omega
      have h5 : (m : Int) / 32 < (D.n : Int) := by omega
      have hf : D.find m = if bitN (D.g (m / 32)) (m % 32) = 0 then 4 else 0 := by
        unfold AD.find
        rw [if_neg (by omega)]
        rfl
      have hbl := bitN_le (D.g (m / 32)) (m % 32)
      simp only [Int.toNat_natCast]
      clear y1 hx h'
      unfold rowv at *
      by_cases hb : bitN (D.g (m / 32)) (m % 32) = 1
      · rw [if_neg (by omega)] at hf
        rw [hf]
        rw [gv_pos hb] at y2 hg8
        have hnz : (((D.c (m / 32) + 1 : Nat) : Int) == 0) = false := by rw [beq_eq_false_iff_ne]; omega
        clear hb hbl h2 h1 hf
        go_enter Tryd.func27, Tryd.ntmps27
        go_wp2
        go_ret2
        exact ⟨by simp, HK0.out⟩
      · rw [if_pos (by omega)] at hf
        rw [hf]
        rw [gv_zero hb] at y2 hg8
        clear hb hbl h2 h1 hf
        go_enter Tryd.func27, Tryd.ntmps27
        go_wp2
        go_ret2
        exact ⟨rfl, HK0.out⟩
end Go.Proofs.YthnagihgjenimaaDoor
