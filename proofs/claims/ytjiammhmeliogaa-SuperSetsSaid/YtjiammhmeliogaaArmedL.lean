/- An armed disk: what it does, against one that is not. -/
import Derived.Test.YtjiammhmeliogaaTwo
namespace Go.Proofs.Ytjiammhmeliogaa
open Go.RowKit
set_option linter.unusedVariables false
set_option linter.unusedSimpArgs false

def DD.arming (D : DD) (k : Int) : DD := { D with armed := true, left := k }
theorem fresh_arm {y : Nat} : (DD.fresh 6).arm (y : Int) = (0, (DD.fresh 6).arming (y : Int)) := by
  have h : (0 : Int) ≤ (y : Int) := by omega
  simp [DD.arm, DD.arming, DD.fresh, h]
theorem arming_ready {t : Nat} {D : DD} (h : Calm t D) (k i : Int) : (D.arming k).ready i = if i < 0 ∨ 6 ≤ i then (2, D.arming k) else (0, D.arming k) := by
  unfold DD.ready DD.arming
  simp only [h.dead, h.fails, h.n]
  simp
/-- Does an op go on behind ready? -/
def works (o : OpT) : Prop := 0 < opk o.k ∧ (opk o.k = 2 ∨ (0 ≤ o.a ∧ o.a < 6))
instance (o : OpT) : Decidable (works o) := by unfold works; infer_instance

theorem arming_does {t : Nat} {D : DD} (h : Calm t D) {k : Int} {o : OpT} (h3 : opk o.k < 3) (hk : works o → k ≠ 0) :
    (D.arming k).does o = ((D.does o).1, (D.does o).2.1, (D.does o).2.2.arming (if works o then k - 1 else k)) := by
  have h0 := opk_lo o.k
  unfold DD.does
  by_cases e0 : opk o.k = 0
  · have hw : ¬ works o := by unfold works; omega
    simp only [if_pos e0]
    rw [if_neg hw, calm_read h]
    unfold DD.read
    rw [arming_ready h]
    by_cases e : o.a < 0 ∨ 6 ≤ o.a
    · simp [e]
    · simp [e]
      exact ⟨rfl, rfl⟩
  · by_cases e1 : opk o.k = 1
    · simp only [if_neg e0, if_pos e1]
      rw [calm_write h]
      unfold DD.write
      rw [arming_ready h]
      by_cases e : o.a < 0 ∨ 6 ≤ o.a
      · have hw : ¬ works o := by unfold works; omega
        rw [if_neg hw]
        simp [e]
      · have hw : works o := by unfold works; omega
        have := hk hw
        rw [if_pos hw]
        simp [e, DD.arming, DD.done, this]
    · have e2 : opk o.k = 2 := by omega
      have hw : works o := by unfold works; omega
      have := hk hw
      simp only [if_neg e0, if_neg e1, if_pos e2]
      rw [calm_sync h, if_pos hw]
      unfold DD.sync
      rw [arming_ready h]
      simp [DD.arming, DD.done, DD.synced, this]

/-- The power goes. -/
def DD.cut (D : DD) : DD := { D with dead := true, left := 0 }
theorem arming_cut {t : Nat} {D : DD} (h : Calm t D) {o : OpT} (h3 : opk o.k < 3) (hw : works o) : (D.arming 0).does o = (zb, 7, D.cut) := by
  have h0 := opk_lo o.k
  have ha := h.armed
  have hw' := hw
  unfold works at hw'
  unfold DD.does
  have e0 : ¬ opk o.k = 0 := by omega
  by_cases e1 : opk o.k = 1
  · have e : ¬ (o.a < 0 ∨ 6 ≤ o.a) := by omega
    simp only [if_neg e0, if_pos e1]
    unfold DD.write
    rw [arming_ready h]
    simp [e, DD.arming, DD.gone, DD.cut, ha]
  · have e2 : opk o.k = 2 := by omega
    simp only [if_neg e0, if_neg e1, if_pos e2]
    unfold DD.sync
    rw [arming_ready h]
    simp [DD.arming, DD.gone, DD.cut, ha]
theorem cut_read (D : DD) (i : Int) : D.cut.read i = (zb, 7, D.cut) := by
  simp [DD.read, DD.ready, DD.cut]
theorem cut_arm (D : DD) (i : Int) : D.cut.arm i = (7, D.cut) := by
  simp [DD.arm, DD.cut]
theorem cut_fail (D : DD) (i : Int) : D.cut.fail i = (7, D.cut) := by
  simp [DD.fail, DD.cut]
theorem cut_sync (D : DD) : D.cut.sync = (7, D.cut) := by
  simp [DD.sync, DD.ready, DD.cut]
end Go.Proofs.Ytjiammhmeliogaa
