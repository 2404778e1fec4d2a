/- A disk's small calls: Len, Dead, Ops, Arm, Fail; New refuses. -/
import Derived.Test.YtjiammhmeliogaaBuild
namespace Go.Proofs.Ytjiammhmeliogaa
open Go.RowKit
set_option linter.unusedVariables false

theorem len_any (L : DL) (D : DD) (w : World) (h : DkAt w L D) : Calls Try.prog 26 #[L.ptr] w fun e w' => e = .returned (.int .i64 (D.n : Int)) ∧ w = w' := by
  obtain ⟨a, cap, hsv, hcap, hmx⟩ := own_slice h.safe
  obtain ⟨c0, _⟩ := h.cells
  rw [hsv] at c0
  have n2 := h.n2
  unfold DL.ptr
  clear h hsv
  go_enter Try.func26, Try.ntmps26
  go_wp2
  go_ret
  exact ⟨rfl, rfl⟩

theorem dead_any (L : DL) (D : DD) (w : World) (h : DkAt w L D) : Calls Try.prog 30 #[L.ptr] w fun e w' => e = .returned (.bool D.dead) ∧ w = w' := by
  obtain ⟨_, _, c2, _⟩ := h.cells
  unfold DL.ptr
  clear h
  go_enter Try.func30, Try.ntmps30
  go_wp2
  go_ret
  exact ⟨rfl, rfl⟩

theorem ops_any (L : DL) (D : DD) (w : World) (h : DkAt w L D) : Calls Try.prog 36 #[L.ptr] w fun e w' => e = .returned (.int .i64 D.ops) ∧ w = w' := by
  obtain ⟨_, _, _, _, _, _, c6⟩ := h.cells
  unfold DL.ptr
  clear h
  go_enter Try.func36, Try.ntmps36
  go_wp2
  go_ret
  exact ⟨rfl, rfl⟩

/-- Arm. -/
def DD.arm (D : DD) (n : Int) : Int × DD := if D.dead then (7, D) else (0, { D with armed := decide (0 ≤ n), left := n })
theorem arm_any (L : DL) (D : DD) (w : World) (h : DkAt w L D) (n : Int) (hn : (Lit.int .i64 n).wf = true) : Calls Try.prog 29 #[L.ptr, .int .i64 n] w (DStep L (D.arm n).1 (D.arm n).2 w) := by
  have hn1 : -9223372036854775808 ≤ n ∧ n ≤ 9223372036854775807 := by simpa [Lit.wf, IntKind.min, IntKind.max, IntKind.signed, IntKind.bits] using hn
  have HP := Lib.hid (power_any L D w h)
  have HD := Lib.hid h
  obtain ⟨c0, c1, c2, c3, c4, c5, c6⟩ := h.cells
  have k3 := h.obj.free 3
  have k4 := h.obj.free 4
  unfold DL.ptr at *
  clear h hn
  cases hd : D.dead
  · rw [hd] at HP
    have HE : Hid (D.arm n = (0, { D with armed := decide (0 ≤ n), left := n })) := Lib.hid (by unfold DD.arm; simp [hd])
    clear hd
    go_enter Try.func29, Try.ntmps29
    go_wp2_with fail
    refine HP.out.mono ?_
    rintro e w' ⟨rfl, rfl⟩
    go_wp2_with fail
    go_ret
    rw [HE.out]
    have hk : Keeps (fun k => k = L.B) w ((w.setCell ⟨L.B, 3, none⟩ (.bool (decide (0 ≤ n)))).setCell ⟨L.B, 4, none⟩ (.int .i64 n)) := ((Keeps.refl (fun k => k = L.B) w).store (p := ⟨L.B, 3, none⟩) (.inl rfl) _).store (p := ⟨L.B, 4, none⟩) (.inl rfl) _
    exact ⟨rfl, HD.out.turn hk ((HD.out.obj.store 3 _).store 4 _) rfl rfl rfl HD.out.o1 HD.out.o2 hn1.1 hn1.2 HD.out.f1 HD.out.f2, hk⟩
  · rw [hd] at HP
    have HE : Hid (D.arm n = (7, D)) := Lib.hid (by unfold DD.arm; simp [hd])
    clear hd
    go_enter Try.func29, Try.ntmps29
    go_wp2_with fail
    refine HP.out.mono ?_
    rintro e w' ⟨rfl, rfl⟩
    go_wp2_with fail
    go_ret
    rw [HE.out]
    exact ⟨rfl, HD.out, Keeps.refl _ _⟩

/-- Fail. -/
def DD.fail (D : DD) (n : Int) : Int × DD := if D.dead then (7, D) else (0, { D with fails := if 0 ≤ n ∧ n < 4611686018427387904 then n + 1 else 0 })
set_option maxHeartbeats 1000000 in
theorem fail_any (L : DL) (D : DD) (w : World) (h : DkAt w L D) (n : Int) : Calls Try.prog 32 #[L.ptr, .int .i64 n] w (DStep L (D.fail n).1 (D.fail n).2 w) := by
  have HP := Lib.hid (power_any L D w h)
  have HD := Lib.hid h
  obtain ⟨c0, c1, c2, c3, c4, c5, c6⟩ := h.cells
  have k5 := h.obj.free 5
  unfold DL.ptr at *
  clear h
  cases hd : D.dead
  · rw [hd] at HP
    have hk0 : Keeps (fun k => k = L.B) w (w.setCell ⟨L.B, 5, none⟩ (.int .i64 0)) := (Keeps.refl (fun k => k = L.B) w).store (p := ⟨L.B, 5, none⟩) (.inl rfl) _
    by_cases h0 : 0 ≤ n
    · by_cases h1 : n < 4611686018427387904
      · have HE : Hid (D.fail n = (0, { D with fails := n + 1 })) := Lib.hid (by unfold DD.fail; simp [hd, h0, h1])
        clear hd hk0
        go_enter Try.func32, Try.ntmps32
        go_wp2_with fail
        refine HP.out.mono ?_
        rintro e w' ⟨rfl, rfl⟩
        go_wp2_with fail
        go_ret
        rw [HE.out]
        have hk : Keeps (fun k => k = L.B) w ((w.setCell ⟨L.B, 5, none⟩ (.int .i64 0)).setCell ⟨L.B, 5, none⟩ (.int .i64 (n + 1))) := ((Keeps.refl (fun k => k = L.B) w).store (p := ⟨L.B, 5, none⟩) (.inl rfl) _).store (p := ⟨L.B, 5, none⟩) (.inl rfl) _
        have hb : Blk ((w.setCell ⟨L.B, 5, none⟩ (.int .i64 0)).setCell ⟨L.B, 5, none⟩ (.int .i64 (n + 1))) L.B 95 (L.obj { D with fails := n + 1 }) := (HD.out.obj.store 5 _).store 5 _
        exact ⟨rfl, HD.out.turn hk hb rfl rfl rfl HD.out.o1 HD.out.o2 HD.out.l1 HD.out.l2 (by show 0 ≤ n + 1; omega) (by show n + 1 ≤ _; omega), hk⟩
      · have HE : Hid (D.fail n = (0, { D with fails := 0 })) := Lib.hid (by unfold DD.fail; simp [hd, h1])
        have h1' : decide (n < 4611686018427387904) = false := by simpa using h1
        have HK0 := Lib.hid hk0
        clear hd h1 hk0
        go_enter Try.func32, Try.ntmps32
        go_wp2_with fail
        refine HP.out.mono ?_
        rintro e w' ⟨rfl, rfl⟩
        go_wp2_with fail
        go_ret
        rw [HE.out]
        exact ⟨rfl, HD.out.turn HK0.out (HD.out.obj.store 5 _) rfl rfl rfl HD.out.o1 HD.out.o2 HD.out.l1 HD.out.l2 (by simp) (by simp), HK0.out⟩
    · have HE : Hid (D.fail n = (0, { D with fails := 0 })) := Lib.hid (by unfold DD.fail; simp [hd, h0])
      have h0' : decide (0 ≤ n) = false := by simpa using h0
      have HK0 := Lib.hid hk0
      clear hd h0 hk0
      go_enter Try.func32, Try.ntmps32
      go_wp2_with fail
      refine HP.out.mono ?_
      rintro e w' ⟨rfl, rfl⟩
      go_wp2_with fail
      go_ret
      rw [HE.out]
      exact ⟨rfl, HD.out.turn HK0.out (HD.out.obj.store 5 _) rfl rfl rfl HD.out.o1 HD.out.o2 HD.out.l1 HD.out.l2 (by simp) (by simp), HK0.out⟩
  · rw [hd] at HP
    have HE : Hid (D.fail n = (7, D)) := Lib.hid (by unfold DD.fail; simp [hd])
    clear hd
    go_enter Try.func32, Try.ntmps32
    go_wp2_with fail
    refine HP.out.mono ?_
    rintro e w' ⟨rfl, rfl⟩
    go_wp2_with fail
    go_ret
    rw [HE.out]
    exact ⟨rfl, HD.out, Keeps.refl _ _⟩
end Go.Proofs.Ytjiammhmeliogaa
