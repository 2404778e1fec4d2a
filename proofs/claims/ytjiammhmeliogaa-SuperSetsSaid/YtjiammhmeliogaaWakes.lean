/- wakes: the disk does something. -/
import Derived.Test.YtjiammhmeliogaaSame
namespace Go.Proofs.Ytjiammhmeliogaa
open Go.RowKit
set_option linter.unusedVariables false
set_option linter.unusedSimpArgs false

def b7 : List Int := 7 :: List.replicate 63 0
theorem b7_len : b7.length = 64 := by simp [b7]
theorem exec_build7 (ρ : Operand → Value) (dst : Option Tmp) (ty : TypeId) (pos : String) (after : Array Edge) (guard : Option (Nat × Bool)) (x : Operand) (hx : ρ x = .int .u8 7) (w : World) :
    (execOp ρ ⟨dst, .build 27 #[(0, x)], ty, pos, after, guard⟩).run Try.prog w = .ok (.value (.agg (bk b7).toArray)) w := by
  have hr := run_build (P := Try.prog) w 27 #[(0, .int .u8 7)] (bk b7).toArray (by kernel_rfl)
  unfold execOp
  simp only [List.map_toArray, List.map_cons, List.map_nil, hx, Sem.run_bind, hr, Result.andThen_ok, Sem.run_pure]
attribute [local go_sem ↓] exec_load27 exec_new27 exec_alloc27 exec_build7 zeroValue27
attribute [local go_sem] padr_some rowAt_drew hasRow_drew mayRow_drew

def W1D : DD := { DD.fresh 2 with ops := 1, p := [(1, b7)] }
theorem wakes_write : (DD.fresh 2).write 1 b7 = (0, W1D) := by
  simp [DD.write, DD.ready, DD.fresh, DD.done, W1D]
theorem wakes_read : W1D.read 1 = (b7, 0, { W1D with ops := 2 }) := by
  have h := live_read (D := W1D) ⟨rfl, rfl⟩ (i := 1) (by simp [W1D, DD.fresh])
  have e : W1D.holds 1 = b7 := by simp [DD.holds, W1D, DD.fresh, setl, updF_same]
  rw [e] at h
  exact h

set_option maxHeartbeats 1000000 in
theorem wakes_any (w : World) : Calls Try.prog 15 #[] w fun e w' => e = .returned (.bool true) ∧ Keeps (fun _ => False) w w' := by
  have HN := Lib.hid (new_ok 2 (by omega) (by omega) w)
  go_enter Try.func15, Try.ntmps15
  go_wp2_with fail
  refine HN.out.mono ?_
  rintro e w1 ⟨L, rfl, hd, hown, hk⟩
  have HK := Lib.hid hk
  have hw1 := hk.size
  have hwr := write_any L _ w1 hd (by intro h; cases h) (by simp [DD.fresh]) (by simp [DD.fresh]) 1 b7 b7_len
  rw [wakes_write] at hwr
  obtain ⟨p, hp⟩ : ∃ p, p = L.ptr := ⟨_, rfl⟩
  have hpp : ∃ B, p = .pointer (some ⟨B, 0, none⟩) := ⟨L.B, by rw [hp]; rfl⟩
  obtain ⟨B, rfl⟩ := hpp
  rw [← hp] at hwr ⊢
  have HW := Lib.hid hwr
  have HO := Lib.hid hown
  have HP := Lib.hid hp
  clear hk hwr hd hown hp
  go_wp2_with fail
  refine HW.out.mono ?_
  rintro e w2 ⟨rfl, hm⟩
  obtain ⟨L2, e1, e2, e3, _, e4⟩ := hm.here HO.out hw1
  have hrd := read_any L2 _ w2 e2 (by show (1 : Int) < _; omega) 1
  rw [wakes_read, e1, ← HP.out] at hrd
  have HR := Lib.hid hrd
  have hk2 : Keeps (fun _ => False) w w2 := ((HK.out.mono fun _ _ h => h.elim).trans e4).mono fun k hk h => absurd (HO.out k h) (Nat.not_le.2 hk)
  have HK2 := Lib.hid hk2
  have HE1 := Lib.hid (e1.trans HP.out.symm)
  have HE3 := Lib.hid e3
  clear hm e1 e2 e4 hrd hk2
  go_wp2_with fail
  refine HR.out.mono ?_
  rintro e w3 ⟨rfl, hd3, hk3⟩
  have hone : oneAll (bk b7).toArray = true := all_oneCell_toArray bk_one
  have hl7 : (bk b7).length = 64 := by rw [bk_len, b7_len]
  have hzl : (bk zb).length = 64 := by rw [bk_len, zb_len]
  have hq : Keeps (fun _ => False) w3 (w3.alloc (.cells (bk b7).toArray 27)) := (Keeps.refl _ _).alloc _
  have hx0 := (Blk.new w3 27 (bk b7)).cell (i := 0) (v := .int .u8 7) rfl
  have hpe := pending_any L2 _ _ (hd3.quiet hq)
  have hle := fun W (hk : Keeps (fun _ => False) w3 W) => len_any L2 _ W (hd3.quiet hk)
  rw [HE1.out] at hpe hle
  have HPE := Lib.hid hpe
  have HLE := Lib.hid hle
  have HQ := Lib.hid hq
  have HK3 : Hid (Keeps (fun _ => False) w w3) := Lib.hid (((HK2.out.mono fun _ _ h => h.elim).trans hk3).mono fun k hk h => absurd (e3 k (.inl h)) (Nat.not_le.2 hk))
  clear hpe hle hq hd3 hk3 e3
  go_wp2_with fail
  refine HPE.out.mono ?_
  rintro e w4 ⟨rv, rfl, hrow, hk4⟩
  obtain ⟨ra, rc, rfl, _⟩ := own_slice hrow
  have HK4 := Lib.hid hk4
  clear hrow hk4
  go_wp2_with fail
  refine (HLE.out _ (HQ.out.trans HK4.out)).mono ?_
  rintro e w5 ⟨rfl, rfl⟩
  go_wp2_with fail
  go_ret
  exact ⟨rfl, (HK3.out.trans HQ.out).trans HK4.out⟩
end Go.Proofs.Ytjiammhmeliogaa
