/- slab: Where, Take. -/
import Derived.Test.YthnagihgjenimaaDoorNb
namespace Go.Proofs.YthnagihgjenimaaDoor
open Go.RowKit
set_option linter.unusedVariables false
set_option linter.unusedSimpArgs false

/-- What Where answers. -/
def WhereP (D : AD) (x : Int) (w : World) (e : Ending) (w' : World) : Prop :=
  e = .returned (.tuple #[.int .i64 (if D.find x = 0 then ((D.c (x.toNat / 32) : Nat) : Int) else 0), .int .i64 (D.find x)]) ∧ w = w'
theorem find_zero {D : AD} {x : Int} (h : D.find x = 0) : 0 ≤ x ∧ x.toNat / 32 < D.n ∧ bitN (D.g (x.toNat / 32)) (x.toNat % 32) = 1 := by
  unfold AD.find at h
  by_cases h1 : x < 0 ∨ (D.n : Int) ≤ x / 32
  · rw [if_pos h1] at h; omega
  · rw [if_neg h1] at h
    by_cases h2 : bitN (D.g (x.toNat / 32)) (x.toNat % 32) = 0
    · rw [if_pos h2] at h; omega
    · have := Nat.mod_two_eq_zero_or_one (D.g (x.toNat / 32) / 2 ^ (x.toNat % 32))
      unfold bitN at h2 ⊢
      omega
theorem where_any (L : AL) (D : AD) (w : World) (h : ArAt w L D) (x : Int) (hx : x < 9223372036854775808) : Calls Tryd.prog 24 #[L.ptr, .int .i64 x] w (WhereP D x w) := by
  have HF := Lib.hid (find_any L D w h x hx)
  clear hx
  obtain ⟨c0, hc⟩ := h.cells
  unfold WhereP FindP at *
  unfold AL.ptr at *
  by_cases hf : D.find x = 0
  · obtain ⟨h0, hi, _⟩ := find_zero hf
    obtain ⟨y0, y1⟩ := hc _ hi
    rw [hf] at HF ⊢
    simp only [if_true] at HF ⊢
    generalize x.toNat / 32 = i at *
    clear hc h hf h0
    go_enter Tryd.func24, Tryd.ntmps24
    go_wp2_with fail
    refine HF.out.mono ?_
    rintro e w2 ⟨rfl, rfl⟩
    go_wp2_with fail
    go_ret2
    exact ⟨rfl, rfl⟩
  · rw [if_neg hf] at HF ⊢
    generalize D.find x = r at *
    have hr : (r == 0) = false := by simpa using hf
    clear hc h
    go_enter Tryd.func24, Tryd.ntmps24
    go_wp2_with fail
    refine HF.out.mono ?_
    rintro e w2 ⟨rfl, rfl⟩
    go_wp2_with fail
    go_ret2
    exact ⟨rfl, rfl⟩

theorem ArAt.setg {w : World} {L : AL} {D : AD} (h : ArAt w L D) {i : Nat} (hi : i < D.n) {x : Nat} (hx : x < 2 ^ chk (D.c i)) :
    ArAt (w.setCell ⟨L.G, i * 2 + 1, none⟩ (.int .u32 (x : Nat))) L { D with g := updN D.g i x } ∧ Keeps (fun k => k = L.G) w (w.setCell ⟨L.G, i * 2 + 1, none⟩ (.int .u32 (x : Nat))) := by
  have hk : Keeps (fun k => k = L.G) w (w.setCell ⟨L.G, i * 2 + 1, none⟩ (.int .u32 (x : Nat))) := (Keeps.refl (fun k => k = L.G) w).store (p := ⟨L.G, i * 2 + 1, none⟩) (.inl rfl) _
  have hne : L.B ≠ L.G := fun e => own_ne_blk h.obj h.row (by decide) (by simp [Value.ownBlock, e])
  refine ⟨⟨hk.blk h.obj hne, ?_, h.n1, h.n2, h.cl, ?_⟩, hk⟩
  · have := own_put h.row (i := i * 2 + 1) (.int .u32 (x : Nat))
    rwa [pgs_setg D hi] at this
  · intro j hj
    show updN D.g i x j < _
    by_cases e : j = i
    · subst e; rw [updN_same]; exact hx
    · rw [updN_ne _ _ _ e]; exact h.gl j hj
def TakeP (L : AL) (D : AD) (x : Int) (w : World) (e : Ending) (w' : World) : Prop :=
  e = .returned (.int .i64 (D.find x)) ∧ (D.find x ≠ 0 → w = w') ∧
    (D.find x = 0 → Keeps (fun k => k = L.G) w w' ∧ ArAt w' L { D with g := updN D.g (x.toNat / 32) (D.g (x.toNat / 32) - 2 ^ (x.toNat % 32)) })
theorem take_any (L : AL) (D : AD) (w : World) (h : ArAt w L D) (x : Int) (hx : x < 9223372036854775808) : Calls Tryd.prog 23 #[L.ptr, .int .i64 x] w (TakeP L D x w) := by
  have HF := Lib.hid (find_any L D w h x hx)
  clear hx
  obtain ⟨c0, hc⟩ := h.cells
  unfold TakeP FindP at *
  unfold AL.ptr at *
  by_cases hf : D.find x = 0
  · obtain ⟨h0, hi, hb⟩ := find_zero hf
    obtain ⟨m, rfl⟩ := Int.eq_ofNat_of_zero_le h0
    simp only [Int.toNat_natCast] at *
    obtain ⟨y0, y1⟩ := hc _ hi
    have hfr := own_free h.row (m / 32 * 2 + 1)
    have HN := Lib.hid (not_u32 (D.g (m / 32)) (m % 32) (h.g32 hi) (by omega) hb)
    have HA := Lib.hid (h.setg hi (x := D.g (m / 32) - 2 ^ (m % 32)) (Nat.lt_of_le_of_lt (Nat.sub_le _ _) (h.gl _ hi)))
    have h6 : (0 : Int) ≤ (m : Int) % 32 := by omega
    have h7 : (m : Int) % 32 < 32 := by omega
    rw [hf] at HF ⊢
    simp only [if_true] at HF ⊢
    generalize m / 32 = i at *
    clear hc h hf h0
    go_enter Tryd.func23, Tryd.ntmps23
    go_wp2_with fail
    refine HF.out.mono ?_
    rintro e w2 ⟨rfl, rfl⟩
    go_wp2_with fail
    go_region
    rw [HN.out]
    have HA2 : Hid (Keeps (fun k => k = L.G) w (w.setCell ⟨L.G, i * 2 + 1, none⟩ (.int .u32 (D.g i - 2 ^ (m % 32) : Nat))).drew ∧ ArAt (w.setCell ⟨L.G, i * 2 + 1, none⟩ (.int .u32 (D.g i - 2 ^ (m % 32) : Nat))).drew L { D with g := updN D.g i (D.g i - 2 ^ (m % 32)) }) := Lib.hid ⟨HA.out.2.drew, HA.out.1.quiet (Keeps.refl _ _).drew⟩
    generalize (w.setCell ⟨L.G, i * 2 + 1, none⟩ (.int .u32 (D.g i - 2 ^ (m % 32) : Nat))).drew = w2 at HA2 ⊢
    go_wp2_with fail
    go_ret
    exact ⟨rfl, fun h => absurd rfl h, fun _ => HA2.out⟩
  · rw [if_neg hf] at HF
    generalize D.find x = r at *
    have hr : (r == 0) = false := by simpa using hf
    clear hc h
    go_enter Tryd.func23, Tryd.ntmps23
    go_wp2_with fail
    refine HF.out.mono ?_
    rintro e w2 ⟨rfl, rfl⟩
    go_wp2_with fail
    go_ret
    exact ⟨rfl, fun _ => rfl, fun h => absurd h hf⟩
end Go.Proofs.YthnagihgjenimaaDoor
