/- same: two rows of the same blocks are the same. -/
import Derived.Test.YtjiammhmeliogaaHeld
import Derived.Test.YtjiammhmeliogaaArrEq
namespace Go.Proofs.Ytjiammhmeliogaa
open Go.RowKit
set_option linter.unusedVariables false
set_option linter.unusedSimpArgs false
attribute [local go_sem ↓] exec_load27
attribute [local go_sem] padr_some rowAt_drew hasRow_drew mayRow_drew

theorem info5 : (Try.prog.info? 5).map (fun i => (i.zero, i.size, i.bytes)) = some (some (.int .u8 0), 1, 1) := by kernel_rfl
theorem eq27 (xs ys : List Int) (hx : xs.length = 64) (hy : ys.length = 64) (w : World) : (Op.equalIn 10000 27 (.agg (bk xs).toArray) (.agg (bk ys).toArray)).run Try.prog w = .ok (decide (xs = ys)) w := by
  obtain ⟨i, hi, _⟩ := info_parts info5
  exact run_eq_ints (P := Try.prog) (n := 64) 9998 Try.underlying27 Try.underlying5 (by kernel_rfl) hi (by kernel_rfl) xs ys hx hy w
theorem eq27_self (xs : List Int) (hx : xs.length = 64) (w : World) : (Op.equalIn 10000 27 (.agg (bk xs).toArray) (.agg (bk xs).toArray)).run Try.prog w = .ok true w := by
  rw [eq27 xs xs hx hx]
  simp
attribute [local go_sem] eq27_self

/-- Block i of a row of blocks. -/
theorem own_block {w : World} {base g n cap i : Nat} {f : Nat → List Int} (h : w.ownsRow base 27 64 (.slice (some ⟨g, 0, none⟩) n cap) n (flat f n)) (hf : ∀ j, j < n → (f j).length = 64) (hi : i < n) : w.rangeAt g (i * 64) (bk (f i)) := by
  obtain ⟨post, hp⟩ := flat_split f hi
  rw [hp f (fun _ _ _ => rfl)] at h
  have h2 := own_range h
  rwa [flat_len (fun j hj => hf j (by omega))] at h2

set_option maxHeartbeats 1000000 in
theorem same_any (b1 b2 : Nat) (v1 v2 : Value) (n : Nat) (f1 f2 : Nat → List Int) (w : World) (h1 : w.ownsRow b1 27 64 v1 n (flat f1 n)) (h2 : w.ownsRow b2 27 64 v2 n (flat f2 n)) (hf : ∀ i, i < n → (f1 i).length = 64) (he : ∀ i, i < n → f1 i = f2 i) :
    Calls Try.prog 35 #[v1, v2] w fun e w' => e = .returned (.bool true) ∧ Keeps (fun _ => False) w w' := by
  obtain ⟨a1, c1, hv1, hc1, hm1⟩ := own_slice h1
  obtain ⟨a2, c2, hv2, hc2, hm2⟩ := own_slice h2
  have H1 := Lib.hid h1
  have H2 := Lib.hid h2
  have HF := Lib.hid hf
  have HE := Lib.hid he
  unfold maxLen at hm1 hm2
  subst hv1
  subst hv2
  clear h1 h2 hf he
  go_enter Try.func35, Try.ntmps35
  go_wp2_with fail
  go_loopw [13] (fun i wr => ∃ t : Nat, t ≤ n ∧ i = .int .i64 t ∧ Keeps (fun _ => False) w wr) (fun i _ => n - (intOf i).toNat)
  case atStart => exact ⟨0, Nat.zero_le _, rfl, Keeps.refl _ _⟩
  case round =>
    obtain ⟨t, ht, rfl, hk⟩ := hrel
    by_cases hlt : t < n
    · obtain ⟨g1, k1, e1, _, _, hg1⟩ := own_some H1.out (by omega)
      obtain ⟨g2, k2, e2, _, _, hg2⟩ := own_some H2.out (by omega)
      injection e1 with e1 _ e1'
      injection e2 with e2 _ e2'
      subst e1
      subst e2
      subst e1'
      subst e2'
      have q1 : wr.rangeAt g1 (t * 64) (bk (f1 t)) := fun j v hv => (hk.cell (p := ⟨g1, t * 64 + j, none⟩) hg1 id).trans (own_block H1.out HF.out hlt j v hv)
      have q2 : wr.rangeAt g2 (t * 64) (bk (f1 t)) := fun j v hv => (hk.cell (p := ⟨g2, t * 64 + j, none⟩) hg2 id).trans (own_block H2.out (fun i hi => by rw [← HE.out i hi]; exact HF.out i hi) hlt j v (by rw [← HE.out t hlt]; exact hv))
      have hl : (bk (f1 t)).length = 64 := by rw [bk_len]; exact HF.out t hlt
      have r1 := hasRow_of q1 hl
      have r2 := rowAt_of q1 hl
      have r3 := hasRow_of q2 hl
      have r4 := rowAt_of q2 hl
      have hlf := HF.out t hlt
      have hlt' : (t : Int) < (n : Int) := by omega
      have HK := Lib.hid hk
      clear q1 q2 hk
      go_wp2_with fail
      go_region
      all_goals
        go_wp2_with fail
        go_roundw
        case rel => exact ⟨t + 1, by omega, by go_num, HK.out.drew⟩
        case measure => simp [intOf]; omega
    · obtain rfl : t = n := by omega
      go_wp2_with fail
      go_ret
      exact ⟨rfl, hk⟩
end Go.Proofs.Ytjiammhmeliogaa
