/- DiskLast: without a crash each sector holds what was written last. -/
import Derived.Test.YtjiammhmeliogaaWakes
namespace Go.Proofs.Ytjiammhmeliogaa
open Go.RowKit
set_option linter.unusedVariables false
set_option linter.unusedSimpArgs false

/-! ### What a sector holds behind the ops -/
theorem calm_holds {t : Nat} {D : DD} (h : Calm t D) (o : OpT) (ho : opk o.k < 3) (i : Nat) :
    (D.does o).2.2.holds i = if opk o.k = 1 ∧ 0 ≤ o.a ∧ o.a < 6 then updF D.holds o.a.toNat (blk o.f) i else D.holds i := by
  have h0 := opk_lo o.k
  unfold DD.does
  by_cases e0 : opk o.k = 0
  · have hne : ¬ (opk o.k = 1 ∧ 0 ≤ o.a ∧ o.a < 6) := by omega
    rw [if_pos e0, calm_read h, if_neg hne]
    split
    · rfl
    · rfl
  · by_cases e1 : opk o.k = 1
    · rw [if_neg e0, if_pos e1, calm_write h]
      by_cases e : o.a < 0 ∨ 6 ≤ o.a
      · rw [if_pos e, if_neg (by omega)]
      · rw [if_neg e, if_pos (by omega)]
        show setl (fun _ => true) 0 (D.p ++ [(o.a.toNat, blk o.f)]) D.f i = _
        rw [setl_snoc]
        rfl
    · have e2 : opk o.k = 2 := by omega
      have hne : ¬ (opk o.k = 1 ∧ 0 ≤ o.a ∧ o.a < 6) := by omega
      rw [if_neg e0, if_neg e1, if_pos e2, calm_sync h, if_neg hne]
      rfl

/-- What was written last. -/
def lastL (F : Nat → List Int) (os : List OpT) : Nat → List Int := os.foldl (fun F o => if opk o.k = 1 ∧ 0 ≤ o.a ∧ o.a < 6 then updF F o.a.toNat (blk o.f) else F) F
theorem lastL_take {F : Nat → List Int} {os : List OpT} {t : Nat} {o : OpT} (h : os[t]? = some o) : lastL F (os.take (t + 1)) = if opk o.k = 1 ∧ 0 ≤ o.a ∧ o.a < 6 then updF (lastL F (os.take t)) o.a.toNat (blk o.f) else lastL F (os.take t) := by
  obtain ⟨ht, rfl⟩ := List.getElem?_eq_some_iff.1 h
  rw [List.take_succ_eq_append_getElem ht]
  unfold lastL
  rw [List.foldl_append]
  rfl
theorem last_holds (os : List OpT) : ∀ t, t ≤ os.length → ∀ i, (wornL (DD.fresh 6) (os.take t)).holds i = lastL (fun _ => zb) (os.take t) i
  | 0, _, i => rfl
  | t + 1, h, i => by
    have ih := last_holds os t (by omega)
    have hg : os[t]? = some os[t] := List.getElem?_eq_getElem h
    have hc := wornL_calm os t (by omega)
    rw [wornL_take hg, lastL_take hg]
    by_cases h3 : opk (os[t]).k < 3
    · rw [if_pos h3, calm_holds hc _ h3]
      split
      · unfold updF
        rw [ih]
      · exact ih i
    · rw [if_neg h3, if_neg (by omega)]
      exact ih i
theorem last_len (os : List OpT) : ∀ t, t ≤ os.length → ∀ i, (lastL (fun _ => zb) (os.take t) i).length = 64
  | 0, _, i => zb_len
  | t + 1, h, i => by
    have ih := last_len os t (by omega)
    have hg : os[t]? = some os[t] := List.getElem?_eq_getElem h
    rw [lastL_take hg]
    split
    · unfold updF
      split
      · exact blk_len _
      · exact ih i
    · exact ih i

/-! ### A row of blocks in an array -/
theorem blk_flat_store {w : World} {g n j : Nat} {t : TypeId} {f : Nat → List Int} {b : List Int} (h : Blk w g t (flat f n)) (hj : j < n) (hf : ∀ i, i < n → (f i).length = 64) (hb : b.length = 64) : Blk (w.setCells g (j * 64) (bk b)) g t (flat (updF f j b) n) := by
  obtain ⟨post, hp⟩ := flat_split f hj
  have e1 := hp f (fun _ _ _ => rfl)
  have e2 := hp (updF f j b) (fun i _ hne => updF_ne _ _ _ hne)
  rw [updF_same] at e2
  have hlen : (flat f j).length = j * 64 := flat_len fun i hi => hf i (by omega)
  have hbl : (bk b).length = 64 := by rw [bk_len, hb]
  have hbf : (bk (f j)).length = 64 := by rw [bk_len, hf j hj]
  obtain ⟨cur', h1, h2⟩ := setCells_heap g t (bk b) (j * 64) w _ h (by rw [e1]; simp [hlen, hbl, hbf])
  unfold Blk
  rw [h1, e2]
  congr 2
  apply Array.ext'
  rw [h2, e1]
  simp only [List.append_assoc]
  rw [List.take_left' hlen, ← hlen, List.drop_append, hbl, ← hbf]
  simp
theorem blk_flat_at {w : World} {g n j : Nat} {t : TypeId} {f : Nat → List Int} (h : Blk w g t (flat f n)) (hj : j < n) (hf : ∀ i, i < n → (f i).length = 64) : w.rangeAt g (j * 64) (bk (f j)) := by
  obtain ⟨post, hp⟩ := flat_split f hj
  have e1 := hp f (fun _ _ _ => rfl)
  have hlen : (flat f j).length = j * 64 := flat_len fun i hi => hf i (by omega)
  rw [e1] at h
  intro q v hv
  refine h.cell ?_
  rw [List.append_assoc, List.getElem?_append_right (by omega), hlen, Nat.add_sub_cancel_left]
  rw [List.getElem?_append_left (List.getElem?_eq_some_iff.1 hv).1]
  exact hv
theorem blk_flat_may {w : World} {g n j : Nat} {t : TypeId} {f : Nat → List Int} (h : Blk w g t (flat f n)) (hj : j < n) (hf : ∀ i, i < n → (f i).length = 64) : MayRow w g (j * 64) 64 := by
  have hr := blk_flat_at h hj hf
  intro q hq
  have hl : (bk (f j)).length = 64 := by rw [bk_len, hf j hj]
  exact ⟨by rw [hr q _ (List.getElem?_eq_getElem (by omega))]; rfl, h.free _⟩

theorem zeroValue28 (w : World) : (zeroValue 28).run Try.prog w = .ok (.agg (flat (fun _ => zb) 6).toArray) w := (Try.zeroValue28 w).trans (by kernel_rfl)
end Go.Proofs.Ytjiammhmeliogaa
