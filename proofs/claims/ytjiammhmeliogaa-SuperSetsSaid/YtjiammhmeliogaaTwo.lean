/- Two disks that lie apart. -/
import Derived.Test.YtjiammhmeliogaaOpen
namespace Go.Proofs.Ytjiammhmeliogaa
open Go.RowKit
set_option linter.unusedVariables false
set_option linter.unusedSimpArgs false

/-- Two disks, in blocks that are new since w0, apart. -/
structure Two (w0 w : World) (La : DL) (Da : DD) (Lb : DL) (Db : DD) : Prop where
  a : DkAt w La Da
  b : DkAt w Lb Db
  oa : ∀ k, La.own k → w0.heap.size ≤ k
  ob : ∀ k, Lb.own k → w0.heap.size ≤ k
  ap : ∀ k, La.own k → ¬ Lb.own k
  k : Keeps (fun _ => False) w0 w
theorem Two.symm {w0 w : World} {La : DL} {Da : DD} {Lb : DL} {Db : DD} (h : Two w0 w La Da Lb Db) : Two w0 w Lb Db La Da := ⟨h.b, h.a, h.ob, h.oa, fun k h1 h2 => h.ap k h2 h1, h.k⟩
theorem Two.quiet {w0 w w' : World} {La : DL} {Da : DD} {Lb : DL} {Db : DD} (h : Two w0 w La Da Lb Db) (hk : Keeps (fun _ => False) w w') : Two w0 w' La Da Lb Db :=
  ⟨h.a.quiet hk, h.b.quiet hk, h.oa, h.ob, h.ap, h.k.trans hk⟩
theorem Two.moved {w0 w w' : World} {La : DL} {Da Da' : DD} {Lb : DL} {Db : DD} (h : Two w0 w La Da Lb Db) (hm : DMoved La Da' w w') : ∃ La' : DL, La'.ptr = La.ptr ∧ Two w0 w' La' Da' Lb Db := by
  obtain ⟨L', e1, e2, e3, e4, e5⟩ := hm.here h.oa h.k.size
  refine ⟨L', e1, e2, h.b.keep e5 fun k h1 h2 => h.ap k h2 h1, e3, h.ob, fun k h1 h2 => ?_, (Keeps.mono (S := La.own) ((h.k.mono fun _ _ h => h.elim).trans e5) fun k hk' h' => absurd (h.oa k h') (Nat.not_le.2 hk'))⟩
  rcases e4 k h1 with h3 | h3
  · exact h.ap k h3 h2
  · have := h.b.lt k h2
    omega
theorem Two.step {w0 w w' : World} {La : DL} {Da Da' : DD} {Lb : DL} {Db : DD} (h : Two w0 w La Da Lb Db) (hd : DkAt w' La Da') (hk : Keeps (fun k => k = La.B) w w') : Two w0 w' La Da' Lb Db := by
  refine ⟨hd, h.b.keep hk fun k h1 h2 => h.ap k ?_ h1, h.oa, h.ob, h.ap, (Keeps.mono (S := fun k => k = La.B) ((h.k.mono fun _ _ h => h.elim).trans hk) fun k hk' h' => absurd (h.oa k (.inl h')) (Nat.not_le.2 hk'))⟩
  exact .inl h2

theorem Two.does {w0 w : World} {La : DL} {Da : DD} {Lb : DL} {Db : DD} (h : Two w0 w La Da Lb Db) (hok : Da.ok) (hop : Da.ops < 1000000000000) (hpn : Da.p.length < 1000000) (o : OpT) (hlow : opk o.k < 3) {p : Value} (hp : La.ptr = p) :
    Calls Try.prog 23 #[p, .agg #[.int .i64 o.k, .int .i64 o.a, .int .u8 o.f, .slice o.va o.vn o.vc]] w fun e w' => e = .returned (.tuple #[.agg (bk (Da.does o).1).toArray, .int .i64 (Da.does o).2.1]) ∧
      ∃ La' : DL, La'.ptr = p ∧ Two w0 w' La' (Da.does o).2.2 Lb Db ∧ Keeps La.own w w' := by
  have hdo := does_low La Da w h.a hok hop hpn o hlow
  rw [hp] at hdo
  refine hdo.mono ?_
  rintro e w' ⟨rfl, hm⟩
  obtain ⟨L', e1, e2⟩ := h.moved hm
  obtain ⟨pv, _, _, hkk⟩ := hm
  exact ⟨rfl, L', e1.trans hp, e2, hkk⟩

theorem does_len {L : DL} {D : DD} {w : World} (h : DkAt w L D) (o : OpT) : (D.does o).1.length = 64 := by
  unfold DD.does
  split
  · exact read_len h _
  · split
    · exact zb_len
    · split
      · exact zb_len
      · split
        · exact zb_len
        · split
          · exact zb_len
          · exact zb_len

/-- worn, of no ops. -/
theorem wornD_nil : wornD [] = DD.fresh 6 := rfl
theorem OpRow.nil (B : Nat) (w : World) : OpRow B w none 0 [] := ⟨rfl, fun i o h => by simp at h⟩

/-- The two disks of the law. -/
theorem two_start {w0 w1 w2 : World} {La Lb : DL} (ha : DkAt w1 La (wornD [])) (hoa : ∀ k, La.own k → w0.heap.size ≤ k) (hka : Keeps (fun _ => False) w0 w1) (hb : DkAt w2 Lb (wornD [])) (hob : ∀ k, Lb.own k → w1.heap.size ≤ k) (hkb : Keeps (fun _ => False) w1 w2) :
    Two w0 w2 La (DD.fresh 6) Lb (DD.fresh 6) :=
  ⟨ha.quiet hkb, hb, hoa, fun k h => Nat.le_trans hka.size (hob k h), fun k h1 h2 => by have := ha.lt k h1; have := hob k h2; omega, hka.trans hkb⟩

/-! ### A failure to come -/
def DD.failing (D : DD) (k : Int) : DD := { D with fails := k }
/-- Which ops the law asks: those that come to ready within the disk. -/
def asks (o : OpT) : Prop := opk o.k < 3 ∧ (opk o.k < 2 → 0 ≤ o.a ∧ o.a < 6)
theorem failing_ready {t : Nat} {D : DD} (h : Calm t D) {k : Int} (hk : 2 ≤ k) {i : Int} (hi : 0 ≤ i ∧ i < 6) : (D.failing k).ready i = (0, D.failing (k - 1)) := by
  unfold DD.ready DD.failing
  simp only [h.dead, h.n, Bool.false_eq_true, if_false]
  rw [if_neg (by omega), if_neg (by omega), if_pos (by omega)]
theorem failing_ready1 {t : Nat} {D : DD} (h : Calm t D) {i : Int} (hi : 0 ≤ i ∧ i < 6) : (D.failing 1).ready i = (8, D) := by
  unfold DD.ready DD.failing
  simp only [h.dead, h.n, Bool.false_eq_true, if_false]
  rw [if_neg (by omega), if_pos trivial]
  have h1 := h.fails
  have h2 := h.n
  have h3 := h.dead
  cases D
  simp only at h1 h2 h3
  subst h1 h2 h3
  rfl
theorem failing_zero {t : Nat} {D : DD} (h : Calm t D) : D.failing 0 = D := by
  have := h.fails
  cases D
  simp_all [DD.failing]

theorem failing_does {t : Nat} {D : DD} (h : Calm t D) {k : Int} (hk : 2 ≤ k) {o : OpT} (ho : asks o) : (D.failing k).does o = ((D.does o).1, (D.does o).2.1, (D.does o).2.2.failing (k - 1)) := by
  obtain ⟨h3, hr⟩ := ho
  have h0 := opk_lo o.k
  unfold DD.does
  by_cases e0 : opk o.k = 0
  · have hi := hr (by omega)
    simp only [if_pos e0]
    rw [calm_read h, if_neg (by omega)]
    unfold DD.read
    rw [failing_ready h hk hi]
    simp
    exact ⟨rfl, rfl⟩
  · by_cases e1 : opk o.k = 1
    · have hi := hr (by omega)
      simp only [if_neg e0, if_pos e1]
      rw [calm_write h, if_neg (by omega)]
      unfold DD.write
      rw [failing_ready h hk hi]
      have ha := h.armed
      simp [DD.failing, ha, DD.done]
    · have e2 : opk o.k = 2 := by omega
      simp only [if_neg e0, if_neg e1, if_pos e2]
      rw [calm_sync h]
      unfold DD.sync
      rw [failing_ready h hk (by omega)]
      have ha := h.armed
      simp [DD.failing, ha, DD.done, DD.synced]

theorem failing_does1 {t : Nat} {D : DD} (h : Calm t D) {o : OpT} (ho : asks o) : (D.failing 1).does o = (zb, 8, D) := by
  obtain ⟨h3, hr⟩ := ho
  have h0 := opk_lo o.k
  unfold DD.does
  by_cases e0 : opk o.k = 0
  · have hi := hr (by omega)
    simp only [if_pos e0]
    unfold DD.read
    rw [failing_ready1 h hi]
    simp
  · by_cases e1 : opk o.k = 1
    · have hi := hr (by omega)
      simp only [if_neg e0, if_pos e1]
      unfold DD.write
      rw [failing_ready1 h hi]
      simp
    · have e2 : opk o.k = 2 := by omega
      simp only [if_neg e0, if_neg e1, if_pos e2]
      unfold DD.sync
      rw [failing_ready1 h (by omega)]
      simp
end Go.Proofs.Ytjiammhmeliogaa
