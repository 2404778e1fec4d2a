/- agree: a disk is as the document says. -/
import Derived.Test.YtjiammhmeliogaaBoth
namespace Go.Proofs.Ytjiammhmeliogaa
open Go.RowKit
set_option linter.unusedVariables false
set_option linter.unusedSimpArgs false

/-- The sectors, of which the first k are struck. -/
def struck (k : Nat) (p : List (Nat × List Int)) : List Value := List.replicate k (.int .i64 (-1)) ++ (ats p).drop k
theorem ats_len (p : List (Nat × List Int)) : (ats p).length = p.length := by simp [ats]
theorem struck_cell {k : Nat} {p : List (Nat × List Int)} {a : Nat × List Int} (h : p[k]? = some a) : (struck k p)[k]? = some (.int .i64 (a.1 : Int)) := by
  obtain ⟨hk, rfl⟩ := List.getElem?_eq_some_iff.1 h
  unfold struck
  rw [List.getElem?_append_right (by simp), List.length_replicate, Nat.sub_self, List.getElem?_drop, Nat.add_zero]
  simp [ats, hk]
theorem struck_next {k : Nat} {p : List (Nat × List Int)} (h : k < p.length) : (struck k p).set k (.int .i64 (-1)) = struck (k + 1) p := by
  unfold struck
  rw [List.set_append, if_neg (by simp), List.length_replicate, Nat.sub_self, List.drop_eq_getElem_cons (by rw [ats_len]; exact h), List.set_cons_zero, List.replicate_succ', List.append_assoc, List.singleton_append]

theorem own_set {w : World} {base : Nat} {e : TypeId} {g n cap : Nat} {xs : List Value} (h : w.ownsRow base e 1 (.slice (some ⟨g, 0, none⟩) n cap) n xs) {i : Nat} (u : Value) :
    (w.setCell ⟨g, i, none⟩ u).ownsRow base e 1 (.slice (some ⟨g, 0, none⟩) n cap) n (xs.set i u) := by
  obtain ⟨hl, hr⟩ := h
  refine ⟨by simpa using hl, ?_⟩
  rcases hr with ⟨h', _⟩ | ⟨g', cap', cur, e1, hb, hg, h1, h2, h3, h4⟩
  · cases h'
  · cases e1
    refine .inr ⟨g, cap, cur.setIfInBounds i u, rfl, hb, ?_, h1, h2, by simpa using h3, ?_⟩
    · simp [World.setCell, Array.getElem?_modify, hg]
    · rw [← h4]; simp [List.take_set]
theorem own_free {w : World} {base size : Nat} {e : TypeId} {g n cap : Nat} {xs : List Value} (h : w.ownsRow base e size (.slice (some ⟨g, 0, none⟩) n cap) n xs) (i : Nat) : w.frozen? ⟨g, i, none⟩ = false := by
  obtain ⟨_, _, cur, hc⟩ := own_heap h (g := g) rfl
  simp [World.frozen?, hc]

theorem flip_same {f : FuncId} {args : Array Value} {w : World} {v : Value} (h : Calls Try.prog f args w fun e w' => e = .returned v ∧ w = w') : Calls Try.prog f args w fun e w' => e = .returned v ∧ w' = w :=
  h.mono fun _ _ ⟨a, b⟩ => ⟨a, b.symm⟩
/-- What holds in agree's loop. -/
def AgR (w : World) (p : List (Nat × List Int)) (pv : Value) (A : List Value) (k : Nat) (wr : World) : Prop :=
  wr.ownsRow w.heap.size 3 1 pv p.length (struck k p) ∧ Blk wr w.heap.size 43 A ∧ Keeps (fun k => w.heap.size ≤ k) w wr

set_option maxRecDepth 100000 in
set_option maxHeartbeats 4000000 in
theorem agree_any (L : DL) (D : DD) (w : World) (h : DkAt w L D) (sa qa : Option Addr) (sc qc : Nat) (left fails : Int) (hq : w.ownsRow 0 101 65 (.slice qa D.p.length qc) D.p.length (pflat D.p)) (hn : D.n ≤ sc) :
    Calls Try.prog 25 #[L.ptr, .agg #[.slice sa D.n sc, .slice qa D.p.length qc, .bool D.dead, .int .i64 left, .int .i64 fails, .int .i64 D.ops]] w fun e w' => e = .returned (.bool true) ∧ Keeps (fun _ => False) w w' := by
  obtain ⟨A, hA⟩ : ∃ A : List Value, A = [.slice sa D.n sc, .slice qa D.p.length qc, .bool D.dead, .int .i64 left, .int .i64 fails, .int .i64 D.ops] := ⟨_, rfl⟩
  have HA := Lib.hid hA
  obtain ⟨W0, hW0⟩ : ∃ W0, W0 = w.alloc (.cells A.toArray 43) := ⟨_, rfl⟩
  have k0 : Keeps (fun _ => False) w W0 := by rw [hW0]; exact (Keeps.refl _ _).alloc _
  have b0 : Blk W0 w.heap.size 43 A := by rw [hW0]; exact Blk.new w 43 A
  have h0 := h.quiet k0
  have HL := Lib.hid fun d => flip_same (len_any L D (W0.drewN d) (h0.quiet ((Keeps.refl _ _).drewN d)))
  have HDD := Lib.hid fun d => flip_same (dead_any L D (W0.drewN d) (h0.quiet ((Keeps.refl _ _).drewN d)))
  have HO := Lib.hid fun d => flip_same (ops_any L D (W0.drewN d) (h0.quiet ((Keeps.refl _ _).drewN d)))
  have HP := Lib.hid fun W (hk : Keeps (fun _ => False) W0 W) => pending_any L D W (h0.quiet hk)
  have c0 : W0.cell? ⟨w.heap.size, 0, none⟩ = some (.slice sa D.n sc) := b0.cell (by rw [hA]; rfl)
  have c1 : W0.cell? ⟨w.heap.size, 1, none⟩ = some (.slice qa D.p.length qc) := b0.cell (by rw [hA]; rfl)
  have c2 : W0.cell? ⟨w.heap.size, 2, none⟩ = some (.bool D.dead) := b0.cell (by rw [hA]; rfl)
  have c5 : W0.cell? ⟨w.heap.size, 5, none⟩ = some (.int .i64 D.ops) := b0.cell (by rw [hA]; rfl)
  have n2 := h.n2
  have pn := h.pn
  have HPL := Lib.hid h.pl
  have HQ := Lib.hid hq
  have HK0 := Lib.hid k0
  have HB0 := Lib.hid b0
  have HW0 : Hid (W0 = w.alloc (.cells #[.slice sa D.n sc, .slice qa D.p.length qc, .bool D.dead, .int .i64 left, .int .i64 fails, .int .i64 D.ops] 43)) := Lib.hid (by rw [hW0, hA])
  obtain ⟨qap, qcp, hqe, hqc, hqm⟩ := own_slice hq
  injection hqe with e1 e0 e2
  clear e0
  subst e1
  subst e2
  unfold maxLen at hqm
  clear h h0 hq hA hW0 k0 b0
  unfold DL.ptr at *
  go_enter Try.func25, Try.ntmps25
  go_upto_region 1 with (fail)
  rw [← HW0.out]
  go_quiet (first | (go_at_call 26; exact Calls.quiet_of_same (HL.out _)) | (go_at_call 30; exact Calls.quiet_of_same (HDD.out _)) | (go_at_call 36; exact Calls.quiet_of_same (HO.out _)))
  go_wp2_with fail
  obtain ⟨W1, hW1⟩ : ∃ W1, W1 = W0.drewN nq := ⟨_, rfl⟩
  have k1 : Keeps (fun _ => False) W0 W1 := by rw [hW1]; exact (Keeps.refl _ _).drewN _
  rw [← hW1]
  clear hW1
  refine (HP.out W1 k1).mono ?_
  rintro e w2 ⟨rv, rfl, hrv, hk2⟩
  have b2 : Blk w2 w.heap.size 43 A := hk2.blk (k1.blk HB0.out id) id
  have d1 : w2.cell? ⟨w.heap.size, 1, none⟩ = some (.slice qa D.p.length qc) := b2.cell (by rw [HA.out]; rfl)
  have hrv0 : w2.ownsRow w.heap.size 3 1 rv D.p.length (struck 0 D.p) := own_base hrv (Nat.le_trans HK0.out.size k1.size)
  have HR0 : Hid (AgR w D.p rv A 0 w2) := Lib.hid ⟨hrv0, b2, ((HK0.out.trans k1).trans hk2).mono fun _ _ h => h.elim⟩
  obtain ⟨pa, pc, rfl, hpc1, hpc2⟩ := own_slice hrv
  unfold maxLen at hpc2
  clear hrv hrv0 hk2 k1 b2 c0 c1 c2 c5
  go_wp2_with fail
  go_loopw [6, 37] (fun _ i wr => ∃ k : Nat, k ≤ D.p.length ∧ i = .int .i64 k ∧ AgR w D.p (.slice pa D.p.length pc) A k wr) (fun _ i _ => D.p.length - (intOf i).toNat)
  case atStart => exact ⟨0, Nat.zero_le _, rfl, HR0.out⟩
  case round =>
    obtain ⟨k, hk, rfl, hr⟩ := hrel
    by_cases hlt : k < D.p.length
    · obtain ⟨a, ha⟩ : ∃ a, D.p[k]? = some a := ⟨_, List.getElem?_eq_getElem hlt⟩
      obtain ⟨g2, rfl, hg2, hrng⟩ := rpend_range HQ.out HPL.out ha
      obtain ⟨g, cp, e, _, _, _⟩ := own_some hr.1 (by omega)
      injection e with e1 e0 e2
      clear e0
      subst e1
      subst e2
      have y0 := (hr.2.2.cell (p := ⟨g2, k * 65 + 0, none⟩) hg2 (Nat.not_le.2 hg2)).trans (hrng 0 _ rfl)
      rw [Nat.add_zero] at y0
      have y1 : wr.cell? ⟨w.heap.size, 1, none⟩ = some (.slice (some ⟨g2, 0, none⟩) D.p.length qc) := hr.2.1.cell (by rw [HA.out]; rfl)
      have y2 := hr.1.cells (g := g) rfl k _ (struck_cell ha)
      rw [add0] at y2
      have y3 := own_free hr.1 k
      have hgw := (own_heap hr.1 rfl).2.1
      have h1 : (k : Int) < (D.p.length : Int) := by omega
      have h2 : (0 : Int) ≤ (k : Int) := by omega
      have HST : Hid (∀ W, Keeps (fun _ => False) wr W → AgR w D.p (.slice (some ⟨g, 0, none⟩) D.p.length pc) A (k + 1) (W.setCell ⟨g, k, none⟩ (.int .i64 (-1)))) := Lib.hid fun W hW => by
        have hks : Keeps (fun k => k = g) W (W.setCell ⟨g, k, none⟩ (.int .i64 (-1))) := (Keeps.refl _ _).at _ _
        have hb := own_ne_blk hr.2.1 hr.1 (by decide)
        have hgl := (own_heap hr.1 rfl).1
        refine ⟨?_, hks.blk (hW.blk hr.2.1 id) (fun e => hb (by rw [show w.heap.size = g from e]; rfl)), (hr.2.2.trans (hW.mono fun _ _ h => h.elim)).trans (hks.mono fun k _ e => by rw [show k = g from e]; exact hgl)⟩
        have := own_set (i := k) (hW.own hr.1 fun _ _ => id) (.int .i64 (-1))
        rwa [struck_next hlt] at this
      clear hr ha hrng
      go_wp2_with fail
      go_quiet (fail)
      go_wp2_with fail
      go_roundw
      case rel => exact ⟨k + 1, by omega, by go_num, HST.out _ ((Keeps.refl _ _).drewN _)⟩
      case measure => simp [intOf]; omega
    · obtain rfl : k = D.p.length := by omega
      have HK := Lib.hid hr.2.2.from
      clear hr
      go_wp2_with fail
      go_ret
      exact ⟨rfl, HK.out⟩
end Go.Proofs.Ytjiammhmeliogaa
