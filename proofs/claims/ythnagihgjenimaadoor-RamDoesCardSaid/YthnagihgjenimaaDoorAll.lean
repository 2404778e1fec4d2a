/- All: the numbers of a list, told by a function value; what it tells to a loop. -/
import Derived.Test.YthnagihgjenimaaDoorLNil
import Derived.Test.YthnagihgjenimaaDoorNew
import Derived.Maps.AppendAt
import Derived.RangeFuncBox
namespace Go.Proofs.YthnagihgjenimaaDoor
open Go.RowKit
set_option linter.unusedVariables false

theorem chain_at (f : List Nat) : ∀ (xs : List Nat) (a b q : Nat), Chain f a xs b → q ≤ xs.length → f.getD ((a :: xs).getD q 0) 0 = (xs ++ [b]).getD q 0
  | [], a, b, q, h, hq => by
    obtain rfl : q = 0 := by simpa using hq
    exact h
  | x :: r, a, b, 0, h, hq => h.1
  | x :: r, a, b, q + 1, h, hq => by
    have := chain_at f r x b q h.2 (by simpa using hq)
    simpa using this

/-- How many elements the slice has that a cell holds. -/
def lenAt (w : World) (B : Nat) : Nat := match w.cell? ⟨B, 0, none⟩ with
  | some (.slice _ n _) => n
  | _ => 0

/-- Block B holds a slice of the numbers l, whose row lies at base or beyond. -/
def AllBox (w : World) (base B : Nat) (l : List Nat) : Prop := ∃ v, Boxed w B 28 v ∧ w.ownsRow base 3 1 v l.length (nats l)

theorem AllBox.form {w : World} {base B : Nat} {l : List Nat} (h : AllBox w base B l) : ∃ A c, w.cell? ⟨B, 0, none⟩ = some (.slice A l.length c) ∧ lenAt w B = l.length := by
  obtain ⟨v, hb, hr⟩ := h
  have hc := hb.cell
  rcases hr.2 with ⟨rfl, h0⟩ | ⟨g, cap, cur, rfl, _⟩
  · exact ⟨none, 0, by rw [hc, h0], by unfold lenAt; rw [hc]; exact h0.symm⟩
  · exact ⟨_, cap, hc, by unfold lenAt; rw [hc]⟩

set_option maxRecDepth 100000 in
/-- All of nil lists. -/
theorem all_nil (i : Int) (w : World) :
    Calls Tryd.prog 74 #[.pointer none, .int .i64 i] w fun e w' => e = .returned (.func (.func 86) #[] #[.pointer (some ⟨w.heap.size, 0, none⟩)]) ∧ Keeps (fun _ => False) w w' ∧ AllBox w' w.heap.size w.heap.size [] := by
  go_enter Tryd.func74, Tryd.ntmps74
  go_wp2_with (go_at_call 81; refine (ready_nil i 0 _).mono ?_; rintro e w' ⟨rfl, rfl⟩)
  go_ret
  refine ⟨rfl, (Keeps.refl _ _).alloc _, _, Boxed.new _ _ _, World.ownsRow_nil _ _ _ _⟩

set_option maxRecDepth 100000 in
/-- All where there is no such list. -/
theorem all_bad (k : LK) (w : World) (ls : Nat → List Nat) (h : k.Has w ls) (i : Int) (ho : ¬ okLN k i 0) :
    Calls Tryd.prog 74 #[k.ptr, .int .i64 i] w fun e w' => e = .returned (.func (.func 86) #[] #[.pointer (some ⟨w.heap.size, 0, none⟩)]) ∧ Keeps (fun _ => False) w w' ∧ AllBox w' w.heap.size w.heap.size [] := by
  have H : Hid (k.Has (w.alloc (.cells #[.slice none 0 0] 28)) ls) := Lib.hid (h.quiet ((Keeps.refl _ _).alloc _))
  have HO := Lib.hid ho
  clear h ho
  unfold LK.ptr at *
  go_enter Tryd.func74, Tryd.ntmps74
  go_wp2_with (go_at_call 81; refine (ready_no k _ ls H.out i 0 HO.out).mono ?_; rintro e w' ⟨rfl, rfl⟩)
  go_ret
  refine ⟨rfl, (Keeps.refl _ _).alloc _, _, Boxed.new _ _ _, World.ownsRow_nil _ _ _ _⟩

theorem nats_take_succ (l : List Nat) (q : Nat) (hq : q < l.length) : nats (l.take (q + 1)) = nats (l.take q) ++ [.int .i64 ((l.getD q 0 : Nat) : Int)] := by
  unfold nats
  rw [List.take_succ_eq_append_getElem hq, List.map_append, List.getD_eq_getElem?_getD, List.getElem?_eq_getElem hq]
  rfl

set_option maxRecDepth 100000 in
/-- All of list i. -/
theorem all_ok (k : LK) (w : World) (ls : Nat → List Nat) (h : k.Has w ls) (i : Nat) (hi : i < k.n) :
    Calls Tryd.prog 74 #[k.ptr, .int .i64 i] w fun e w' => e = .returned (.func (.func 86) #[] #[.pointer (some ⟨w.heap.size, 0, none⟩)]) ∧ Keeps (fun _ => False) w w' ∧ AllBox w' w.heap.size w.heap.size (ls i) := by
  have hk0 := (Keeps.refl (fun _ => False) w).alloc (.cells #[.slice none 0 0] 28)
  have HK0 := Lib.hid hk0
  have H : Hid (k.Has (w.alloc (.cells #[.slice none 0 0] 28)) ls) := Lib.hid (h.quiet hk0)
  have HO : Hid (okLN k i 0) := Lib.hid ⟨by omega, by omega, by omega, by have := h.bounds; omega⟩
  have hlen := h.len_le hi
  have HLT := Lib.hid h.lt
  obtain ⟨l, hl⟩ : ∃ l, l = ls i := ⟨_, rfl⟩
  rw [← hl] at hlen ⊢
  obtain ⟨nx, ah, wh, ln, h1, h2⟩ := H.out
  have hN := h1.N2
  have hn := h1.n2
  have hat : Hid (∀ q, q ≤ l.length → nx.getD (((k.N + i) :: l).getD q 0) 0 = (l ++ [k.N + i]).getD q 0) := by
    refine Lib.hid fun q hq => ?_
    have := chain_at nx (ls i) (k.N + i) (k.N + i) q (h2.fwd i hi)
    rw [← hl] at this
    exact this hq
  have hlt : Hid (∀ q, q < l.length → l.getD q 0 < k.N) := by
    refine Lib.hid fun q hq => ?_
    have := h2.lt i (l.getD q 0) hi (by rw [← hl]; simp [List.getD_eq_getElem?_getD, hq])
    exact this
  have HA := Lib.hid h1
  have hf := h1.fields
  have hnx0 := h1.getNx (i := k.N + i) (show k.N + i < k.N + k.n by omega)
  have e0 := hat.out 0 (by omega)
  simp only [List.getD_cons_zero] at e0
  dsimp only [LK.full] at hf hnx0 hN hn
  rw [e0] at hnx0
  obtain ⟨o0, o1, o2, o3⟩ := hf
  obtain ⟨i0, hi1, hz0, hz1, hz2⟩ := info_parts info3
  have hhead : Hid (∀ (W : World) (q : Nat), k.Has W ls → Calls Tryd.prog 85 #[.pointer (some ⟨k.B, 0, none⟩), .int .i64 i] (W.drewN q) fun e w' => e = .returned (.int .i64 ((k.N : Int) + (i : Int))) ∧ w' = W.drewN q) :=
    Lib.hid (fun W q hW => (head_call k (W.drewN q) ls (hW.quiet ((Keeps.refl _ _).drewN q)) i hi).mono (by rintro e w' ⟨rfl, rfl⟩; exact ⟨rfl, rfl⟩))
  obtain ⟨x0, hx0⟩ : ∃ x0, x0 = (l ++ [k.N + i]).getD 0 0 := ⟨_, rfl⟩
  rw [← hx0] at hnx0
  have HX0 := Lib.hid hx0
  clear h h1 h2 e0 hx0 hk0
  have HL := Lib.hid hl
  clear hl
  unfold LK.ptr
  go_enter Tryd.func74, Tryd.ntmps74
  go_wp2_with (first | (go_at_call 81; refine (ready_ok k _ ls H.out i 0 HO.out).mono ?_; rintro e w' ⟨rfl, rfl⟩))
  go_quiet ((go_at_call 85; refine Calls.quiet_of_same (hhead.out _ _ H.out)))
  obtain ⟨W0, hW0⟩ : ∃ W0, W0 = (w.alloc (.cells #[.slice none 0 0] 28)).drewN nq := ⟨_, rfl⟩
  have HW : Hid (k.Has W0 ls ∧ Keeps (fun _ => False) w W0 ∧ AllBox W0 w.heap.size w.heap.size []) := Lib.hid (by
    subst hW0
    exact ⟨H.out.quiet ((Keeps.refl _ _).drewN _), (HK0.out).drewN _, _, Boxed.new _ _ _, World.ownsRow_nil _ _ _ _⟩)
  rw [← hW0]
  clear hW0 o0 o1 o2 o3 hnx0 HA H HK0
  go_wp2_with fail
  go_loopw [6] (fun i1 wr => ∃ (q x : Nat), q ≤ l.length ∧ i1 = .int .i64 (x : Int) ∧ x = (l ++ [k.N + i]).getD q 0 ∧ k.Has wr ls ∧ Keeps (fun _ => False) w wr ∧ AllBox wr w.heap.size w.heap.size (l.take q))
    (fun _ wr => l.length - lenAt wr w.heap.size)
  case atStart => exact ⟨0, x0, by omega, rfl, HX0.out, HW.out.1, HW.out.2.1, by simpa using HW.out.2.2⟩
  case round =>
    obtain ⟨q, x, hq, rfl, hx, hh, hk, hbox⟩ := hrel
    have hM := hbox.form.choose_spec.choose_spec.2
    obtain ⟨v, hb, hrow⟩ := hbox
    have hql : (l.take q).length = q := by simp; omega
    rw [hql] at hrow hM
    have hbc := hb.cell
    have hsz := hk.size
    have HH := Lib.hid hh
    have HK := Lib.hid hk
    obtain ⟨nx1, ah1, wh1, ln1, h1, h2⟩ := hh
    obtain ⟨o0, o1, o2, o3⟩ := h1.fields
    dsimp only [LK.full] at o0 o1 o2 o3
    have hwlt : w.heap.size < wr.heap.size := hb.lt
    by_cases hlt1 : q < l.length
    · have hxl : x = l.getD q 0 := by
        rw [hx]; simp [List.getD_eq_getElem?_getD, List.getElem?_append_left hlt1]
      have hxN : x < k.N := by rw [hxl]; exact hlt.out q hlt1
      have HX := Lib.hid hxl
      clear hx hxl h1 h2
      go_wp2_with (at_builtin; refine wpList_append_own _ rfl _ _ 28 rfl w.heap.size 3 i0 (.int .i64 0) 1 8 Tryd.underlying28 hi1 hz0 hz1 hz2 rfl (by decide) _ _ _ rfl (hrow.alloc _) ⟨wr.heap.size, 0, none⟩ 1 1 [.int .i64 (x : Int)] rfl rfl (cell_one_new _ _ _) (by simp [Value.oneCell']) (by unfold maxLen; omega) (by omega) (by simp; omega) ?_)
      intro v' w1 hown' hgrow _
      obtain ⟨g', cap', rfl⟩ := ownsRow_succ hown'
      obtain ⟨hv1, hv2, hr2, hk2, hb2⟩ := hb.appended (by decide) hrow hsz (Nat.le_refl _) hown' hgrow
      have hc1 := hv1.cell
      have hf1 := hv1.frozen
      obtain ⟨w2, hw2⟩ : ∃ w2, w2 = w1.setCell ⟨w.heap.size, 0, none⟩ (.slice (some ⟨g', 0, none⟩) (q + 1) cap') := ⟨_, rfl⟩
      rw [← hw2] at hv2 hr2 hk2 hb2
      have hh2 : k.Has w2 ls := HH.out.keep (Keeps.of_below hb2) (Nat.not_le.2 HLT.out.1) (Nat.not_le.2 (HLT.out.2 _ (.inl rfl))) (Nat.not_le.2 (HLT.out.2 _ (.inr (.inl rfl)))) (Nat.not_le.2 (HLT.out.2 _ (.inr (.inr (.inl rfl))))) (Nat.not_le.2 (HLT.out.2 _ (.inr (.inr (.inr rfl)))))
      have hkk : Keeps (fun _ => False) w w2 := by
        refine ⟨hb2.os.trans HK.out.os, hb2.tape.trans HK.out.tape, hb2.output.trans HK.out.output, Nat.le_trans hsz hb2.size, fun j hj _ => ?_⟩
        exact (hb2.block j hj).trans (HK.out.block j hj id)
      have hbox2 : AllBox w2 w.heap.size w.heap.size (l.take (q + 1)) := by
        refine ⟨_, hv2, ?_⟩
        rw [show (l.take (q + 1)).length = q + 1 by simp; omega, nats_take_succ l q hlt1, ← HX.out]
        exact hr2
      have hM2 : lenAt w2 w.heap.size = q + 1 := by unfold lenAt; rw [hv2.cell]
      have HH2 := Lib.hid hh2
      obtain ⟨nx2, ah2, wh2, ln2, h3, h4⟩ := hh2
      have hnx := h3.getNx (i := x) (show x < k.N + k.n by omega)
      have hch := chain_at nx2 (ls i) (k.N + i) (k.N + i) (q + 1) (h4.fwd i hi)
      rw [← HL.out] at hch
      have hch := hch (by omega)
      simp only [List.getD_cons_succ] at hch
      rw [← HX.out] at hch
      obtain ⟨p0, p1, p2, p3⟩ := h3.fields
      dsimp only [LK.full] at p0 p1 p2 p3 hnx
      rw [hch] at hnx
      obtain ⟨y, hy⟩ : ∃ y, y = (l ++ [k.N + i]).getD (q + 1) 0 := ⟨_, rfl⟩
      rw [← hy] at hnx
      have HY := Lib.hid hy
      have HKK := Lib.hid hkk
      have HB2 := Lib.hid hbox2
      clear hy hch h3 h4 hkk hbox2 hown' hgrow hrow hb hbc hk o0 o1 o2 o3 hk2 hb2 hr2 hv2 hv1
      subst hw2
      go_wp2_with fail
      go_roundw
      case rel => exact ⟨q + 1, y, by omega, rfl, HY.out, HH2.out, HKK.out, HB2.out⟩
      case measure => omega
    · obtain rfl : q = l.length := by omega
      have hxN : x = k.N + i := by rw [hx]; simp [List.getD_eq_getElem?_getD]
      subst hxN
      clear hx h1 h2
      go_wp2_with fail
      go_ret
      exact ⟨rfl, HK.out, v, hb, by rw [← hql]; simpa using hrow⟩
end Go.Proofs.YthnagihgjenimaaDoor
