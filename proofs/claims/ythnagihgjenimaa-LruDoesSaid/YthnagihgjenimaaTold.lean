/- told: a list's numbers, told twice. -/
import Derived.Test.YthnagihgjenimaaSeq
import Derived.RangeFuncNested
import Derived.Test.YthnagihgjenimaaNew
namespace Go.Proofs.Ythnagihgjenimaa
open Go.RowKit Go.Shelf
set_option linter.unusedVariables false
set_option linter.unusedSimpArgs false

attribute [local go_sem] Oper.semAt_some

/-- What All must give. -/
def AllGives (p : Value) (i : Int) (l : List Nat) (w : World) : Prop :=
  Calls Try.prog 26 #[p, .int .i64 i] w fun e w' => e = .returned (.func (.func 42) #[] #[.pointer (some ⟨w.heap.size, 0, none⟩)]) ∧ Keeps (fun _ => False) w w' ∧ AllBox w' w.heap.size w.heap.size l

/-- The box of what has come, and its row. -/
def Come (n₀ B : Nat) (pre : List Nat) (W : World) : Prop := ∃ v, Boxed W B 43 v ∧ W.ownsRow n₀ 3 1 v pre.length (nats pre) ∧ True

theorem come_own (n₀ B : Nat) : Own (Come n₀ B) := holdsRow_own n₀ B 43 3 1 (fun pre : List Nat => pre.length) nats (fun _ _ => True)

theorem func_there (m : Nat) (W : World) : (binOp BinOp.eql 58 (.func (.func 42) #[] #[.pointer (some ⟨m, 0, none⟩)]) .nilFunc).run Try.prog W = .ok (.bool false) W := by
  kernel_rfl
attribute [local go_sem] func_there

theorem prefix_snoc {pre l : List Nat} {x : Nat} (h : pre <+: l) (hlen : pre.length < l.length) : pre ++ [x] <+: l ↔ x = l.getD pre.length 0 := by
  obtain ⟨r, rfl⟩ := h
  cases r with
  | nil => simp at hlen
  | cons z r => simp [List.prefix_append_right_inj, List.cons_prefix_cons]

theorem putObj_keeps (E : World) (D : Nat) (o : Obj) : Keeps (fun k => k = D) E (E.putObj D o) :=
  (Keeps.of_grown (grownBy_putObj' E D o)).mono fun k _ h => by cases h; rfl

/-- On the way out three loops' blocks are shut. -/
theorem three_out {P : Program} {F : Fence} {n : Nat} {fn : Func} {tmps : Array Value} {R : Ending → World → Prop} {E : World} {D D2 D3 : Nat} (h12 : D ≠ D2) (h13 : D ≠ D3) (h23 : D2 ≠ D3)
    (k1 : E.heap[D]? = some (.deferred (some []))) (k2 : E.heap[D2]? = some (.deferred (some []))) (k3 : E.heap[D3]? = some (.deferred (some [])))
    (h : ∀ E', Keeps (fun k => k = D ∨ k = D2 ∨ k = D3) E E' → LeavesIn F n P fn tmps R [] .returning E') :
    LeavesInM F n P fn tmps R [{ target := .collected D3, args := #[] }, { target := .collected D2, args := #[] }, { target := .collected D, args := #[] }] .returning E := by
  have lt1 := (Array.getElem?_eq_some_iff.1 k1).1
  have lt2 := (Array.getElem?_eq_some_iff.1 k2).1
  have a1 := putObj_keeps E D3 (.deferred none)
  have a2 := putObj_keeps (E.putObj D3 (.deferred none)) D2 (.deferred none)
  have a3 := putObj_keeps ((E.putObj D3 (.deferred none)).putObj D2 (.deferred none)) D (.deferred none)
  have k2' := (a1.block D2 lt2 h23).trans k2
  have k1' := (a2.block D (Nat.lt_of_lt_of_le lt1 a1.size) h12).trans ((a1.block D lt1 h13).trans k1)
  refine ⟨by simp, .inl ⟨_, _, rfl, run_takeDeferred k3, by simp, .inl ⟨_, _, rfl, run_takeDeferred k2', by simp, .inl ⟨_, _, rfl, run_takeDeferred k1', ?_⟩⟩⟩⟩
  exact h _ (((a1.mono fun k _ e => .inr (.inr e)).trans (a2.mono fun k _ e => .inr (.inl e))).trans (a3.mono fun k _ e => .inl e))

theorem tail_below {w1 W V X : World} (hB : Below w1.heap.size w1 W) (hB2 : Below W.heap.size W V) (hX : Below V.heap.size V X) (h1 : w1.heap.size ≤ W.heap.size) (h2 : W.heap.size ≤ V.heap.size) : Below w1.heap.size w1 X :=
  hB.trans ((hB2.mono h1).trans (hX.mono (Nat.le_trans h1 h2)))

theorem come_form {W : World} {base : Nat} {v : Value} {l : List Nat} (h : W.ownsRow base 3 1 v l.length (nats l)) :
    (v = .slice none 0 0 ∧ l.length = 0) ∨ ∃ g cap, v = .slice (some ⟨g, 0, none⟩) l.length cap ∧ g < W.heap.size ∧ ∀ j, j < l.length → W.cell? ⟨g, j, none⟩ = some (.int .i64 ((l.getD j 0 : Nat) : Int)) := by
  obtain ⟨hlen, hr⟩ := h
  rcases hr with ⟨rfl, hz⟩ | ⟨g, cap, cur, rfl, _, hg, hcap, _, hcs, htake⟩
  · exact .inl ⟨rfl, hz⟩
  · refine .inr ⟨g, cap, rfl, (Array.getElem?_eq_some_iff.1 hg).1, fun j hj => ?_⟩
    rw [cell_of_row W g j cur 3 (0, 0) hg]
    have h1 : (cur.toList.take (l.length * 1))[j]? = (nats l)[j]? := by rw [htake]
    rw [List.getElem?_take_of_lt (by omega)] at h1
    rw [← Array.getElem?_toList, h1]
    exact nats_get hj

theorem told_end {w w1 W V X E' : World} {v : Value} {l : List Nat} {D D2 D3 : Nat} (hk : Keeps (fun _ => False) w w1) (hs : w.heap.size + 2 ≤ w1.heap.size) (hB : Below w1.heap.size w1 W) (hB2 : Below W.heap.size W V) (hX : Below V.heap.size V X)
    (hrow : W.ownsRow w1.heap.size 3 1 v l.length (nats l)) (hK : W.heap[D]? = some (.deferred (some []))) (hD : w1.heap.size + 1 ≤ D) (hD2 : W.heap.size + 1 ≤ D2) (hD3 : V.heap.size ≤ D3)
    (z1 : X.cell? ⟨w.heap.size, 0, none⟩ = some (.slice none 0 0)) (z2 : X.cell? ⟨w.heap.size + 1, 0, none⟩ = some (.bool false))
    (hE : Keeps (fun k => k = D ∨ k = D2 ∨ k = D3) (((X.setCell ⟨w.heap.size, 0, none⟩ v).setCell ⟨w.heap.size + 1, 0, none⟩ (.bool true)).drew) E') :
    E'.cell? ⟨w.heap.size, 0, none⟩ = some v ∧ E'.cell? ⟨w.heap.size + 1, 0, none⟩ = some (.bool true) ∧ E'.ownsRow w.heap.size 3 1 v l.length (nats l) ∧ Keeps (fun _ => False) w E' := by
  have s1 := hB.size
  have s2 := hB2.size
  have s3 := hX.size
  have hbb := tail_below hB hB2 hX s1 s2
  have hsz : (((X.setCell ⟨w.heap.size, 0, none⟩ v).setCell ⟨w.heap.size + 1, 0, none⟩ (.bool true)).drew).heap.size = X.heap.size := by simp [World.drew, World.setCell]
  have cA : (((X.setCell ⟨w.heap.size, 0, none⟩ v).setCell ⟨w.heap.size + 1, 0, none⟩ (.bool true)).drew).cell? ⟨w.heap.size, 0, none⟩ = some v := by
    have h1 := World.cell?_setCell_same' X ⟨w.heap.size, 0, none⟩ v (by rw [z1]; rfl)
    exact (World.cell?_of_block (a := ⟨w.heap.size, 0, none⟩) (Below.heap_setCell _ _ _ _ (by simp))).trans h1
  have cB : (((X.setCell ⟨w.heap.size, 0, none⟩ v).setCell ⟨w.heap.size + 1, 0, none⟩ (.bool true)).drew).cell? ⟨w.heap.size + 1, 0, none⟩ = some (.bool true) := by
    have h0 : (X.setCell ⟨w.heap.size, 0, none⟩ v).cell? ⟨w.heap.size + 1, 0, none⟩ = some (.bool false) := (World.cell?_of_block (a := ⟨w.heap.size + 1, 0, none⟩) (Below.heap_setCell _ _ _ _ (by simp))).trans z2
    exact World.cell?_setCell_same' _ ⟨w.heap.size + 1, 0, none⟩ (.bool true) (by rw [h0]; rfl)
  have hkX : Keeps (fun _ => False) w X := hk.trans ⟨hbb.os, hbb.tape, hbb.output, hbb.size, fun k hk' _ => hbb.block k hk'⟩
  have hkE0 : Keeps (fun _ => False) w (((X.setCell ⟨w.heap.size, 0, none⟩ v).setCell ⟨w.heap.size + 1, 0, none⟩ (.bool true)).drew) :=
    ((hkX.store (p := ⟨w.heap.size, 0, none⟩) (.inr (Nat.le_refl _)) _).store (p := ⟨w.heap.size + 1, 0, none⟩) (.inr (Nat.le_succ _)) _).drew
  refine ⟨(hE.cell (p := ⟨w.heap.size, 0, none⟩) (by rw [hsz]; show w.heap.size < _; omega) (by show ¬ (w.heap.size = D ∨ w.heap.size = D2 ∨ w.heap.size = D3); omega)).trans cA,
    (hE.cell (p := ⟨w.heap.size + 1, 0, none⟩) (by rw [hsz]; show w.heap.size + 1 < _; omega) (by show ¬ (w.heap.size + 1 = D ∨ w.heap.size + 1 = D2 ∨ w.heap.size + 1 = D3); omega)).trans cB, ?_, ?_⟩
  · obtain ⟨hl, hr⟩ := hrow
    refine ⟨hl, ?_⟩
    rcases hr with hn | ⟨g, cap, cur, rfl, hb, hg, rest⟩
    · exact .inl hn
    · have hgl : g < W.heap.size := (Array.getElem?_eq_some_iff.1 hg).1
      have hgD : g ≠ D := by
        rintro rfl
        rw [hK] at hg
        cases hg
      refine .inr ⟨g, cap, cur, rfl, by omega, ?_, rest⟩
      refine (hE.block g (by rw [hsz]; omega) (by omega)).trans ?_
      refine (Below.heap_setCell _ _ _ g (by show g ≠ w.heap.size + 1; omega)).trans ((Below.heap_setCell _ _ _ g (by show g ≠ w.heap.size; omega)).trans ?_)
      exact (hX.block g (by omega)).trans ((hB2.block g hgl).trans hg)
  · refine ⟨hE.os.trans hkE0.os, hE.tape.trans hkE0.tape, hE.output.trans hkE0.output, Nat.le_trans hkE0.size hE.size, fun k hk' _ => ?_⟩
    exact (hE.block k (Nat.lt_of_lt_of_le hk' hkE0.size) (by omega)).trans (hkE0.block k hk' id)

set_option maxRecDepth 100000 in
set_option maxHeartbeats 4000000 in
theorem told_law (p : Value) (i : Int) (l : List Nat) (hl : l.length ≤ 65536) (w : World) (hall : ∀ W, Keeps (fun _ => False) w W → AllGives p i l W) :
    Calls Try.prog 20 #[p, .int .i64 i] w fun e w' => ∃ sv, e = .returned (.tuple #[sv, .bool true]) ∧ w'.ownsRow w.heap.size 3 1 sv l.length (nats l) ∧ Keeps (fun _ => False) w w' := by
  refine (callsIn_wide (n := 3)).1 ?_
  have h1 : 1 ≤ 3 := by omega
  refine callsIn_of_wp_marks Try.func20 rfl trivial ?_ rfl
  simp only [Try.ntmps20, List.size_toArray, List.length_cons, List.length_nil, Nat.reduceAdd, Nat.reduceSub, Array.replicate_succ, Array.replicate_zero, List.push_toArray, List.append_toArray, List.nil_append, List.cons_append]
  obtain ⟨W0, hW0⟩ : ∃ W0, W0 = (w.alloc (.cells #[.slice none 0 0] 43)).alloc (.cells #[.bool false] 4) := ⟨_, rfl⟩
  have hs0 : W0.heap.size = w.heap.size + 2 := by subst hW0; simp
  have hk0 : Keeps (fun _ => False) w W0 := by subst hW0; exact ((Keeps.refl _ w).alloc _).alloc _
  have bs : Boxed W0 w.heap.size 43 (.slice none 0 0) := by subst hW0; exact (Boxed.new w 43 _).alloc _
  have br : Boxed W0 (w.heap.size + 1) 4 (.bool false) := by
    subst hW0
    have := Boxed.new (w.alloc (.cells #[.slice none 0 0] 43)) 4 (.bool false)
    rwa [World.size_alloc] at this
  have HA := Lib.hid (hall W0 hk0)
  have HK0 := Lib.hid hk0
  have BS := Lib.hid bs
  have BR := Lib.hid br
  clear hall hk0 bs br
  gi_wp2_with (refine ⟨trivial, ?_⟩; gi_at_call 26; rw [← hW0]; refine (callsIn_wide.2 HA.out).mono ?_; rintro e w1 ⟨rfl, hk1, hx1⟩; have hs1 := hk1.size; have HK1 := Lib.hid hk1; have HX1 := Lib.hid hx1; clear hk1 hx1 hW0)
  have hx1 := HX1.out
  rw [hs0] at hx1
  obtain ⟨i0, hi1, hz0, hz1, hz2⟩ := info_parts info3
  refine wpIn_rangeFunc_ownG rfl h1 (gf := 42) (lb := #[.pointer (some ⟨w.heap.size + 2, 0, none⟩)]) rfl trivial (enters_of Try.func42 (by kernel_rfl) rfl)
    (seq_stops Fence.wide (3 - 1) trivial rfl (by omega) (w.heap.size + 2) (w.heap.size + 2) l hl w1 (w1.alloc (.cells #[.slice none 0 0] 43)) hx1 ((Below.refl _ _).alloc (Nat.le_refl _) _)) belowK_t (belowK_b (by simp)) (Below.refl _ _) (fun _ => rfl)
    (fun pre W => Come w1.heap.size w1.heap.size pre W ∧ Below w1.heap.size w1 W) (fun _ _ _ => False) (OwnFrom.and ((come_own _ _).from _) (ownFrom_below (Nat.le_refl _) (by simp))) (fun _ _ _ _ _ hs _ _ => hs)
    ⟨⟨_, Boxed.new _ _ _, World.ownsRow_nil _ _ _ _, trivial⟩, (Below.refl _ _).alloc (Nat.le_refl _) _⟩ ?a1 ?assign ?body ?done ?stop
  case assign =>
    intro l x W K hK
    gi_wp2
    exact hK
  case stop =>
    rintro D c' pre W _ _ h _
    exact h.elim
  case body =>
    rintro l1 pre x W ⟨⟨v, hv, hrow, _⟩, hB⟩ hlen
    have hbc := hv.cell
    gi_wp2_with (gi_at_builtin; refine wpListIn_append_own _ rfl _ _ 43 rfl w1.heap.size 3 i0 (.int .i64 0) 1 8 Try.underlying43 hi1 hz0 hz1 hz2 rfl (by decide) _ _ _ rfl (hrow.alloc _) ⟨W.heap.size, 0, none⟩ 1 1 [.int .i64 ((x : Nat) : Int)] rfl rfl (cell_one_new _ _ _) (by simp [Value.oneCell']) (by unfold maxLen; omega) (by omega) (by have := hB.size; simp; omega) ?_; intro v' w2 hown' hgrow _; obtain ⟨g', cap', rfl⟩ := ownsRow_succ hown'; obtain ⟨hv1, hv2, hr2, hk2, hb2⟩ := hv.appended (by decide) hrow hB.size (Nat.le_refl _) hown' hgrow; have hc1 := hv1.cell; have hf1 := hv1.frozen)
    refine ⟨hk2.from _, hb2, ⟨_, hv2, ?_, trivial⟩, hB.trans hb2⟩
    rw [show nats (pre ++ [x]) = nats pre ++ [.int .i64 (x : Int)] by simp [nats], List.length_append]
    exact hr2
  case done =>
    rintro D ys W hD hys ⟨hcome, hB⟩ hK
    rw [hys] at hcome
    clear hys ys
    obtain ⟨v, hv, hrow, _⟩ := hcome
    have hD' : w1.heap.size + 1 ≤ D := by simpa using hD
    have hDl : D < W.heap.size := (Array.getElem?_eq_some_iff.1 hK).1
    have hbc := hv.cell
    have hsz := hB.size
    have hform := come_form hrow
    gi_wp2
    refine wpIn_rangeFunc_ownG rfl h1 (gf := 42) (lb := #[.pointer (some ⟨w.heap.size + 2, 0, none⟩)]) rfl trivial (enters_of Try.func42 (by kernel_rfl) rfl)
      (seq_stops Fence.wide (3 - 1) trivial rfl (by omega) (w.heap.size + 2) (w.heap.size + 2) l hl w1 (W.alloc (.cells #[.int .i64 0] 3)) hx1 (hB.alloc hsz _)) belowK_t (belowK_b (by simp; omega)) (Below.refl _ _) (fun _ => rfl)
      (fun pre V => (pre <+: l ∧ Boxed V W.heap.size 3 (.int .i64 (pre.length : Int))) ∧ Below W.heap.size W V) (fun c pre _ => c = .ret ∧ ¬ pre <+: l)
      (OwnFrom.and (OwnFrom.and (ownFrom_pure _ _) ((boxed_own W.heap.size 3 (fun pre : List Nat => .int .i64 (pre.length : Int))).from _)) (ownFrom_below (Nat.le_refl _) (by simp))) (fun _ => ownFrom_pure _ _)
      ⟨⟨List.nil_prefix, Boxed.new _ _ _⟩, (Below.refl _ _).alloc (Nat.le_refl _) _⟩ ?b1 ?assign2 ?body2 ?done2 ?stop2
    case assign2 =>
      intro l x W K hK
      gi_wp2
      exact hK
    case stop2 =>
      rintro D c' pre W _ h1 h2 _
      exact absurd h1 h2.2
    case body2 =>
      rintro l1 pre x V ⟨⟨hpre, hbox⟩, hB2⟩ hlen
      rcases hform with ⟨_, h0⟩ | ⟨g, cap, rfl, hg, hcs⟩
      · omega
      have q1 := (hB2.cell (p := ⟨w1.heap.size, 0, none⟩) (by have := hv.lt; exact this)).trans hbc
      have q2 := (hB2.cell (p := ⟨g, pre.length, none⟩) hg).trans (hcs pre.length hlen)
      have q3 := hbox.cell
      have q4 := hbox.frozen
      have z1 := (hB2.cell (p := ⟨w.heap.size, 0, none⟩) (by show w.heap.size < _; omega)).trans ((hB.cell (p := ⟨w.heap.size, 0, none⟩) (by show w.heap.size < _; omega)).trans ((HK1.out.cell (p := ⟨w.heap.size, 0, none⟩) (by show w.heap.size < _; omega) id).trans BS.out.cell))
      have z2 := (hB2.cell (p := ⟨w.heap.size + 1, 0, none⟩) (by show w.heap.size + 1 < _; omega)).trans ((hB.cell (p := ⟨w.heap.size + 1, 0, none⟩) (by show w.heap.size + 1 < _; omega)).trans ((HK1.out.cell (p := ⟨w.heap.size + 1, 0, none⟩) (by show w.heap.size + 1 < _; omega) id).trans BR.out.cell))
      have y1 := (hB2.frozen (p := ⟨w.heap.size, 0, none⟩) (by show w.heap.size < _; omega)).trans ((hB.frozen (p := ⟨w.heap.size, 0, none⟩) (by show w.heap.size < _; omega)).trans ((HK1.out.frozen (p := ⟨w.heap.size, 0, none⟩) (by show w.heap.size < _; omega) id).trans BS.out.frozen))
      have y2 := (hB2.frozen (p := ⟨w.heap.size + 1, 0, none⟩) (by show w.heap.size + 1 < _; omega)).trans ((hB.frozen (p := ⟨w.heap.size + 1, 0, none⟩) (by show w.heap.size + 1 < _; omega)).trans ((HK1.out.frozen (p := ⟨w.heap.size + 1, 0, none⟩) (by show w.heap.size + 1 < _; omega) id).trans BR.out.frozen))
      have hdec : decide (l.length ≤ pre.length) = false := decide_eq_false (by omega)
      obtain ⟨y, hy⟩ : ∃ y, y = l.getD pre.length 0 := ⟨_, rfl⟩
      rw [← hy] at q2
      have HY := Lib.hid hy
      have HP := Lib.hid hpre
      have HB2 := Lib.hid hB2
      have HBX := Lib.hid hbox
      clear hy hpre hB2 hbox hcs hrow
      by_cases hxy : y = x
      · subst hxy
        gi_wp2
        refine ⟨(KeepsOthers.setCell _ _ _).from _, (Below.refl w1.heap.size V).setCell (p := ⟨W.heap.size, 0, none⟩) hsz _, ⟨(prefix_snoc HP.out hlen).2 HY.out, ?_⟩, HB2.out.setCell (p := ⟨W.heap.size, 0, none⟩) (Nat.le_refl _) _⟩
        rw [List.length_append]
        exact HBX.out.set _
      · have hne : ((y : Int) != (x : Int)) = true := by rw [bne_iff_ne]; omega
        gi_wp2
        exact ⟨((KeepsOthers.setCell _ _ _).trans (KeepsOthers.setCell _ _ _)).from _, rfl, fun hp => hxy (HY.out.trans ((prefix_snoc HP.out hlen).1 hp).symm)⟩
    case done2 =>
      rintro D2 ys V hD2 hys ⟨⟨hp0, hbox⟩, hB2⟩ hK2
      rw [hys] at hbox
      clear hp0 hys ys
      have hD2' : W.heap.size + 1 ≤ D2 := by simpa using hD2
      have hD2l : D2 < V.heap.size := (Array.getElem?_eq_some_iff.1 hK2).1
      have hsz2 := hB2.size
      gi_wp2
      refine wpIn_rangeFunc_ownG rfl h1 (gf := 42) (lb := #[.pointer (some ⟨w.heap.size + 2, 0, none⟩)]) rfl trivial (enters_of Try.func42 (by kernel_rfl) rfl)
        (seq_stops Fence.wide (3 - 1) trivial rfl (by omega) (w.heap.size + 2) (w.heap.size + 2) l hl w1 V hx1 (hB.trans (hB2.mono hsz))) belowK_t (belowK_b (by omega)) (Below.refl _ _) (fun _ => rfl)
        (fun _ X => Below V.heap.size V X) (fun c _ X => c = .exit 4 ∧ Below V.heap.size V X)
        (ownFrom_below (Nat.le_refl _) (Nat.le_refl _)) (fun _ => OwnFrom.and (ownFrom_pure _ _) (ownFrom_below (Nat.le_refl _) (Nat.le_refl _)))
        (Below.refl _ _) ?c1 ?assign3 ?body3 ?done3 ?stop3
      case assign3 =>
        intro l x W K hK
        gi_wp2
        exact hK
      case body3 =>
        rintro l1 pre x X hX hlen
        gi_wp2
        exact ⟨KeepsFrom.refl _ _, rfl, hX⟩
      case stop3 =>
        rintro D3 c' pre X hD3 _ ⟨rfl, hX⟩ hK3
        have hbb := tail_below hB hB2 hX hsz hsz2
        have q1 := (hX.cell (p := ⟨w1.heap.size, 0, none⟩) (by show w1.heap.size < _; have := hv.lt; omega)).trans ((hB2.cell (p := ⟨w1.heap.size, 0, none⟩) (by show w1.heap.size < _; exact hv.lt)).trans hbc)
        have q3 := (hX.cell (p := ⟨W.heap.size, 0, none⟩) hbox.lt).trans hbox.cell
        have z1 := (hbb.cell (p := ⟨w.heap.size, 0, none⟩) (by show w.heap.size < _; omega)).trans ((HK1.out.cell (p := ⟨w.heap.size, 0, none⟩) (by show w.heap.size < _; omega) id).trans BS.out.cell)
        have z2 := (hbb.cell (p := ⟨w.heap.size + 1, 0, none⟩) (by show w.heap.size + 1 < _; omega)).trans ((HK1.out.cell (p := ⟨w.heap.size + 1, 0, none⟩) (by show w.heap.size + 1 < _; omega) id).trans BR.out.cell)
        have y1 := (hbb.frozen (p := ⟨w.heap.size, 0, none⟩) (by show w.heap.size < _; omega)).trans ((HK1.out.frozen (p := ⟨w.heap.size, 0, none⟩) (by show w.heap.size < _; omega) id).trans BS.out.frozen)
        have y2 := (hbb.frozen (p := ⟨w.heap.size + 1, 0, none⟩) (by show w.heap.size + 1 < _; omega)).trans ((HK1.out.frozen (p := ⟨w.heap.size + 1, 0, none⟩) (by show w.heap.size + 1 < _; omega) id).trans BR.out.frozen)
        rcases hform with ⟨hv0, h0⟩ | ⟨g, cap, hv0, hg, hcs⟩
        · subst hv0
          rw [h0] at q3
          gi_wp2
          gi_region
          all_goals gi_wp2
          refine three_out (by omega) (by omega) (by omega) ?k1 ?k2 ?k3 ?_
          case k1 => exact (((KeepsOthers.setCell X ⟨w.heap.size, 0, none⟩ (.slice none 0 0)).trans (KeepsOthers.setCell _ ⟨w.heap.size + 1, 0, none⟩ (.bool true))).same D _ ((hX.block D (by omega)).trans ((hB2.block D hDl).trans hK)) rfl)
          case k2 => exact (((KeepsOthers.setCell X ⟨w.heap.size, 0, none⟩ (.slice none 0 0)).trans (KeepsOthers.setCell _ ⟨w.heap.size + 1, 0, none⟩ (.bool true))).same D2 _ ((hX.block D2 hD2l).trans hK2) rfl)
          case k3 => exact (((KeepsOthers.setCell X ⟨w.heap.size, 0, none⟩ (.slice none 0 0)).trans (KeepsOthers.setCell _ ⟨w.heap.size + 1, 0, none⟩ (.bool true))).same D3 _ hK3 rfl)
          intro E' hE
          obtain ⟨e1, e2, e3, e4⟩ := told_end (HK0.out.trans HK1.out) (by omega) hB hB2 hX hrow hK hD' hD2' hD3 z1 z2 hE
          refine ⟨_, ?_, _, rfl, e3, e4⟩
          simp [results, Try.f20, go_sem, e1, e2]
        · subst hv0
          gi_wp2
          gi_region
          all_goals gi_wp2
          refine three_out (by omega) (by omega) (by omega) ?k1 ?k2 ?k3 ?_
          case k1 => exact (((KeepsOthers.setCell X ⟨w.heap.size, 0, none⟩ (.slice (some ⟨g, 0, none⟩) l.length cap)).trans (KeepsOthers.setCell _ ⟨w.heap.size + 1, 0, none⟩ (.bool true))).same D _ ((hX.block D (by omega)).trans ((hB2.block D hDl).trans hK)) rfl)
          case k2 => exact (((KeepsOthers.setCell X ⟨w.heap.size, 0, none⟩ (.slice (some ⟨g, 0, none⟩) l.length cap)).trans (KeepsOthers.setCell _ ⟨w.heap.size + 1, 0, none⟩ (.bool true))).same D2 _ ((hX.block D2 hD2l).trans hK2) rfl)
          case k3 => exact (((KeepsOthers.setCell X ⟨w.heap.size, 0, none⟩ (.slice (some ⟨g, 0, none⟩) l.length cap)).trans (KeepsOthers.setCell _ ⟨w.heap.size + 1, 0, none⟩ (.bool true))).same D3 _ hK3 rfl)
          intro E' hE
          obtain ⟨e1, e2, e3, e4⟩ := told_end (HK0.out.trans HK1.out) (by omega) hB hB2 hX hrow hK hD' hD2' hD3 z1 z2 hE
          refine ⟨_, ?_, _, rfl, e3, e4⟩
          simp [results, Try.f20, go_sem, e1, e2]
      case done3 =>
        rintro D3 ys X hD3 _ hX hK3
        have hbb := tail_below hB hB2 hX hsz hsz2
        have q1 := (hX.cell (p := ⟨w1.heap.size, 0, none⟩) (by show w1.heap.size < _; have := hv.lt; omega)).trans ((hB2.cell (p := ⟨w1.heap.size, 0, none⟩) (by show w1.heap.size < _; exact hv.lt)).trans hbc)
        have q3 := (hX.cell (p := ⟨W.heap.size, 0, none⟩) hbox.lt).trans hbox.cell
        have z1 := (hbb.cell (p := ⟨w.heap.size, 0, none⟩) (by show w.heap.size < _; omega)).trans ((HK1.out.cell (p := ⟨w.heap.size, 0, none⟩) (by show w.heap.size < _; omega) id).trans BS.out.cell)
        have z2 := (hbb.cell (p := ⟨w.heap.size + 1, 0, none⟩) (by show w.heap.size + 1 < _; omega)).trans ((HK1.out.cell (p := ⟨w.heap.size + 1, 0, none⟩) (by show w.heap.size + 1 < _; omega) id).trans BR.out.cell)
        have y1 := (hbb.frozen (p := ⟨w.heap.size, 0, none⟩) (by show w.heap.size < _; omega)).trans ((HK1.out.frozen (p := ⟨w.heap.size, 0, none⟩) (by show w.heap.size < _; omega) id).trans BS.out.frozen)
        have y2 := (hbb.frozen (p := ⟨w.heap.size + 1, 0, none⟩) (by show w.heap.size + 1 < _; omega)).trans ((HK1.out.frozen (p := ⟨w.heap.size + 1, 0, none⟩) (by show w.heap.size + 1 < _; omega) id).trans BR.out.frozen)
        rcases hform with ⟨hv0, h0⟩ | ⟨g, cap, hv0, hg, hcs⟩
        · subst hv0
          rw [h0] at q3
          gi_wp2
          gi_region
          all_goals gi_wp2
          refine three_out (by omega) (by omega) (by omega) ?k1 ?k2 ?k3 ?_
          case k1 => exact (((KeepsOthers.setCell X ⟨w.heap.size, 0, none⟩ (.slice none 0 0)).trans (KeepsOthers.setCell _ ⟨w.heap.size + 1, 0, none⟩ (.bool true))).same D _ ((hX.block D (by omega)).trans ((hB2.block D hDl).trans hK)) rfl)
          case k2 => exact (((KeepsOthers.setCell X ⟨w.heap.size, 0, none⟩ (.slice none 0 0)).trans (KeepsOthers.setCell _ ⟨w.heap.size + 1, 0, none⟩ (.bool true))).same D2 _ ((hX.block D2 hD2l).trans hK2) rfl)
          case k3 => exact (((KeepsOthers.setCell X ⟨w.heap.size, 0, none⟩ (.slice none 0 0)).trans (KeepsOthers.setCell _ ⟨w.heap.size + 1, 0, none⟩ (.bool true))).same D3 _ hK3 rfl)
          intro E' hE
          obtain ⟨e1, e2, e3, e4⟩ := told_end (HK0.out.trans HK1.out) (by omega) hB hB2 hX hrow hK hD' hD2' hD3 z1 z2 hE
          refine ⟨_, ?_, _, rfl, e3, e4⟩
          simp [results, Try.f20, go_sem, e1, e2]
        · subst hv0
          gi_wp2
          gi_region
          all_goals gi_wp2
          refine three_out (by omega) (by omega) (by omega) ?k1 ?k2 ?k3 ?_
          case k1 => exact (((KeepsOthers.setCell X ⟨w.heap.size, 0, none⟩ (.slice (some ⟨g, 0, none⟩) l.length cap)).trans (KeepsOthers.setCell _ ⟨w.heap.size + 1, 0, none⟩ (.bool true))).same D _ ((hX.block D (by omega)).trans ((hB2.block D hDl).trans hK)) rfl)
          case k2 => exact (((KeepsOthers.setCell X ⟨w.heap.size, 0, none⟩ (.slice (some ⟨g, 0, none⟩) l.length cap)).trans (KeepsOthers.setCell _ ⟨w.heap.size + 1, 0, none⟩ (.bool true))).same D2 _ ((hX.block D2 hD2l).trans hK2) rfl)
          case k3 => exact (((KeepsOthers.setCell X ⟨w.heap.size, 0, none⟩ (.slice (some ⟨g, 0, none⟩) l.length cap)).trans (KeepsOthers.setCell _ ⟨w.heap.size + 1, 0, none⟩ (.bool true))).same D3 _ hK3 rfl)
          intro E' hE
          obtain ⟨e1, e2, e3, e4⟩ := told_end (HK0.out.trans HK1.out) (by omega) hB hB2 hX hrow hK hD' hD2' hD3 z1 z2 hE
          refine ⟨_, ?_, _, rfl, e3, e4⟩
          simp [results, Try.f20, go_sem, e1, e2]
end Go.Proofs.Ythnagihgjenimaa
