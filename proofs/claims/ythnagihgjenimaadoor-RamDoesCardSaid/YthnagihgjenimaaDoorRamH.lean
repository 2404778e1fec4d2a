/- icehouseref13: what is held, in a row; Find. -/
import Derived.Test.YthnagihgjenimaaDoorRefC
import Derived.Test.YthnagihgjenimaaDoorRamF
import Derived.Test.YthnagihgjenimaaDoorRamS
namespace Go.Proofs.YthnagihgjenimaaDoor
open Go.RowKit
set_option linter.unusedVariables false
set_option linter.unusedSimpArgs false
theorem own_formQ {w : World} {base e size n : Nat} {v : Value} {xs : List Value} (h : w.ownsRow base e size v n xs) : ∃ a c, v = .slice a n c := by
  rcases h.2 with ⟨rfl, rfl⟩ | ⟨g, cap, cur, rfl, _⟩
  · exact ⟨_, _, rfl⟩
  · exact ⟨_, _, rfl⟩
def HM.cells (h : HM) : List Value := [h.kv, h.vv, .int .u32 h.it.fg, .int .u32 h.it.ex, .int .u64 h.it.sq, .bool h.it.dt, .int .i64 (h.ch : Int), .int .i64 (h.cl : Int)]
def heldC (l : List HM) : List Value := l.flatMap HM.cells
theorem heldC_len (l : List HM) : (heldC l).length = l.length * 8 := by
  induction l with
  | nil => rfl
  | cons x r ih =>
    unfold heldC at *
    rw [List.flatMap_cons, List.length_append, ih, List.length_cons]
    show 8 + _ = _
    omega
theorem heldC_snoc (l : List HM) (x : HM) : heldC (l ++ [x]) = heldC l ++ x.cells := by simp [heldC]
theorem heldC_at : ∀ {l : List HM} {j : Nat} {y : HM} {i : Nat} {u : Value}, l[j]? = some y → y.cells[i]? = some u → (heldC l)[j * 8 + i]? = some u
  | [], j, y, i, u, h, _ => by simp at h
  | x :: r, 0, y, i, u, h, hu => by
    simp at h
    subst h
    have hi := (List.getElem?_eq_some_iff.1 hu).1
    unfold heldC
    rw [List.flatMap_cons, Nat.zero_mul, Nat.zero_add, List.getElem?_append_left hi]
    exact hu
  | x :: r, j + 1, y, i, u, h, hu => by
    have ih := heldC_at (l := r) (j := j) (by simpa using h) hu
    unfold heldC at ih ⊢
    have h8 : x.cells.length = 8 := rfl
    rw [List.flatMap_cons, List.getElem?_append_right (by rw [h8]; omega), h8, show (j + 1) * 8 + i - 8 = j * 8 + i by omega]
    exact ih
/-- The document's row of what is held. -/
structure HdAt (w : World) (v : Value) (l : List HM) : Prop where
  row : w.ownsRow 0 86 8 v l.length (heldC l)
  rd : ∀ h ∈ l, ItB w h.it h.kv h.vv
  ok : ∀ h ∈ l, h.it.Ok ∧ h.ch ≤ 1000000 ∧ h.cl ≤ 1000
  le : l.length ≤ 100000
theorem HdAt.quiet {w w' : World} {v : Value} {l : List HM} (h : HdAt w v l) (hk : Keeps (fun _ => False) w w') : HdAt w' v l := ⟨hk.own' h.row fun _ _ => id, fun x hx => (h.rd x hx).quiet hk, h.ok, h.le⟩
theorem HdAt.form {w : World} {v : Value} {l : List HM} (h : HdAt w v l) : ∃ a c, v = .slice a l.length c := own_formQ h.row
theorem HdAt.at {w : World} {v : Value} {l : List HM} (h : HdAt w v l) {j : Nat} {y : HM} (hy : l[j]? = some y) : ∃ g c, v = .slice (some ⟨g, 0, none⟩) l.length c ∧ g < w.heap.size ∧ ∀ w', Keeps (fun _ => False) w w' → ∀ i u, y.cells[i]? = some u → w'.cell? ⟨g, j * 8 + i, none⟩ = some u := by
  have hj := (List.getElem?_eq_some_iff.1 hy).1
  rcases h.row.2 with ⟨rfl, h0⟩ | ⟨g, cap, cur, rfl, _⟩
  · omega
  · have hg := own_heap h.row (g := g) rfl
    refine ⟨g, cap, rfl, hg.2.1, fun w' hk i u hu => ?_⟩
    have h0 := h.row.cells (g := g) rfl _ u (heldC_at hy hu)
    rw [add0] at h0
    rw [hk.cell (p := ⟨g, j * 8 + i, none⟩) hg.2.1 id]
    exact h0
def RFindP (l : List HM) (k : List Int) (w : World) (e : Ending) (w' : World) : Prop :=
  ∃ z : Int, e = .returned (.int .i64 z) ∧ Keeps (fun _ => False) w w' ∧ ((z = -1 ∧ ∀ h ∈ l, h.it.key ≠ k) ∨ ∃ xs x ys, l = xs ++ x :: ys ∧ x.it.key = k ∧ z = (xs.length : Int))
set_option maxRecDepth 100000 in
set_option maxHeartbeats 2000000 in
theorem rfind_any (ao : Option Addr) (an ac : Nat) (v kv : Value) (l : List HM) (k : List Int) (w : World) (h : HdAt w v l) (hk : SlB w kv k) (hkl : k.length ≤ 140737488351232) : Calls Tryd.prog 40 #[.agg #[.slice ao an ac, v], kv] w (RFindP l k w) := by
  have HH := Lib.hid h
  have HK := Lib.hid hk
  have hle := h.le
  obtain ⟨va, vc, hv⟩ := h.form
  subst hv
  obtain ⟨ka, kc, rfl, _⟩ := hk
  obtain ⟨W0, hW0⟩ : ∃ W0, W0 = w.alloc (.cells #[.slice ao an ac, .slice va l.length vc] 74) := ⟨_, rfl⟩
  have hk0 : Keeps (fun _ => False) w W0 := by rw [hW0]; exact (Keeps.refl _ _).alloc _
  have hb0 : Blk W0 w.heap.size 74 [.slice ao an ac, .slice va l.length vc] := by rw [hW0]; exact Blk.new w 74 _
  have HK0 := Lib.hid hk0
  have HB0 := Lib.hid hb0
  have HW0 := Lib.hid hW0
  obtain ⟨n, hn⟩ : ∃ n, n = l.length := ⟨_, rfl⟩
  obtain ⟨m, hm⟩ : ∃ m, m = k.length := ⟨_, rfl⟩
  have HN := Lib.hid hn
  rw [← hn] at hle HB0 HW0 ⊢
  rw [← hm]
  have HM' := Lib.hid hm
  clear h hk0 hb0 hW0 hn hm
  go_enter Tryd.func40, Tryd.ntmps40
  go_upto_region 1 with fail
  rw [← HW0.out]
  go_wp2_with fail
  go_loopw [5] (fun s5 wr => ∃ t : Nat, t ≤ n ∧ s5 = .int .i64 (t : Int) ∧ (∀ j y, j < t → l[j]? = some y → y.it.key ≠ k) ∧ Keeps (fun _ => False) W0 wr) (fun s5 _ => n - (intOf s5).toNat)
  case atStart => exact ⟨0, Nat.zero_le _, rfl, fun j y hj => absurd hj (Nat.not_lt_zero _), Keeps.refl _ _⟩
  case round =>
    obtain ⟨t, ht, rfl, hno, hkr⟩ := hrel
    have HNO := Lib.hid hno
    have HKR := Lib.hid hkr
    have hb := hkr.blk HB0.out id
    have b1 := hb.cell (i := 1) rfl
    clear hno hkr hb
    by_cases hlt : t < n
    · have hlt' : (t : Int) < (n : Int) := by omega
      obtain ⟨y, hy⟩ : ∃ y, l[t]? = some y := ⟨_, List.getElem?_eq_getElem (by rw [← HN.out]; exact hlt)⟩
      obtain ⟨g, c, hg, _, hc⟩ := HH.out.at hy
      injection hg with hg _ hg'
      subst hg hg'
      have c0 := hc _ (HK0.out.trans HKR.out) 0 _ rfl
      simp only [Nat.add_zero] at c0
      have hym := List.mem_of_getElem? hy
      have hrd := (HH.out.rd y hym).k.quiet (HK0.out.trans HKR.out)
      have hok := (HH.out.ok y hym).1
      have hs := bsame_any y.kv (.slice ka m kc) y.it.key k wr hrd (by rw [HM'.out]; exact HK.out.quiet (HK0.out.trans HKR.out)) (by have := hok.k2; omega) hkl
      obtain ⟨p, hp⟩ : ∃ p, p = decide (y.it.key = k) := ⟨_, rfl⟩
      rw [← hp] at hs
      have HP := Lib.hid hp
      obtain ⟨yk, yc, hyk, _⟩ := hrd
      rw [hyk] at c0 hs
      have HS := Lib.hid hs
      have HY := Lib.hid hy
      unfold BoolP at HS
      clear hc hym hok hs hp hyk hy
      go_wp2_with fail
      refine HS.out.mono ?_
      rintro e w2 ⟨rfl, hk2⟩
      have HK2 := Lib.hid (HKR.out.trans hk2)
      clear hk2 HS c0 b1
      cases p with
      | true =>
        go_wp2_with fail
        go_ret
        obtain ⟨xs, ys, e1, e2⟩ : ∃ xs ys, l = xs ++ y :: ys ∧ xs.length = t := by
          have hj := (List.getElem?_eq_some_iff.1 HY.out)
          obtain ⟨hj, he⟩ := hj
          refine ⟨l.take t, l.drop (t + 1), ?_, by simp; omega⟩
          rw [← he, ← List.drop_eq_getElem_cons hj, List.take_append_drop]
        exact ⟨_, rfl, HK0.out.trans HK2.out, .inr ⟨xs, y, ys, e1, of_decide_eq_true HP.out.symm, by rw [e2]⟩⟩
      | false =>
        go_wp2_with fail
        go_roundw
        case rel => exact ⟨t + 1, by omega, by go_num, fun j y' hj hy' => by
          by_cases e : j = t
          · subst e
            rw [HY.out] at hy'
            injection hy' with hy'
            subst hy'
            exact of_decide_eq_false HP.out.symm
          · exact HNO.out j y' (by omega) hy', HK2.out⟩
        case measure => simp [intOf]; omega
    · have hlt' : ¬ ((t : Int) < (n : Int)) := by omega
      obtain rfl : t = n := by omega
      go_wp2_with fail
      go_ret
      exact ⟨_, rfl, HK0.out.trans HKR.out, .inl ⟨rfl, fun h hh => by
        obtain ⟨j, hj⟩ := List.getElem?_of_mem hh
        exact HNO.out j h (by have := (List.getElem?_eq_some_iff.1 hj).1; have := HN.out; omega) hj⟩⟩
end Go.Proofs.YthnagihgjenimaaDoor
