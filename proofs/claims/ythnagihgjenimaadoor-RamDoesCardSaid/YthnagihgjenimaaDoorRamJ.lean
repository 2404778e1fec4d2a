/- icehouseref13: Touch, Clean. -/
import Derived.Test.YthnagihgjenimaaDoorRamI
import Derived.Test.YthnagihgjenimaaDoorRKeep
namespace Go.Proofs.YthnagihgjenimaaDoor
open Go.RowKit
set_option linter.unusedVariables false
set_option linter.unusedSimpArgs false
def zHeld : List Value := [.slice none 0 0, .slice none 0 0, .int .u32 0, .int .u32 0, .int .u64 0, .bool false, .int .i64 0, .int .i64 0]
theorem info86 : (Tryd.prog.info? 86).map (fun i => (i.zero.map (·.cells), i.size, i.bytes)) = some (some zHeld.toArray, 8, 88) := by kernel_rfl
theorem info86' : ∃ i z, Tryd.prog.info? 86 = some i ∧ i.zero = some z ∧ z.cells = zHeld.toArray ∧ i.size = 8 ∧ i.bytes = 88 := by
  have h := info86
  cases hi : Tryd.prog.info? 86 with
  | none => rw [hi] at h; cases h
  | some it =>
    rw [hi] at h
    cases hz : it.zero with
    | none => simp [hz] at h
    | some z =>
      simp [hz] at h
      exact ⟨it, z, rfl, hz, h⟩
theorem own_newH (w : World) (base : Nat) (cs : List Value) (hb : base ≤ w.heap.size) (hl : cs.length = 8) : (w.alloc (.cells cs.toArray 86)).ownsRow base 86 8 (.slice (some ⟨w.heap.size, 0, none⟩) 1 1) 1 cs :=
  ⟨by omega, .inr ⟨w.heap.size, 1, cs.toArray, rfl, hb, heap_alloc_new w _, Nat.le_refl _, by unfold maxLen; omega, by simp [hl], by simp only [Nat.one_mul]; exact List.take_of_length_le (by omega)⟩⟩
theorem own_low {w : World} {base base' e size n : Nat} {v : Value} {xs : List Value} (h : w.ownsRow base e size v n xs) (hb : base' ≤ base) : w.ownsRow base' e size v n xs :=
  ⟨h.1, h.2.imp id fun ⟨g, c, cur, e1, e2, r⟩ => ⟨g, c, cur, e1, Nat.le_trans hb e2, r⟩⟩
theorem new_cellsH (w : World) (cs : List Value) : ∀ j u, cs[j]? = some u → (w.alloc (.cells cs.toArray 86)).cell? ((⟨w.heap.size, 0, none⟩ : Addr).add j) = some u := fun j u hu => by
  rw [add0]
  exact (Blk.new w 86 cs).cell hu
/-- The held but one, up to t. -/
def skp (xs ys : List HM) (t : Nat) : List HM := if t ≤ xs.length then xs.take t else xs ++ ys.take (t - xs.length - 1)
theorem skp_zero (xs ys : List HM) : skp xs ys 0 = [] := by simp [skp]
theorem skp_at (xs : List HM) (ys : List HM) : skp xs ys (xs.length + 1) = skp xs ys xs.length := by
  unfold skp
  rw [if_neg (by omega), if_pos (Nat.le_refl _)]
  simp
theorem skp_step {xs ys : List HM} {x y : HM} {t : Nat} (hy : (xs ++ x :: ys)[t]? = some y) (ht : t ≠ xs.length) : skp xs ys (t + 1) = skp xs ys t ++ [y] := by
  unfold skp
  by_cases h : t < xs.length
  · rw [if_pos (by omega), if_pos (by omega), List.take_add_one]
    rw [List.getElem?_append_left h] at hy
    rw [hy]
    rfl
  · rw [if_neg (by omega), if_neg (by omega)]
    rw [List.getElem?_append_right (by omega)] at hy
    obtain ⟨k, rfl⟩ : ∃ k, t = xs.length + 1 + k := ⟨t - xs.length - 1, by omega⟩
    rw [show xs.length + 1 + k - xs.length = k + 1 by omega, List.getElem?_cons_succ] at hy
    rw [show xs.length + 1 + k + 1 - xs.length - 1 = k + 1 by omega, show xs.length + 1 + k - xs.length - 1 = k by omega, List.take_add_one, hy, List.append_assoc]
    rfl
theorem skp_all (xs : List HM) (x : HM) (ys : List HM) : skp xs ys (xs ++ x :: ys).length = xs ++ ys := by
  unfold skp
  rw [if_neg (by simp)]
  rw [show (xs ++ x :: ys).length - xs.length - 1 = ys.length by simp]
  simp
theorem skp_len {xs ys : List HM} {t : Nat} (h : t ≤ xs.length + ys.length + 1) : (skp xs ys t).length ≤ t := by
  unfold skp
  split
  · simp; omega
  · simp; omega
theorem held_one (y : HM) {w : World} (h : ItB w y.it y.kv y.vv) : ∀ u ∈ y.cells, u.oneCell' = true := by
  obtain ⟨⟨a, c, e1, _⟩, ⟨b, d, e2, _⟩⟩ := h
  intro u hu
  unfold HM.cells at hu
  rw [e1, e2] at hu
  simp at hu
  rcases hu with rfl | rfl | rfl | rfl | rfl | rfl | rfl | rfl <;> rfl
def RamP2 (av : Value) (l : List HM) (w : World) (e : Ending) (w' : World) : Prop := ∃ v, e = .returned (.agg #[av, v]) ∧ HdAt w' v l ∧ Keeps (fun _ => False) w w'
set_option maxRecDepth 100000 in
set_option maxHeartbeats 4000000 in
theorem rtouch_any (ao : Option Addr) (an ac : Nat) (v : Value) (xs ys : List HM) (x : HM) (w : World) (h : HdAt w v (xs ++ x :: ys)) : Calls Tryd.prog 45 #[.agg #[.slice ao an ac, v], .int .i64 (xs.length : Int)] w (RamP2 (.slice ao an ac) (x :: (xs ++ ys)) w) := by
  have HH := Lib.hid h
  have hle := h.le
  obtain ⟨va, vc, hv⟩ := h.form
  subst hv
  obtain ⟨W0, hW0⟩ : ∃ W0, W0 = (w.alloc (.cells #[.slice ao an ac, .slice va (xs ++ x :: ys).length vc] 74)).alloc (.cells #[.slice none 0 0, .slice none 0 0] 74) := ⟨_, rfl⟩
  have hk0 : Keeps (fun _ => False) w W0 := by rw [hW0]; exact ((Keeps.refl _ _).alloc _).alloc _
  have hb0 : Blk W0 w.heap.size 74 [.slice ao an ac, .slice va (xs ++ x :: ys).length vc] := by rw [hW0]; exact (Blk.new w 74 _).alloc _
  have hb1 : Blk W0 (w.heap.size + 1) 74 [.slice none 0 0, .slice none 0 0] := by
    rw [hW0]
    have := Blk.new (w.alloc (.cells #[.slice ao an ac, .slice va (xs ++ x :: ys).length vc] 74)) 74 [.slice none 0 0, .slice none 0 0]
    rwa [World.size_alloc] at this
  have hs0 : W0.heap.size = w.heap.size + 2 := by rw [hW0]; simp
  have HK0 := Lib.hid hk0
  have HB0 := Lib.hid hb0
  have HB1 := Lib.hid hb1
  have HW0 := Lib.hid hW0
  obtain ⟨n, hn⟩ : ∃ n, n = (xs ++ x :: ys).length := ⟨_, rfl⟩
  obtain ⟨i, hi⟩ : ∃ i, i = xs.length := ⟨_, rfl⟩
  have hin : i < n := by rw [hn, hi]; simp
  have HN := Lib.hid hn
  have HI := Lib.hid hi
  rw [← hn] at hle HB0 HW0 hb0 ⊢
  rw [← hi]
  obtain ⟨g, cc, hg, _, hc⟩ := h.at (j := xs.length) (y := x) (by simp)
  injection hg with hg _ hg'
  subst hg hg'
  have hrx := h.rd x (by simp)
  obtain ⟨⟨xk, xkc, hxk, _⟩, ⟨xv, xvc, hxv, _⟩⟩ := hrx
  have c0 := hc _ hk0 0 _ rfl
  have c1 := hc _ hk0 1 _ rfl
  have c2 := hc _ hk0 2 _ rfl
  have c3 := hc _ hk0 3 _ rfl
  have c4 := hc _ hk0 4 _ rfl
  have c5 := hc _ hk0 5 _ rfl
  have c6 := hc _ hk0 6 _ rfl
  have c7 := hc _ hk0 7 _ rfl
  rw [← hi] at c0 c1 c2 c3 c4 c5 c6 c7
  rw [hxk] at c0
  rw [hxv] at c1
  simp only [Nat.add_zero] at c0
  have b1 := hb0.cell (i := 1) rfl
  have HXK := Lib.hid hxk
  have HXV := Lib.hid hxv
  have hin' : (i : Int) < (n : Int) := by omega
  obtain ⟨i86, z86, hi1, hz0, hzc, hz1, hz2⟩ := info86'
  have hzs : z86.cells.size = 8 := by rw [hzc]; rfl
  clear h hk0 hb0 hb1 hW0 hn hi hc hxk hxv hzc
  go_enter Tryd.func45, Tryd.ntmps45
  go_upto_region 1 with fail
  rw [← HW0.out]
  go_upto_region 2 with fail
  have e8 : x.cells = [.slice xk x.it.key.length xkc, .slice xv x.it.val.length xvc, .int .u32 x.it.fg, .int .u32 x.it.ex, .int .u64 x.it.sq, .bool x.it.dt, .int .i64 (x.ch : Int), .int .i64 (x.cl : Int)] := by unfold HM.cells; rw [HXK.out, HXV.out]
  have hnew := own_newH W0 W0.heap.size x.cells (Nat.le_refl _) rfl
  rw [e8, hs0] at hnew
  have hk1 : Keeps (fun _ => False) W0 (W0.alloc (.cells #[.slice xk x.it.key.length xkc, .slice xv x.it.val.length xvc, .int .u32 x.it.fg, .int .u32 x.it.ex, .int .u64 x.it.sq, .bool x.it.dt, .int .i64 (x.ch : Int), .int .i64 (x.cl : Int)] 86)) := (Keeps.refl _ _).alloc _
  obtain ⟨W1, hW1⟩ : ∃ W1, W1 = W0.alloc (.cells #[.slice xk x.it.key.length xkc, .slice xv x.it.val.length xvc, .int .u32 x.it.fg, .int .u32 x.it.ex, .int .u64 x.it.sq, .bool x.it.dt, .int .i64 (x.ch : Int), .int .i64 (x.cl : Int)] 86) := ⟨_, rfl⟩
  rw [show (List.toArray [Value.slice xk x.it.key.length xkc, .slice xv x.it.val.length xvc, .int .u32 x.it.fg, .int .u32 x.it.ex, .int .u64 x.it.sq, .bool x.it.dt, .int .i64 (x.ch : Int), .int .i64 (x.cl : Int)]) = #[.slice xk x.it.key.length xkc, .slice xv x.it.val.length xvc, .int .u32 x.it.fg, .int .u32 x.it.ex, .int .u64 x.it.sq, .bool x.it.dt, .int .i64 (x.ch : Int), .int .i64 (x.cl : Int)] from rfl, ← hW1, ← e8] at hnew
  rw [← hW1] at hk1 ⊢
  have HNEW := Lib.hid hnew
  have HK1 := Lib.hid hk1
  have HS0 := Lib.hid hs0
  clear hnew hk1 hW1 e8 c0 c1 c2 c3 c4 c5 c6 c7 b1
  go_wp2_with fail
  go_loopw [5, 6] (fun s5 s6 wr => ∃ t : Nat, t ≤ n ∧ s6 = .int .i64 (t : Int) ∧ wr.ownsRow (w.heap.size + 2) 86 8 s5 ((skp xs ys t).length + 1) (heldC (x :: skp xs ys t)) ∧ Keeps (fun _ => False) W0 wr) (fun _ s6 _ => n - (intOf s6).toNat)
  case atStart =>
    refine ⟨0, Nat.zero_le _, rfl, ?_, HK1.out⟩
    rw [skp_zero]
    have := HNEW.out
    simpa [heldC] using this
  case round =>
    obtain ⟨t, ht, rfl, hrow, hkr⟩ := hrel
    have HROW := Lib.hid hrow
    have HKR := Lib.hid hkr
    obtain ⟨sa, sc, hs⟩ := own_formQ hrow
    have hb := hkr.blk HB0.out id
    have b0 := hb.cell (i := 0) rfl
    have b1 := hb.cell (i := 1) rfl
    by_cases hlt : t < n
    · have hlt' : (t : Int) < (n : Int) := by omega
      by_cases hti : t = i
      · subst hti
        clear hrow hkr hs hb b0
        go_wp2_with fail
        go_roundw
        case rel => exact ⟨t + 1, by omega, by go_num, by rw [HI.out, skp_at, ← HI.out]; exact HROW.out, HKR.out⟩
        case measure => simp [intOf]; omega
      · have hti' : ((t : Int) != (i : Int)) = true := by simp; omega
        obtain ⟨y, hy⟩ : ∃ y, (xs ++ x :: ys)[t]? = some y := ⟨_, List.getElem?_eq_getElem (by rw [← HN.out]; exact hlt)⟩
        obtain ⟨g', cc', hg, _, hc⟩ := HH.out.at hy
        injection hg with hg _ hg'
        injection hg with hg
        injection hg with hg
        subst hg hg'
        have hyr := HH.out.rd y (List.mem_of_getElem? hy)
        have hone := held_one y hyr
        obtain ⟨⟨yk, ykc, hyk, _⟩, ⟨yv, yvc, hyv, _⟩⟩ := hyr
        have c0 := hc _ (HK0.out.trans HKR.out) 0 _ rfl
        have c1 := hc _ (HK0.out.trans HKR.out) 1 _ rfl
        have c2 := hc _ (HK0.out.trans HKR.out) 2 _ rfl
        have c3 := hc _ (HK0.out.trans HKR.out) 3 _ rfl
        have c4 := hc _ (HK0.out.trans HKR.out) 4 _ rfl
        have c5 := hc _ (HK0.out.trans HKR.out) 5 _ rfl
        have c6 := hc _ (HK0.out.trans HKR.out) 6 _ rfl
        have c7 := hc _ (HK0.out.trans HKR.out) 7 _ rfl
        rw [hyk] at c0
        rw [hyv] at c1
        simp only [Nat.add_zero] at c0
        obtain ⟨cs, hcs⟩ : ∃ cs, cs = [Value.slice yk y.it.key.length ykc, .slice yv y.it.val.length yvc, .int .u32 y.it.fg, .int .u32 y.it.ex, .int .u64 y.it.sq, .bool y.it.dt, .int .i64 (y.ch : Int), .int .i64 (y.cl : Int)] := ⟨_, rfl⟩
        have hyc : cs = y.cells := by unfold HM.cells; rw [hyk, hyv]; exact hcs
        have hcl8 : cs.length = 8 := by rw [hcs]; rfl
        obtain ⟨W2, hW2⟩ : ∃ W2, W2 = wr.alloc (.cells #[.slice yk y.it.key.length ykc, .slice yv y.it.val.length yvc, .int .u32 y.it.fg, .int .u32 y.it.ex, .int .u64 y.it.sq, .bool y.it.dt, .int .i64 (y.ch : Int), .int .i64 (y.cl : Int)] 86) := ⟨_, rfl⟩
        have hb2 : Blk W2 wr.heap.size 86 cs := by rw [hW2, hcs]; exact Blk.new wr 86 _
        have hk2 : Keeps (fun _ => False) wr W2 := by rw [hW2]; exact (Keeps.refl _ _).alloc _
        have HNW : Hid (∀ j u, cs[j]? = some u → W2.cell? ((⟨wr.heap.size, 0, none⟩ : Addr).add j) = some u) := Lib.hid (fun j u hu => by rw [add0]; exact hb2.cell hu)
        have HONE : Hid (∀ u ∈ cs, u.oneCell' = true) := Lib.hid (by rw [hyc]; exact hone)
        have HR2 : Hid (W2.ownsRow (w.heap.size + 2) 86 8 u5 ((skp xs ys t).length + 1) (heldC (x :: skp xs ys t))) := Lib.hid (hk2.own' HROW.out (fun _ _ => id))
        have hlen : (skp xs ys t).length ≤ 100000 := by
          have h1 := HN.out
          simp at h1
          have := skp_len (xs := xs) (ys := ys) (t := t) (by omega)
          omega
        have hbs : w.heap.size + 2 ≤ W2.heap.size := by have h1 := HS0.out; have h2 := hkr.size; have h3 := hk2.size; omega
        have HYC := Lib.hid hyc
        have HK2 := Lib.hid (HKR.out.trans hk2)
        have HW2 := Lib.hid hW2
        have HY := Lib.hid hy
        obtain ⟨m, hm⟩ : ∃ m, m = (skp xs ys t).length := ⟨_, rfl⟩
        rw [← hm] at HR2 hlen
        have HM := Lib.hid hm
        clear hrow hkr hs hb b0 hc hone hyk hyv hcs hyc hb2 hk2 hW2 hy hm
        go_wp2_with (at_builtin; rw [← HW2.out]; refine wpList_append_own _ rfl _ _ 72 rfl (w.heap.size + 2) 86 i86 z86 8 88 Tryd.underlying72 hi1 hz0 hz1 hz2 hzs (by decide) _ _ _ rfl HR2.out ⟨wr.heap.size, 0, none⟩ 1 1 cs rfl (by omega) HNW.out HONE.out (by unfold maxLen; omega) (by omega) hbs ?_)
        intro v' w3 hown' hgrow _
        have HO3 := Lib.hid hown'
        have HK3 : Hid (Keeps (fun _ => False) W0 w3) := Lib.hid (((HK2.out.mono (S' := fun k => W0.heap.size ≤ k) fun _ _ h => h.elim).trans ((Keeps.of_grown hgrow).mono fun k _ e => by
          have h1 := (own_heap HR2.out e).1
          have h2 := HS0.out
          show W0.heap.size ≤ k
          omega)).mono fun k hk h => by
            have h : W0.heap.size ≤ k := h
            omega)
        clear hown' hgrow HNW HONE HR2
        go_wp2_with fail
        go_roundw
        case rel => exact ⟨t + 1, by omega, by go_num, by
          rw [skp_step HY.out (by rw [← HI.out]; exact hti), List.length_append, ← List.cons_append, heldC_snoc, ← HYC.out, ← HM.out]
          exact HO3.out, HK3.out⟩
        case measure => simp [intOf]; omega
    · have hlt' : ¬ ((t : Int) < (n : Int)) := by omega
      obtain rfl : t = n := by omega
      subst hs
      have hb1 := hkr.blk HB1.out id
      have y0 := hb1.cell (i := 0) rfl
      have y1 := hb1.cell (i := 1) rfl
      have f1 := hb.free 1
      have g0 := hb1.free 0
      have g1 := hb1.free 1
      have HB0' := Lib.hid hb
      have HB1' := Lib.hid hb1
      clear hb hb1 hrow hkr
      go_wp2_with fail
      have heq : skp xs ys t = xs ++ ys := by rw [HN.out]; exact skp_all xs x ys
      have hrow := HROW.out
      rw [heq] at hrow ⊢
      have hnl : (xs ++ ys).length + 1 = (x :: (xs ++ ys)).length := rfl
      rw [hnl] at hrow ⊢
      obtain ⟨sv, hsv⟩ : ∃ sv, sv = Value.slice sa (x :: (xs ++ ys)).length sc := ⟨_, rfl⟩
      rw [← hsv] at hrow ⊢
      have hs0 := HS0.out
      have hka := (Keeps.refl (fun k => k = w.heap.size ∨ k = w.heap.size + 1) wr).store (p := ⟨w.heap.size, 1, none⟩) (.inl (.inl rfl)) sv
      have hb1' := Blk.other HB1'.out (p := ⟨w.heap.size, 1, none⟩) (by show w.heap.size + 1 ≠ w.heap.size; omega) sv
      obtain ⟨ho, hk9⟩ := st2 hb1' (.slice ao an ac) sv
      have q0 := ho.cell (i := 0) rfl
      have q1 := ho.cell (i := 1) rfl
      have hkf := hka.trans (hk9.mono fun k _ e => .inr e)
      refine bodyPost_ret (v := .agg #[.slice ao an ac, sv]) (by simp [results, Tryd.f45, go_sem, q0, q1]) rfl ⟨sv, rfl, ?_, ?_⟩
      · have hall := ((HK0.out.trans HKR.out).mono (S' := fun k => k = w.heap.size ∨ k = w.heap.size + 1) fun _ _ h => h.elim).trans hkf
        have hin : ∀ h ∈ x :: (xs ++ ys), h ∈ xs ++ x :: ys := fun h hh => by
          simp at hh ⊢
          rcases hh with h | h | h <;> simp [h]
        refine ⟨own_low (hkf.own' hrow fun g hg e => ?_) (Nat.zero_le _), fun h hh => ?_, fun h hh => HH.out.ok h (hin h hh), ?_⟩
        · have h1 := (own_heap hrow hg).1
          rcases e with e | e <;> omega
        · exact (HH.out.rd h (hin h hh)).old hall (fun k e => by rcases e with e | e <;> omega)
        · have := HH.out.le
          simp at this ⊢
          omega
      · exact (((HK0.out.trans HKR.out).mono (S' := fun k => k = w.heap.size ∨ k = w.heap.size + 1) fun _ _ h => h.elim).trans hkf).mono fun k hk e => by
          rcases e with e | e <;> omega
end Go.Proofs.YthnagihgjenimaaDoor
