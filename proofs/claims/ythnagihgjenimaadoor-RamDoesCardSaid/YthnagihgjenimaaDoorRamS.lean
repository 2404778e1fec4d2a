/- ram: two rows of bytes are the same; two items are the same. -/
import Derived.Test.YthnagihgjenimaaDoorRamR
import Derived.BigQuiet
namespace Go.Proofs.YthnagihgjenimaaDoor
open Go.RowKit
set_option linter.unusedVariables false
set_option linter.unusedSimpArgs false
def BoolP (b : Bool) (w : World) (e : Ending) (w' : World) : Prop := e = .returned (.bool b) ∧ Keeps (fun _ => False) w w'
theorem Row.cellQ {w w' : World} {ad : Addr} {n : Nat} {xs : List Int} (h : Row .u8 w (some ad) n xs) (hk : Keeps (fun _ => False) w w') {i : Nat} (hi : i < n) : w'.cell? (ad.add i) = some (.int .u8 (xs[i]?.getD 0)) := by
  obtain ⟨hl, hr⟩ := h
  have hi' : i < xs.length := by omega
  obtain ⟨a', e, hc⟩ := hr i hi
  injection e with e
  subst e
  rw [hk.cell (cell_lt hc) id, hc]
  simp [hi']
set_option maxRecDepth 100000 in
set_option maxHeartbeats 1000000 in
theorem bsame_any (v1 v2 : Value) (xs ys : List Int) (w : World) (h1 : SlB w v1 xs) (h2 : SlB w v2 ys) (hl : xs.length ≤ 140737488351232) (hl2 : ys.length ≤ 140737488351232) : Calls Tryd.prog 70 #[v1, v2] w (BoolP (decide (xs = ys)) w) := by
  obtain ⟨a, c, rfl, hr⟩ := h1
  obtain ⟨b, d, rfl, hq⟩ := h2
  have HR := Lib.hid hr
  have HQ := Lib.hid hq
  by_cases hne : xs.length = ys.length
  · have HNE := Lib.hid hne
    rw [← hne]
    obtain ⟨n, hn⟩ : ∃ n, n = xs.length := ⟨_, rfl⟩
    have HN := Lib.hid hn
    rw [← hn] at hl ⊢
    clear hr hq hne hn
    go_enter Tryd.func70, Tryd.ntmps70
    go_wp2_with fail
    go_loopw [5] (fun i wr => ∃ t : Nat, t ≤ n ∧ i = .int .i64 t ∧ xs.take t = ys.take t ∧ Keeps (fun _ => False) w wr) (fun i _ => n - (intOf i).toNat)
    case atStart => exact ⟨0, Nat.zero_le _, rfl, by simp, Keeps.refl _ _⟩
    case round =>
      obtain ⟨t, ht, rfl, he, hk⟩ := hrel
      by_cases hlt : t < n
      · obtain ⟨ad, ha, _⟩ := HR.out.2 t (by have := HN.out; omega)
        obtain ⟨bd, hb, _⟩ := HQ.out.2 t (by have := HN.out; have := HNE.out; omega)
        subst ha hb
        have c1 := HR.out.cellQ hk (i := t) (by have := HN.out; omega)
        have c2 := HQ.out.cellQ hk (i := t) (by have := HN.out; have := HNE.out; omega)
        have hx1 : xs[t]? = some (xs[t]?.getD 0) := by
          have : t < xs.length := by have := HN.out; omega
          simp [this]
        have hy1 : ys[t]? = some (ys[t]?.getD 0) := by
          have : t < ys.length := by have := HN.out; have := HNE.out; omega
          simp [this]
        have HX1 := Lib.hid hx1
        have HY1 := Lib.hid hy1
        have HE := Lib.hid he
        have HK := Lib.hid hk
        obtain ⟨x, hx⟩ : ∃ x, x = xs[t]?.getD 0 := ⟨_, rfl⟩
        obtain ⟨y, hy⟩ : ∃ y, y = ys[t]?.getD 0 := ⟨_, rfl⟩
        rw [← hx] at c1 HX1
        rw [← hy] at c2 HY1
        have hlt' : (t : Int) < (n : Int) := by omega
        clear hx1 hy1 hx hy he hk
        go_upto_region 6 with fail
        by_cases hxy : x = y
        · subst hxy
          go_region
          all_goals
            go_wp2_with fail
            go_roundw
            case rel => exact ⟨t + 1, by omega, by go_num, by rw [List.take_add_one, List.take_add_one, HE.out, HX1.out, HY1.out], HK.out.drew⟩
            case measure => simp [intOf]; omega
        · have e1 : (x == y) = false := by simpa using hxy
          have HXY := Lib.hid hxy
          go_region
          all_goals
            go_wp2_with fail
            go_ret
            refine ⟨?_, HK.out.drew⟩
            have : xs ≠ ys := fun e => by
              have h1 := HX1.out
              rw [e, HY1.out] at h1
              exact HXY.out (Option.some.inj h1).symm
            rw [decide_eq_false this]
            rfl
      · obtain rfl : t = n := by omega
        have HE := Lib.hid he
        have HK := Lib.hid hk
        have hlt' : ¬ ((t : Int) < (t : Int)) := by omega
        go_wp2_with fail
        go_ret
        refine ⟨?_, HK.out⟩
        have h1 := HE.out
        rw [List.take_of_length_le (by have := HN.out; omega), List.take_of_length_le (by have := HN.out; have := HNE.out; omega)] at h1
        rw [decide_eq_true h1]
        rfl
  · have e1 : (((xs.length : Nat) : Int) == ((ys.length : Nat) : Int)) = false := by
      rw [beq_eq_false_iff_ne]
      omega
    rw [decide_eq_false (fun e => hne (by rw [e]))]
    clear hr hq hne
    go_enter Tryd.func70, Tryd.ntmps70
    go_wp2_with fail
    go_ret
    exact ⟨rfl, Keeps.refl _ _⟩
set_option maxRecDepth 100000 in
set_option maxHeartbeats 1000000 in
theorem beq_any (v1 v2 : Value) (xs ys : List Int) (w : World) (h1 : SlB w v1 xs) (h2 : SlB w v2 ys) (hl : xs.length ≤ 140737488351232) (hl2 : ys.length ≤ 140737488351232) : Calls Tryd.prog 69 #[v1, v2] w (BoolP (decide (xs = ys)) w) := by
  obtain ⟨a, c, rfl, hr⟩ := h1
  obtain ⟨b, d, rfl, hq⟩ := h2
  have HR := Lib.hid hr
  have HQ := Lib.hid hq
  by_cases hne : xs.length = ys.length
  · have HNE := Lib.hid hne
    rw [← hne]
    obtain ⟨n, hn⟩ : ∃ n, n = xs.length := ⟨_, rfl⟩
    have HN := Lib.hid hn
    rw [← hn] at hl ⊢
    clear hr hq hne hn
    go_enter Tryd.func69, Tryd.ntmps69
    go_wp2_with fail
    go_loopw [13] (fun i wr => ∃ t : Nat, t ≤ n ∧ i = .int .i64 t ∧ xs.take t = ys.take t ∧ Keeps (fun _ => False) w wr) (fun i _ => n - (intOf i).toNat)
    case atStart => exact ⟨0, Nat.zero_le _, rfl, by simp, Keeps.refl _ _⟩
    case round =>
      obtain ⟨t, ht, rfl, he, hk⟩ := hrel
      by_cases hlt : t < n
      · obtain ⟨ad, ha, _⟩ := HR.out.2 t (by have := HN.out; omega)
        obtain ⟨bd, hb, _⟩ := HQ.out.2 t (by have := HN.out; have := HNE.out; omega)
        subst ha hb
        have c1 := HR.out.cellQ hk (i := t) (by have := HN.out; omega)
        have c2 := HQ.out.cellQ hk (i := t) (by have := HN.out; have := HNE.out; omega)
        have hx1 : xs[t]? = some (xs[t]?.getD 0) := by
          have : t < xs.length := by have := HN.out; omega
          simp [this]
        have hy1 : ys[t]? = some (ys[t]?.getD 0) := by
          have : t < ys.length := by have := HN.out; have := HNE.out; omega
          simp [this]
        have HX1 := Lib.hid hx1
        have HY1 := Lib.hid hy1
        have HE := Lib.hid he
        have HK := Lib.hid hk
        obtain ⟨x, hx⟩ : ∃ x, x = xs[t]?.getD 0 := ⟨_, rfl⟩
        obtain ⟨y, hy⟩ : ∃ y, y = ys[t]?.getD 0 := ⟨_, rfl⟩
        rw [← hx] at c1 HX1
        rw [← hy] at c2 HY1
        have hlt' : (t : Int) < (n : Int) := by omega
        clear hx1 hy1 hx hy he hk
        go_upto_region 6 with fail
        by_cases hxy : x = y
        · subst hxy
          go_region
          all_goals
            go_wp2_with fail
            go_roundw
            case rel => exact ⟨t + 1, by omega, by go_num, by rw [List.take_add_one, List.take_add_one, HE.out, HX1.out, HY1.out], HK.out.drew⟩
            case measure => simp [intOf]; omega
        · have e1 : (x == y) = false := by simpa using hxy
          have HXY := Lib.hid hxy
          go_region
          all_goals
            go_wp2_with fail
            go_ret
            refine ⟨?_, HK.out.drew⟩
            have : xs ≠ ys := fun e => by
              have h1 := HX1.out
              rw [e, HY1.out] at h1
              exact HXY.out (Option.some.inj h1).symm
            rw [decide_eq_false this]
            rfl
      · obtain rfl : t = n := by omega
        have HE := Lib.hid he
        have HK := Lib.hid hk
        have hlt' : ¬ ((t : Int) < (t : Int)) := by omega
        go_wp2_with fail
        go_ret
        refine ⟨?_, HK.out⟩
        have h1 := HE.out
        rw [List.take_of_length_le (by have := HN.out; omega), List.take_of_length_le (by have := HN.out; have := HNE.out; omega)] at h1
        rw [decide_eq_true h1]
        rfl
  · have e1 : (((xs.length : Nat) : Int) == ((ys.length : Nat) : Int)) = false := by
      rw [beq_eq_false_iff_ne]
      omega
    rw [decide_eq_false (fun e => hne (by rw [e]))]
    clear hr hq hne
    go_enter Tryd.func69, Tryd.ntmps69
    go_wp2_with fail
    go_ret
    exact ⟨rfl, Keeps.refl _ _⟩
set_option maxRecDepth 100000 in
theorem equal_any (v1 v2 : Value) (xs ys : List Int) (w : World) (h1 : SlB w v1 xs) (h2 : SlB w v2 ys) (hl : xs.length ≤ 140737488351232) (hl2 : ys.length ≤ 140737488351232) : Calls Tryd.prog 35 #[v1, v2] w (BoolP (decide (xs = ys)) w) := by
  have HE := Lib.hid (beq_any v1 v2 xs ys w h1 h2 hl hl2)
  obtain ⟨b, hb⟩ : ∃ b, b = decide (xs = ys) := ⟨_, rfl⟩
  rw [← hb] at HE ⊢
  unfold BoolP at HE
  clear hb hl hl2 h1 h2
  go_enter Tryd.func35, Tryd.ntmps35
  go_wp2_with fail
  refine HE.out.mono ?_
  rintro e w1 ⟨rfl, hk⟩
  go_wp2_with fail
  go_ret
  exact ⟨rfl, hk⟩
/-- Are two items the same? -/
def sameI (i j : IT) : Bool := decide (i.key = j.key) && (decide (i.val = j.val) && ((i.fg == j.fg) && ((i.ex == j.ex) && ((i.sq == j.sq) && (i.dt == j.dt)))))
theorem sameI_self (i : IT) : sameI i i = true := by simp [sameI]
theorem sameI_iff {i j : IT} : sameI i j = true ↔ i = j := by
  cases i; cases j; simp [sameI]
set_option maxRecDepth 100000 in
set_option maxHeartbeats 2000000 in
theorem same_any (i j : IT) (kv vv kv' vv' : Value) (w : World) (h1 : ItB w i kv vv) (h2 : ItB w j kv' vv') (a1 : i.key.length ≤ 140737488351232) (a2 : i.val.length ≤ 140737488351232) (b1 : j.key.length ≤ 140737488351232) (b2 : j.val.length ≤ 140737488351232) : Calls Tryd.prog 44 #[i.agg kv vv, j.agg kv' vv'] w (BoolP (sameI i j) w) := by
  obtain ⟨W0, hW0⟩ : ∃ W0, W0 = (w.alloc (.cells (i.cells kv vv).toArray 64)).alloc (.cells (j.cells kv' vv').toArray 64) := ⟨_, rfl⟩
  have k0 : Keeps (fun _ => False) w W0 := by rw [hW0]; exact ((Keeps.refl _ _).alloc _).alloc _
  have hb1 : Blk W0 w.heap.size 64 (i.cells kv vv) := by rw [hW0]; exact (Blk.new w 64 _).alloc _
  have hb2 : Blk W0 (w.heap.size + 1) 64 (j.cells kv' vv') := by
    rw [hW0]
    have := Blk.new (w.alloc (.cells (i.cells kv vv).toArray 64)) 64 (j.cells kv' vv')
    rwa [World.size_alloc] at this
  have HE1 : Hid (∀ W, Keeps (fun _ => False) w W → Calls Tryd.prog 70 #[kv, kv'] W (BoolP (decide (i.key = j.key)) W)) := Lib.hid (fun W hk => bsame_any _ _ _ _ W (h1.k.quiet hk) (h2.k.quiet hk) a1 b1)
  have HE2 : Hid (∀ W, Keeps (fun _ => False) w W → Calls Tryd.prog 70 #[vv, vv'] W (BoolP (decide (i.val = j.val)) W)) := Lib.hid (fun W hk => bsame_any _ _ _ _ W (h1.v.quiet hk) (h2.v.quiet hk) a2 b2)
  obtain ⟨⟨a, c, rfl, _⟩, ⟨b, d, rfl, _⟩⟩ := h1
  obtain ⟨⟨a', c', rfl, _⟩, ⟨b', d', rfl, _⟩⟩ := h2
  unfold sameI
  obtain ⟨p1, hp1⟩ : ∃ p, p = decide (i.key = j.key) := ⟨_, rfl⟩
  obtain ⟨p2, hp2⟩ : ∃ p, p = decide (i.val = j.val) := ⟨_, rfl⟩
  rw [← hp1] at HE1 ⊢
  rw [← hp2] at HE2 ⊢
  obtain ⟨n1, hn1⟩ : ∃ n, n = i.key.length := ⟨_, rfl⟩
  obtain ⟨n2, hn2⟩ : ∃ n, n = i.val.length := ⟨_, rfl⟩
  obtain ⟨n3, hn3⟩ : ∃ n, n = j.key.length := ⟨_, rfl⟩
  obtain ⟨n4, hn4⟩ : ∃ n, n = j.val.length := ⟨_, rfl⟩
  rw [← hn1] at HE1 hb1 hW0 ⊢
  rw [← hn2] at HE2 hb1 hW0 ⊢
  rw [← hn3] at HE1 hb2 hW0 ⊢
  rw [← hn4] at HE2 hb2 hW0 ⊢
  clear hp1 hp2 hn1 hn2 hn3 hn4 a1 a2 b1 b2
  obtain ⟨_, _, fg, ex, sq, dt⟩ := i
  obtain ⟨_, _, fg', ex', sq', dt'⟩ := j
  unfold IT.cells at hb1 hb2 hW0
  unfold IT.agg
  dsimp only at hb1 hb2 hW0 ⊢
  have HW0 := Lib.hid hW0
  have HB1 := Lib.hid hb1
  have HB2 := Lib.hid hb2
  have HK0 := Lib.hid k0
  unfold BoolP at HE1 HE2
  have x0 := hb1.cell (i := 0) rfl
  have y0 := hb2.cell (i := 0) rfl
  clear hW0 hb1 hb2 k0
  have HF : Hid (∀ W, Keeps (fun _ => False) W0 W → (W.cell? ⟨w.heap.size, 1, none⟩ = some (.slice b n2 d) ∧ W.cell? ⟨w.heap.size, 2, none⟩ = some (.int .u32 fg) ∧ W.cell? ⟨w.heap.size, 3, none⟩ = some (.int .u32 ex) ∧ W.cell? ⟨w.heap.size, 4, none⟩ = some (.int .u64 sq) ∧ W.cell? ⟨w.heap.size, 5, none⟩ = some (.bool dt)) ∧ W.cell? ⟨w.heap.size + 1, 1, none⟩ = some (.slice b' n4 d') ∧ W.cell? ⟨w.heap.size + 1, 2, none⟩ = some (.int .u32 fg') ∧ W.cell? ⟨w.heap.size + 1, 3, none⟩ = some (.int .u32 ex') ∧ W.cell? ⟨w.heap.size + 1, 4, none⟩ = some (.int .u64 sq') ∧ W.cell? ⟨w.heap.size + 1, 5, none⟩ = some (.bool dt')) := Lib.hid (fun W hk => by
    have h1 := hk.blk HB1.out id
    have h2 := hk.blk HB2.out id
    exact ⟨⟨h1.cell (i := 1) rfl, h1.cell (i := 2) rfl, h1.cell (i := 3) rfl, h1.cell (i := 4) rfl, h1.cell (i := 5) rfl⟩, h2.cell (i := 1) rfl, h2.cell (i := 2) rfl, h2.cell (i := 3) rfl, h2.cell (i := 4) rfl, h2.cell (i := 5) rfl⟩)
  go_enter Tryd.func44, Tryd.ntmps44
  go_upto_region 1 with fail
  rw [← HW0.out]
  go_wp2_with fail
  refine (HE1.out W0 HK0.out).mono ?_
  rintro e w1 ⟨rfl, hk1⟩
  have HK1 := Lib.hid hk1
  clear hk1
  cases p1 with
  | false =>
    clear x0 y0 HE1 HE2 HF
    go_wp2_with fail
    go_ret
    exact ⟨rfl, HK0.out.trans HK1.out⟩
  | true =>
    obtain ⟨⟨x1, _⟩, y1, _⟩ := HF.out w1 HK1.out
    clear x0 y0 HE1
    go_wp2_with fail
    refine (HE2.out w1 (HK0.out.trans HK1.out)).mono ?_
    rintro e w2 ⟨rfl, hk2⟩
    have HK2 := Lib.hid (HK1.out.trans hk2)
    clear hk2 x1 y1 HE2
    cases p2 with
    | false =>
      go_wp2_with fail
      go_ret
      exact ⟨rfl, HK0.out.trans HK2.out⟩
    | true =>
      obtain ⟨⟨_, x2, x3, x4, x5⟩, _, y2, y3, y4, y5⟩ := HF.out w2 HK2.out
      cases e2 : (fg == fg') with
      | false =>
        go_wp2_with fail
        go_ret
        exact ⟨by simp [e2], HK0.out.trans HK2.out⟩
      | true =>
        cases e3 : (ex == ex') with
        | false =>
          go_wp2_with fail
          go_ret
          exact ⟨by simp [e2, e3], HK0.out.trans HK2.out⟩
        | true =>
          cases e4 : (sq == sq') with
          | false =>
            go_wp2_with fail
            go_ret
            exact ⟨by simp [e2, e3, e4], HK0.out.trans HK2.out⟩
          | true =>
            go_wp2_with fail
            go_ret
            exact ⟨by simp [e2, e3, e4], HK0.out.trans HK2.out⟩
end Go.Proofs.YthnagihgjenimaaDoor
