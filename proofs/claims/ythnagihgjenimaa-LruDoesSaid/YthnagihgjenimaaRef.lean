/- icehouseref12: lists by definition, as they lie in memory; what only reads them. -/
import Derived.Test.YthnagihgjenimaaTold
namespace Go.Proofs.Ythnagihgjenimaa
open Go.RowKit
set_option linter.unusedVariables false

/-- Value v is the document's lists: N numbers, n lists, the lists ls; its rows lie at base or beyond. -/
def RefAt (base : Nat) (w : World) (v : Value) (N n : Nat) (ls : Nat → List Nat) : Prop :=
  ∃ ov rvs, v = .agg #[.int .i64 (N : Int), ov] ∧ w.ownsRow base 43 1 ov n rvs ∧ ∀ i, i < n → ∃ rv, rvs[i]? = some rv ∧ w.ownsRow base 3 1 rv (ls i).length (nats (ls i))

theorem own_heap {w : World} {base size : Nat} {e : TypeId} {v : Value} {n : Nat} {xs : List Value} (h : w.ownsRow base e size v n xs) {g : Nat} (hg : v.ownBlock = some g) :
    base ≤ g ∧ g < w.heap.size ∧ ∃ cur, w.heap[g]? = some (.cells cur e (0, 0)) := by
  obtain ⟨_, hr⟩ := h
  rcases hr with ⟨rfl, _⟩ | ⟨g', cap, cur, rfl, hb, hgg, _⟩
  · simp [Value.ownBlock] at hg
  · simp [Value.ownBlock] at hg
    subst hg
    exact ⟨hb, (Array.getElem?_eq_some_iff.1 hgg).1, cur, hgg⟩

/-- What an owned row of one-cell elements is for who reads it. -/
theorem own_read {w : World} {base : Nat} {e : TypeId} {v : Value} {n : Nat} {xs : List Value} (h : w.ownsRow base e 1 v n xs) :
    xs.length = n ∧ ∃ a cap, v = .slice a n cap ∧ n ≤ cap ∧ cap ≤ maxLen ∧ ∀ j, j < n → ∃ g, a = some ⟨g, 0, none⟩ ∧ base ≤ g ∧ g < w.heap.size ∧ w.cell? ⟨g, j, none⟩ = xs[j]? := by
  obtain ⟨hlen, hr⟩ := h
  refine ⟨by simpa using hlen, ?_⟩
  rcases hr with ⟨rfl, rfl⟩ | ⟨g, cap, cur, rfl, hb, hg, hcap, hmax, hcs, htake⟩
  · exact ⟨none, 0, rfl, Nat.le_refl _, by unfold maxLen; omega, fun j hj => absurd hj (by omega)⟩
  · refine ⟨_, cap, rfl, hcap, hmax, fun j hj => ⟨g, rfl, hb, (Array.getElem?_eq_some_iff.1 hg).1, ?_⟩⟩
    rw [cell_of_row w g j cur e (0, 0) hg, ← htake, List.getElem?_take_of_lt (by omega), ← Array.getElem?_toList]

theorem own_nats {w : World} {base : Nat} {v : Value} {l : List Nat} (h : w.ownsRow base 3 1 v l.length (nats l)) :
    ∃ a cap, v = .slice a l.length cap ∧ l.length ≤ cap ∧ ∀ j, j < l.length → ∃ g, a = some ⟨g, 0, none⟩ ∧ base ≤ g ∧ g < w.heap.size ∧ w.cell? ⟨g, j, none⟩ = some (.int .i64 ((l.getD j 0 : Nat) : Int)) := by
  obtain ⟨_, a, cap, rfl, h1, _, h2⟩ := own_read h
  refine ⟨a, cap, rfl, h1, fun j hj => ?_⟩
  obtain ⟨g, e, hb, hg, hc⟩ := h2 j hj
  exact ⟨g, e, hb, hg, by rw [hc]; exact nats_get hj⟩

section
variable {base : Nat} {w w' : World} {v : Value} {N n : Nat} {ls ls' : Nat → List Nat}
theorem RefAt.keep {S : Nat → Prop} (h : RefAt base w v N n ls) (hk : Keeps S w w') (hS : ∀ g cur t, base ≤ g → t = 3 ∨ t = 43 → w.heap[g]? = some (.cells cur t (0, 0)) → ¬ S g) : RefAt base w' v N n ls := by
  obtain ⟨ov, rvs, rfl, ho, hr⟩ := h
  refine ⟨ov, rvs, rfl, hk.own ho fun g hg => ?_, fun i hi => ?_⟩
  · obtain ⟨a, _, cur, b⟩ := own_heap ho hg
    exact hS g cur 43 a (.inr rfl) b
  · obtain ⟨rv, h1, h2⟩ := hr i hi
    refine ⟨rv, h1, hk.own h2 fun g hg => ?_⟩
    obtain ⟨a, _, cur, b⟩ := own_heap h2 hg
    exact hS g cur 3 a (.inl rfl) b
theorem RefAt.quiet (h : RefAt base w v N n ls) (hk : Keeps (fun _ => False) w w') : RefAt base w' v N n ls := h.keep hk fun _ _ _ _ _ _ => id
theorem RefAt.congr (h : RefAt base w v N n ls) (he : ∀ i, i < n → ls i = ls' i) : RefAt base w v N n ls' := by
  obtain ⟨ov, rvs, rfl, ho, hr⟩ := h
  refine ⟨ov, rvs, rfl, ho, fun i hi => ?_⟩
  rw [← he i hi]
  exact hr i hi
theorem RefAt.form (h : RefAt base w v N n ls) (hn : 1 ≤ n) : ∃ g cap, v = .agg #[.int .i64 (N : Int), .slice (some ⟨g, 0, none⟩) n cap] ∧ n ≤ cap ∧ cap ≤ maxLen ∧ g < w.heap.size ∧
    ∀ i, i < n → ∃ rv, w.cell? ⟨g, i, none⟩ = some rv ∧ w.ownsRow base 3 1 rv (ls i).length (nats (ls i)) := by
  obtain ⟨ov, rvs, rfl, ho, hr⟩ := h
  obtain ⟨hl, a, cap, rfl, hcap, hmx, hc⟩ := own_read ho
  obtain ⟨g, rfl, _, hg, _⟩ := hc 0 hn
  refine ⟨g, cap, rfl, hcap, hmx, hg, fun i hi => ?_⟩
  obtain ⟨rv, h1, h2⟩ := hr i hi
  obtain ⟨g', e, _, _, hcell⟩ := hc i hi
  cases e
  exact ⟨rv, by rw [hcell]; exact h1, h2⟩
end

/-- A list is there. -/
def listB (n : Nat) (i : Int) : Bool := decide (0 ≤ i ∧ i < (n : Int))

theorem rlist_any (base : Nat) (w : World) (v : Value) (N n : Nat) (ls : Nat → List Nat) (h : RefAt base w v N n ls) (hn : 1 ≤ n) (i : Int) :
    Calls Try.prog 33 #[v, .int .i64 i] w fun e w' => e = .returned (.bool (listB n i)) ∧ Keeps (fun _ => False) w w' := by
  obtain ⟨g, cap, rfl, hcap, hmx, hg, hrow⟩ := h.form hn
  unfold maxLen at hmx
  clear hrow h
  by_cases h0 : 0 ≤ i
  · by_cases h1 : i < (n : Int)
    · have hb : listB n i = true := by unfold listB; simp [h0, h1]
      have HB := Lib.hid hb
      clear hb
      go_enter Try.func33, Try.ntmps33
      go_wp2
      go_ret
      exact ⟨by rw [HB.out]; rfl, (Keeps.refl _ _).alloc _⟩
    · have hb : listB n i = false := by unfold listB; simp; omega
      have HB := Lib.hid hb
      have h1' : decide (i < (n : Int)) = false := by simpa using h1
      clear hb h1
      go_enter Try.func33, Try.ntmps33
      go_wp2
      go_ret
      exact ⟨by rw [HB.out]; rfl, (Keeps.refl _ _).alloc _⟩
  · have hb : listB n i = false := by unfold listB; simp; omega
    have HB := Lib.hid hb
    have h0' : decide (0 ≤ i) = false := by simpa using h0
    clear hb h0
    go_enter Try.func33, Try.ntmps33
    go_wp2
    go_ret
    exact ⟨by rw [HB.out]; rfl, (Keeps.refl _ _).alloc _⟩

theorem rnumber_any (base : Nat) (w : World) (v : Value) (N n : Nat) (ls : Nat → List Nat) (h : RefAt base w v N n ls) (hn : 1 ≤ n) (x : Int) :
    Calls Try.prog 34 #[v, .int .i64 x] w fun e w' => e = .returned (.bool (listB N x)) ∧ Keeps (fun _ => False) w w' := by
  obtain ⟨g, cap, rfl, hcap, hmx, hg, hrow⟩ := h.form hn
  clear hrow h
  by_cases h0 : 0 ≤ x
  · by_cases h1 : x < (N : Int)
    · have hb : listB N x = true := by unfold listB; simp [h0, h1]
      have HB := Lib.hid hb
      clear hb
      go_enter Try.func34, Try.ntmps34
      go_wp2
      go_ret
      exact ⟨by rw [HB.out]; rfl, (Keeps.refl _ _).alloc _⟩
    · have hb : listB N x = false := by unfold listB; simp; omega
      have HB := Lib.hid hb
      have h1' : decide (x < (N : Int)) = false := by simpa using h1
      clear hb h1
      go_enter Try.func34, Try.ntmps34
      go_wp2
      go_ret
      exact ⟨by rw [HB.out]; rfl, (Keeps.refl _ _).alloc _⟩
  · have hb : listB N x = false := by unfold listB; simp; omega
    have HB := Lib.hid hb
    have h0' : decide (0 ≤ x) = false := by simpa using h0
    clear hb h0
    go_enter Try.func34, Try.ntmps34
    go_wp2
    go_ret
    exact ⟨by rw [HB.out]; rfl, (Keeps.refl _ _).alloc _⟩

/-- What Where answers. -/
def WhereS (n : Nat) (ls : Nat → List Nat) (x : Nat) (r : Int) : Prop := (r = -1 ∧ ∀ j, j < n → x ∉ ls j) ∨ ∃ i : Nat, r = i ∧ i < n ∧ x ∈ ls i
def WhereP (n : Nat) (ls : Nat → List Nat) (x : Nat) (w : World) (e : Ending) (w' : World) : Prop := ∃ r, e = .returned (.int .i64 r) ∧ WhereS n ls x r ∧ Keeps (fun _ => False) w w'
def NoneTo (ls : Nat → List Nat) (x t : Nat) : Prop := ∀ j, j < t → x ∉ ls j

theorem take_succ_mem {l : List Nat} {q x : Nat} (hq : q < l.length) (h : x ∉ l.take q) (hx : l.getD q 0 ≠ x) : x ∉ l.take (q + 1) := by
  rw [List.take_succ_eq_append_getElem hq]
  intro hm
  rcases List.mem_append.1 hm with hm | hm
  · exact h hm
  · rw [List.mem_singleton] at hm
    apply hx
    rw [hm, List.getD_eq_getElem?_getD, List.getElem?_eq_getElem hq]
    rfl

set_option maxHeartbeats 1000000 in
theorem where_any (base : Nat) (w : World) (v : Value) (N n : Nat) (ls : Nat → List Nat) (h : RefAt base w v N n ls) (hn : 1 ≤ n) (hn2 : n ≤ 64) (hls : ∀ i, i < n → (ls i).length ≤ 65536) (x : Nat) :
    Calls Try.prog 35 #[v, .int .i64 x] w (WhereP n ls x w) := by
  obtain ⟨g, cap, rfl, hcap, hmx, hg, hrow⟩ := h.form hn
  unfold maxLen at hmx
  have HROW := Lib.hid hrow
  have HLS := Lib.hid hls
  clear hrow h hls
  go_enter Try.func35, Try.ntmps35
  go_wp2
  go_loop [12] (fun i => ∃ t : Nat, t ≤ n ∧ i = .int .i64 t ∧ NoneTo ls x t) (fun i => n - (intOf i).toNat)
  case atStart => exact ⟨0, Nat.zero_le _, rfl, fun j hj => absurd hj (by omega)⟩
  case round =>
    obtain ⟨t, ht, rfl, hno⟩ := hrel
    have HNO := Lib.hid hno
    clear hno
    by_cases hlt : t < n
    · obtain ⟨rv, hc, hr⟩ := HROW.out t hlt
      obtain ⟨a, cp, rfl, hcp, hcell⟩ := own_nats hr
      have hll := HLS.out t hlt
      obtain ⟨l, hl⟩ : ∃ l, l = ls t := ⟨_, rfl⟩
      rw [← hl] at hc hcell hcp hll
      have HL := Lib.hid hl
      have HC := Lib.hid hcell
      clear hl hr hcell
      go_wp2
      go_loop [19] (fun j => ∃ q : Nat, q ≤ l.length ∧ j = .int .i64 q ∧ x ∉ l.take q) (fun j => l.length - (intOf j).toNat)
      case atStart => exact ⟨0, Nat.zero_le _, rfl, by simp⟩
      case round =>
        obtain ⟨q, hq, rfl, hnq⟩ := hrel
        have HNQ := Lib.hid hnq
        clear hnq
        by_cases hql : q < l.length
        · obtain ⟨g2, rfl, _, hg2, hc2⟩ := HC.out q hql
          obtain ⟨y, hy⟩ : ∃ y, y = l.getD q 0 := ⟨_, rfl⟩
          rw [← hy] at hc2
          have HY := Lib.hid hy
          clear hy
          by_cases hyx : y = x
          · have hm : Hid (x ∈ ls t) := Lib.hid (by rw [← HL.out, ← hyx, HY.out, List.getD_eq_getElem?_getD, List.getElem?_eq_getElem hql]; exact List.getElem_mem _)
            subst hyx
            go_wp2
            go_ret
            exact ⟨t, rfl, .inr ⟨t, rfl, hlt, hm.out⟩, (Keeps.refl _ _).alloc _⟩
          · have hne : ((y : Int) == (x : Int)) = false := by rw [beq_eq_false_iff_ne]; omega
            have hm : Hid (x ∉ l.take (q + 1)) := Lib.hid (take_succ_mem hql HNQ.out (by rw [← HY.out]; exact hyx))
            go_wp2
            go_round
            case rel => exact ⟨q + 1, by omega, by go_num, hm.out⟩
            case measure => simp [intOf]; omega
        · obtain rfl : q = l.length := by omega
          have hm : Hid (NoneTo ls x (t + 1)) := Lib.hid (by
            intro j hj
            by_cases e : j = t
            · rw [e, ← HL.out]; have := HNQ.out; rwa [List.take_length] at this
            · exact HNO.out j (by omega))
          go_wp2
          go_round
          case rel => exact ⟨t + 1, by omega, by go_num, hm.out⟩
          case measure => simp [intOf]; omega
    · obtain rfl : t = n := by omega
      go_wp2
      go_ret
      exact ⟨-1, rfl, .inl ⟨rfl, HNO.out⟩, (Keeps.refl _ _).alloc _⟩
end Go.Proofs.Ythnagihgjenimaa
