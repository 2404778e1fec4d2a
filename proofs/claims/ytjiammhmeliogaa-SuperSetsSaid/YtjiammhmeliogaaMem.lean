/- Rows of blocks of 64 bytes, and of writes, in memory. -/
import Derived.Test.YtjiammhmeliogaaBlk
import Derived.Deep.MidRow
import Derived.Maps.AppendAt
import Derived.OneCell
namespace Go.Proofs.Ytjiammhmeliogaa
open Go.RowKit
set_option linter.unusedVariables false

/-! ### Rows of the call's own -/
theorem own_heap {w : World} {base size : Nat} {e : TypeId} {v : Value} {n : Nat} {xs : List Value} (h : w.ownsRow base e size v n xs) {g : Nat} (hg : v.ownBlock = some g) :
    base ≤ g ∧ g < w.heap.size ∧ ∃ cur, w.heap[g]? = some (.cells cur e (0, 0)) := by
  obtain ⟨_, hr⟩ := h
  rcases hr with ⟨rfl, _⟩ | ⟨g', cap, cur, rfl, hb, hgg, _⟩
  · simp [Value.ownBlock] at hg
  · simp [Value.ownBlock] at hg
    subst hg
    exact ⟨hb, (Array.getElem?_eq_some_iff.1 hgg).1, cur, hgg⟩
theorem own_base {w : World} {base base' size : Nat} {e : TypeId} {v : Value} {n : Nat} {xs : List Value} (h : w.ownsRow base' e size v n xs) (hb : base ≤ base') : w.ownsRow base e size v n xs := by
  obtain ⟨h1, h2⟩ := h
  refine ⟨h1, ?_⟩
  rcases h2 with h2 | ⟨g, cap, cur, e1, h2, r⟩
  · exact .inl h2
  · exact .inr ⟨g, cap, cur, e1, Nat.le_trans hb h2, r⟩
theorem blk_not_own {w : World} {B t e : Nat} {cs : List Value} (h : Blk w B t cs) {cur : Array Value} (hc : w.heap[B]? = some (.cells cur e (0, 0))) : e = t := by
  unfold Blk at h
  rw [hc] at h
  injection h with h
  injection h
theorem own_ne_blk {w : World} {B t e base size n : Nat} {cs xs : List Value} {v : Value} (h : Blk w B t cs) (ho : w.ownsRow base e size v n xs) (hne : e ≠ t) : v.ownBlock ≠ some B := by
  intro hg
  obtain ⟨_, _, cur, hc⟩ := own_heap ho hg
  exact hne (blk_not_own h hc)
theorem own_ne_own {w : World} {base base' size size' : Nat} {e e' : TypeId} {v v' : Value} {n n' : Nat} {xs xs' : List Value} (h : w.ownsRow base e size v n xs) (h' : w.ownsRow base' e' size' v' n' xs') (hne : e ≠ e') {g : Nat} (hg : v.ownBlock = some g) : v'.ownBlock ≠ some g := by
  intro hg'
  obtain ⟨_, _, c, hc⟩ := own_heap h hg
  obtain ⟨_, _, c', hc'⟩ := own_heap h' hg'
  rw [hc] at hc'
  injection hc' with hc'
  injection hc' with _ ht
  exact hne ht
theorem own_slice {w : World} {base size : Nat} {e : TypeId} {v : Value} {n : Nat} {xs : List Value} (h : w.ownsRow base e size v n xs) : ∃ a cap, v = .slice a n cap ∧ n ≤ cap ∧ cap ≤ maxLen := by
  rcases h.2 with ⟨rfl, rfl⟩ | ⟨g, cap, cur, rfl, hb, hg, hcap, hmx, _⟩
  · exact ⟨none, 0, rfl, Nat.le_refl _, by unfold maxLen; omega⟩
  · exact ⟨_, cap, rfl, hcap, hmx⟩
theorem own_some {w : World} {base size : Nat} {e : TypeId} {v : Value} {n : Nat} {xs : List Value} (h : w.ownsRow base e size v n xs) (hn : 0 < n) : ∃ g cap, v = .slice (some ⟨g, 0, none⟩) n cap ∧ n ≤ cap ∧ cap ≤ maxLen ∧ g < w.heap.size := by
  rcases h.2 with ⟨rfl, rfl⟩ | ⟨g, cap, cur, rfl, hb, hg, hcap, hmx, _⟩
  · omega
  · exact ⟨g, cap, rfl, hcap, hmx, (Array.getElem?_eq_some_iff.1 hg).1⟩
theorem own_range {w : World} {base size : Nat} {e : TypeId} {g n cap : Nat} {pre vs post : List Value} (h : w.ownsRow base e size (.slice (some ⟨g, 0, none⟩) n cap) n (pre ++ vs ++ post)) : w.rangeAt g pre.length vs := by
  intro j v hv
  have h1 := h.cells (g := g) rfl (pre.length + j) v (by
    have hj : j < vs.length := (List.getElem?_eq_some_iff.1 hv).1
    rw [List.append_assoc, List.getElem?_append_right (by omega), show pre.length + j - pre.length = j from by omega, List.getElem?_append_left hj]
    exact hv)
  rwa [add0] at h1
theorem own_there {w : World} {base size : Nat} {e : TypeId} {g n cap : Nat} {xs : List Value} (h : w.ownsRow base e size (.slice (some ⟨g, 0, none⟩) n cap) n xs) {o m : Nat} (hm : o + m ≤ xs.length) : w.there g o m := by
  intro j hj
  have hl : o + j < xs.length := by omega
  have h1 := h.cells (g := g) rfl (o + j) _ (List.getElem?_eq_getElem hl)
  rw [add0] at h1
  obtain ⟨_, _, cur, hc⟩ := own_heap h (g := g) rfl
  exact ⟨by rw [h1]; rfl, by simp [World.frozen?, hc]⟩

theorem setCells_heap (g : Nat) (t : TypeId) : ∀ (vs : List Value) (o : Nat) (w : World) (cur : Array Value), w.heap[g]? = some (.cells cur t (0, 0)) → o + vs.length ≤ cur.size →
    ∃ cur', (w.setCells g o vs).heap[g]? = some (.cells cur' t (0, 0)) ∧ cur'.toList = cur.toList.take o ++ vs ++ cur.toList.drop (o + vs.length)
  | [], o, w, cur, h, hl => ⟨cur, h, by simp⟩
  | v :: r, o, w, cur, h, hl => by
    have h1 : (w.setCell ⟨g, o, none⟩ v).heap[g]? = some (.cells (cur.setIfInBounds o v) t (0, 0)) := by simp [World.setCell, Array.getElem?_modify, h]
    simp only [List.length_cons] at hl
    obtain ⟨cur', h2, h3⟩ := setCells_heap g t r (o + 1) (w.setCell ⟨g, o, none⟩ v) _ h1 (by simp; omega)
    refine ⟨cur', h2, ?_⟩
    rw [h3]
    have ho : o < cur.toList.length := by simp; omega
    simp only [Array.toList_setIfInBounds, List.length_cons]
    rw [show o + (r.length + 1) = o + 1 + r.length from by omega, List.drop_set_of_lt (by omega), List.take_succ_eq_append_getElem (by simpa using ho)]
    simp [List.take_set_of_le]

theorem setCells_keeps (g : Nat) : ∀ (vs : List Value) (o : Nat) (w : World), Keeps (fun k => k = g) w (w.setCells g o vs)
  | [], o, w => Keeps.refl _ _
  | v :: r, o, w => by
    have h1 : Keeps (fun k => k = g) w (w.setCell ⟨g, o, none⟩ v) := (Keeps.refl (fun k => k = g) w).store (p := ⟨g, o, none⟩) (.inl rfl) v
    exact h1.trans (setCells_keeps g r (o + 1) _)

theorem own_splice {w : World} {base size : Nat} {e : TypeId} {g n cap : Nat} {pre vs vs' post : List Value} (h : w.ownsRow base e size (.slice (some ⟨g, 0, none⟩) n cap) n (pre ++ vs ++ post)) (hl : vs'.length = vs.length) :
    (w.setCells g pre.length vs').ownsRow base e size (.slice (some ⟨g, 0, none⟩) n cap) n (pre ++ vs' ++ post) := by
  obtain ⟨h1, h2⟩ := h
  refine ⟨by simp at h1 ⊢; omega, ?_⟩
  rcases h2 with ⟨h', _⟩ | ⟨g', cap', cur, e1, hb, hg, hc1, hc2, hc3, hc4⟩
  · cases h'
  · cases e1
    have hlen : pre.length + vs.length + post.length = n * size := by simpa [Nat.add_assoc] using h1
    have hns : n * size ≤ cap * size := Nat.mul_le_mul_right _ hc1
    obtain ⟨cur', h3, h4⟩ := setCells_heap g e vs' pre.length w cur hg (by omega)
    have hcur : cur.toList = pre ++ vs ++ post ++ cur.toList.drop (n * size) := by
      rw [← hc4, List.take_append_drop]
    have hcl : cur.toList.length = cap * size := by simpa using hc3
    have e1 : cur.toList.take pre.length = pre := by
      rw [hcur, List.append_assoc, List.append_assoc, List.take_left']
      rfl
    have e2 : cur.toList.drop (pre.length + vs'.length) = post ++ cur.toList.drop (n * size) := by
      conv => lhs; rw [hcur]
      rw [hl, List.append_assoc, show pre.length + vs.length = (pre ++ vs).length from by simp, List.drop_left']
      rfl
    have hl' : cur'.toList.length = cap * size := by
      rw [h4]
      simp
      have : cur.size = cap * size := hc3
      omega
    refine .inr ⟨g, cap, cur', rfl, hb, h3, hc1, hc2, by simpa using hl', ?_⟩
    rw [h4, e1, e2, ← List.append_assoc, List.take_left']
    simp
    omega

/-! ### Blocks and writes -/
/-- A block's cells. -/
def bk (b : List Int) : List Value := b.map (Value.int .u8)
theorem bk_len (b : List Int) : (bk b).length = b.length := by simp [bk]
theorem bk_one {b : List Int} : ∀ v ∈ bk b, v.oneCell' = true := by
  intro v hv
  simp [bk] at hv
  obtain ⟨z, _, rfl⟩ := hv
  rfl
/-- The cells of n blocks. -/
def flat (f : Nat → List Int) : Nat → List Value
  | 0 => []
  | n + 1 => flat f n ++ bk (f n)
theorem flat_len {f : Nat → List Int} : ∀ {n : Nat}, (∀ i, i < n → (f i).length = 64) → (flat f n).length = n * 64
  | 0, _ => by simp [flat]
  | n + 1, h => by
    have h1 := flat_len (f := f) (n := n) fun i hi => h i (by omega)
    have h2 := h n (by omega)
    simp only [flat, List.length_append, h1, bk_len, h2]
    omega
theorem flat_congr {f g : Nat → List Int} : ∀ {n : Nat}, (∀ i, i < n → f i = g i) → flat f n = flat g n
  | 0, _ => rfl
  | n + 1, h => by
    simp only [flat]
    rw [flat_congr (n := n) fun i hi => h i (by omega), h n (by omega)]
theorem flat_split (f : Nat → List Int) {i : Nat} : ∀ {n : Nat}, i < n → ∃ post, ∀ g : Nat → List Int, (∀ j, j < n → j ≠ i → g j = f j) → flat g n = flat f i ++ bk (g i) ++ post
  | 0, h => absurd h (by omega)
  | n + 1, h => by
    by_cases e : i = n
    · subst e
      refine ⟨[], fun g hg => ?_⟩
      simp only [flat, List.append_nil]
      rw [flat_congr (f := g) (g := f) fun j hj => hg j (by omega) (by omega)]
    · obtain ⟨post, hp⟩ := flat_split f (n := n) (show i < n by omega)
      refine ⟨post ++ bk (f n), fun g hg => ?_⟩
      simp only [flat]
      rw [hp g fun j hj hne => hg j (by omega) hne, hg n (by omega) (fun e' => e e'.symm)]
      simp

theorem flat_one {f : Nat → List Int} : ∀ {n : Nat}, ∀ v ∈ flat f n, v.oneCell' = true
  | 0, v, h => by simp [flat] at h
  | n + 1, v, h => by
    simp only [flat, List.mem_append] at h
    rcases h with h | h
    · exact flat_one v h
    · exact bk_one v h

/-- A write's cells; those of a row of writes. -/
def wrc (a : Nat × List Int) : List Value := .int .i64 (a.1 : Int) :: bk a.2
def pflat (p : List (Nat × List Int)) : List Value := p.flatMap wrc
theorem pflat_append (p q : List (Nat × List Int)) : pflat (p ++ q) = pflat p ++ pflat q := by simp [pflat]
theorem wrc_len {a : Nat × List Int} (h : a.2.length = 64) : (wrc a).length = 65 := by simp [wrc, bk_len, h]
theorem pflat_len : ∀ {p : List (Nat × List Int)}, (∀ a ∈ p, a.2.length = 64) → (pflat p).length = p.length * 65
  | [], _ => by simp [pflat]
  | a :: r, h => by
    have h1 := pflat_len (p := r) fun b hb => h b (List.mem_cons_of_mem _ hb)
    have h2 := wrc_len (h a (List.mem_cons_self ..))
    show (wrc a ++ pflat r).length = _
    rw [List.length_append, h1, h2, List.length_cons]
    omega
theorem pflat_split {p : List (Nat × List Int)} {i : Nat} {a : Nat × List Int} (h : p[i]? = some a) : pflat p = pflat (p.take i) ++ wrc a ++ pflat (p.drop (i + 1)) := by
  obtain ⟨hi, rfl⟩ := List.getElem?_eq_some_iff.1 h
  have e : p = p.take i ++ [p[i]] ++ p.drop (i + 1) := by
    rw [List.append_assoc, List.singleton_append, ← List.drop_eq_getElem_cons hi, List.take_append_drop]
  conv => lhs; rw [e]
  rw [pflat_append, pflat_append]
  congr 2
  simp [pflat]
theorem wrc_one {a : Nat × List Int} : ∀ v ∈ wrc a, v.oneCell' = true := by
  intro v hv
  simp only [wrc, List.mem_cons] at hv
  rcases hv with rfl | hv
  · rfl
  · exact bk_one v hv
theorem pflat_one {p : List (Nat × List Int)} : ∀ v ∈ pflat p, v.oneCell' = true := by
  intro v hv
  simp only [pflat, List.mem_flatMap] at hv
  obtain ⟨a, _, hv⟩ := hv
  exact wrc_one v hv
end Go.Proofs.Ytjiammhmeliogaa
