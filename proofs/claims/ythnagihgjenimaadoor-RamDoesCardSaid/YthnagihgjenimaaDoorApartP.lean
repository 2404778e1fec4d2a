/- SlabApart: what is full, what is given all together, when all is free; a set of integers as a map to true. -/
import Derived.Test.YthnagihgjenimaaDoorAgain
import Derived.Maps.Own
import Derived.Maps.OwnOps
import Derived.Maps.Views
import Derived.Maps.RangeWalk
namespace Go.Proofs.YthnagihgjenimaaDoor
open Go.RowKit
set_option linter.unusedVariables false
set_option linter.unusedSimpArgs false

/-! ### What is given, all together -/
def AD.sum (D : AD) : Nat := sumN (fun i => pc (D.g i) * szOf (D.c i)) D.n
theorem sum_le {D : AD} (h : D.Ok) : D.sum ≤ 1024 * D.n := by
  unfold AD.sum
  refine sumN_mul _ fun i hi => ?_
  have h1 := pc_lec (h.gl i hi) (chk_le _)
  have h2 := chk_sz (D.c i)
  exact Nat.le_trans (Nat.mul_le_mul_right _ h1) h2
theorem give_sum {D D' : AD} {k : Nat} {r : Int} (h : D.Ok) (hs : GiveS D k r 0 D') : D'.sum = D.sum + szOf k := by
  generalize hq : (0 : Int) = q at hs
  cases hs with
  | hit j hj hh hb =>
    obtain ⟨h0, hc, hl⟩ := hh
    have hg := h.g32 hj
    have h32 := chk_le k
    have hb := (low_spec _ hg).2.1 (by omega)
    have := sumN_one (f := fun i => pc (D.g i) * szOf (D.c i)) (f' := fun i => pc (updN D.g j (D.g j + 2 ^ low (D.g j)) i) * szOf (D.c i)) (j := j) (fun i hi => by
      show pc (updN D.g j _ i) * _ = _
      rw [updN_ne _ _ _ hi]) D.n hj
    simp only [updN_same] at this
    rw [pc_on hg (by omega) hb, hc, Nat.add_mul] at this
    show sumN (fun i => pc (updN D.g j (D.g j + 2 ^ low (D.g j)) i) * szOf (D.c i)) D.n = sumN (fun i => pc (D.g i) * szOf (D.c i)) D.n + szOf k
    omega
  | page hn j hj h0 hb =>
    have := sumN_one (f := fun i => pc (D.g i) * szOf (D.c i)) (f' := fun i => pc (updN D.g j 1 i) * szOf (updN D.c j k i)) (j := j) (fun i hi => by
      show pc (updN D.g j _ i) * szOf (updN D.c j k i) = _
      rw [updN_ne _ _ _ hi, updN_ne _ _ _ hi]) D.n hj
    simp only [updN_same] at this
    rw [h0, pc_0, show pc 1 = 1 by decide] at this
    show sumN (fun i => pc (updN D.g j 1 i) * szOf (updN D.c j k i)) D.n = sumN (fun i => pc (D.g i) * szOf (D.c i)) D.n + szOf k
    omega
  | full hn h1 => omega
theorem cnt_none {p : Nat → Bool} : ∀ n, (∀ i, i < n → p i = false) → cnt p n = 0
  | 0, _ => rfl
  | n + 1, h => by simp only [cnt]; rw [cnt_none n (fun i hi => h i (by omega)), h n (by omega)]; rfl
theorem cnt_all {p : Nat → Bool} : ∀ n, (∀ i, i < n → p i = true) → cnt p n = n
  | 0, _ => rfl
  | n + 1, h => by simp only [cnt]; rw [cnt_all n (fun i hi => h i (by omega)), h n (by omega)]; rfl
theorem cnt_mul {p : Nat → Bool} {f : Nat → Nat} {m : Nat} : ∀ n, (∀ i, i < n → f i = if p i then m else 0) → sumN f n = cnt p n * m
  | 0, _ => by simp [sumN, cnt]
  | n + 1, h => by
    simp only [sumN, cnt]
    rw [cnt_mul n (fun i hi => h i (by omega)), h n (by omega)]
    cases p n <;> simp [Nat.add_mul]
/-- Where nothing can be given, no page is free and the class's pages are full. -/
theorem full_free {D : AD} (h : ∀ i, i < D.n → D.g i ≠ 0) : D.free = 0 := cnt_none _ fun i hi => by simpa using h i hi
theorem full_used {D : AD} {k : Nat} (hok : D.Ok) (h : ∀ i, i < D.n → ¬ D.hit k i) : D.used (k : Nat) = D.pages (k : Nat) * chk k := by
  suffices hf : ∀ i, i < D.n → useN D (k : Nat) i = if isOf D (k : Nat) i then chk k else 0 by
    have := cnt_mul (p := isOf D (k : Nat)) (f := useN D (k : Nat)) (m := chk k) D.n hf
    rw [used_eq, this]
    rfl
  intro i hi
  unfold useN
  cases hb : isOf D (k : Nat) i with
  | false => rw [if_neg (by simp), if_neg (by simp)]
  | true =>
    simp only [if_true]
    unfold isOf at hb
    simp at hb
    obtain ⟨h0, hc'⟩ := hb
    have hc : D.c i = k := by omega
    have hg := hok.gl i hi
    rw [hc] at hg
    refine pc_full hg (chk_le k) fun j hj => ?_
    have hl : chk k ≤ low (D.g i) := by
      have := h i hi
      unfold AD.hit at this
      rcases Nat.lt_or_ge (low (D.g i)) (chk k) with h2 | h2
      · exact absurd ⟨h0, hc, h2⟩ this
      · exact h2
    exact (low_spec _ (hok.g32 hi)).2.2 j (by omega)
theorem free_all {D : AD} (hok : D.Ok) (h : ∀ m : Nat, D.find (m : Nat) ≠ 0) : D.free = D.n := cnt_all _ fun i hi => by
  have : D.g i = 0 := bits_zero (hok.g32 hi) fun j hj => by
    have hm := h (32 * i + j)
    have e1 : (32 * i + j) / 32 = i := by omega
    have e2 : (32 * i + j) % 32 = j := by omega
    have hl := bitN_le (D.g i) j
    rcases Nat.lt_or_ge (bitN (D.g i) j) 1 with h1 | h1
    · omega
    · exact absurd (AD.Has.find (D := D) (r := 32 * i + j) (k := D.c i) ⟨by rw [e1]; exact hi, by rw [e1, e2]; omega, by rw [e1]⟩) hm
  simpa using this
theorem find_less {D : AD} {m k : Nat} (h : D.Has m k) : (D.less m).find (m : Nat) = 4 := by
  obtain ⟨h1, h2, _⟩ := h
  unfold AD.find
  have hn : (D.less m).n = D.n := rfl
  rw [if_neg (by rw [hn]; omega), Int.toNat_natCast]
  have hb : bitN ((D.less m).g (m / 32)) (m % 32) = 0 := by
    show bitN (updN D.g (m / 32) _ (m / 32)) _ = 0
    rw [updN_same, bitN_off h2, if_pos rfl]
  rw [if_pos hb]
theorem less_find {D : AD} {m : Nat} (h : D.find (m : Nat) = 0) (x : Nat) : (D.less m).find (x : Nat) = 0 ↔ x ≠ m ∧ D.find (x : Nat) = 0 := by
  have hm := find_has h
  have ht := fun c => take_has hm x c
  constructor
  · intro hx
    have := (ht _).1 (find_has hx)
    exact ⟨this.1, this.2.find⟩
  · rintro ⟨h1, h2⟩
    exact AD.Has.find ((ht _).2 ⟨h1, find_has h2⟩)

/-! ### A set of integers, as a map to true -/
theorem plainElem_bool_inv {P : Program} {e : TypeId} (he : P.underlying e = some .bool) {v : Value} {z : DataW Unit × List MemPlace} (h : plainElem P e v = some z) : ∃ a, v = .bool a ∧ z = (.lit (.bool a), []) := by
  unfold plainElem at h
  rw [he] at h
  cases v <;> simp at h
  exact ⟨_, rfl, h.symm⟩
def BSet (w : World) (b n : Nat) (K : Int → Bool) (D : DataW Unit) : Prop :=
  w.ownsMap Tryd.prog 3 (plainElem Tryd.prog 4) b n D ∧ Maps.IsMap D ∧ (∀ x, Maps.has D (.int .i64 x) = K x) ∧ ∀ x, D.atKey (.int .i64 x) (.lit (.bool false)) = .lit (.bool (K x))
theorem bset_law : Maps.Keyed Tryd.prog 3 := Maps.int_keyed Tryd.underlying3
theorem bset_zero (w : World) : (zeroValue 4).run Tryd.prog w = .ok (.bool false) w := by kernel_rfl
section
variable {w w' : World} {b n : Nat} {K : Int → Bool} {D : DataW Unit}
theorem BSet.made (w : World) : BSet (w.alloc (.map #[] 0)) w.heap.size 0 (fun _ => false) (.map []) := ⟨World.ownsMap_made _ _ _ _, ⟨[], rfl⟩, fun _ => rfl, fun _ => rfl⟩
theorem BSet.lt (h : BSet w b n K D) : b < w.heap.size := h.1.lt
theorem BSet.keep {S : Nat → Prop} (h : BSet w b n K D) (hk : Keeps S w w') (hn : ¬ S b) : BSet w' b n K D := by
  have hb := hk.block b h.lt hn
  obtain ⟨⟨es, clock, hb2, r⟩, h2⟩ := h
  exact ⟨⟨es, clock, hb.trans hb2, r⟩, h2⟩
theorem BSet.put (h : BSet w b n K D) {w' : World} {x : Int} (h' : w'.ownsMap Tryd.prog 3 (plainElem Tryd.prog 4) b (n + 1) (D.put (.int .i64 x) (.lit (.bool true)))) : BSet w' b (n + 1) (fun z => if z = x then true else K z) (D.put (.int .i64 x) (.lit (.bool true))) := by
  obtain ⟨h1, h2, h3, h4⟩ := h
  refine ⟨h', h2.put _ _, fun z => ?_, fun z => ?_⟩
  · by_cases e : z = x
    · subst e
      simp only [if_true]
      exact Maps.has_put_same h2 (by trivial) _
    · simp only [if_neg e]
      rw [Maps.has_put_other (by simpa using e)]
      exact h3 z
  · by_cases e : z = x
    · subst e
      simp only [if_true]
      exact Maps.atKey_put_same h2 (by trivial) _ _
    · simp only [if_neg e]
      rw [Maps.atKey_put_other (by simpa using e)]
      exact h4 z
theorem BSet.lookup (h : BSet w b n K D) (x : Int) (hx : (Lit.int .i64 x).wf = true) : (Instr.lookup 32 (.map (some b)) (.int .i64 x) false).run Tryd.prog w = .ok (.bool (K x)) w := by
  obtain ⟨h1, h2, h3, h4⟩ := h
  obtain ⟨v, ps, hrun, hv⟩ := h1.lookup bset_law Tryd.underlying32 (bset_zero w) (plainElem_bool Tryd.underlying4 false) (Maps.keyOf_int_mk Tryd.underlying3 hx)
  obtain ⟨c, rfl, hc⟩ := plainElem_bool_inv Tryd.underlying4 hv
  rw [h4 x] at hc
  simp at hc
  rw [hrun, hc.1]
end
theorem Keeps.grown {w w' : World} {g : Nat} (h : Keeps (fun k => k = g) w w') : w.grownBy w' (some g) := ⟨h.os, h.tape, h.output, h.size, fun i hi hn => h.block i hi fun e => hn (by rw [e])⟩
theorem Keeps.grown0 {w w' : World} (h : Keeps (fun _ => False) w w') : w.grownBy w' none := ⟨h.os, h.tape, h.output, h.size, fun i hi hn => h.block i hi id⟩
end Go.Proofs.YthnagihgjenimaaDoor
