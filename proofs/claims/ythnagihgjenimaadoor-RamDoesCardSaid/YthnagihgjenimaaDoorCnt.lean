/- Counting bits: one put on, one taken off; what is used of a class then. -/
import Derived.Test.YthnagihgjenimaaDoorGive
namespace Go.Proofs.YthnagihgjenimaaDoor
open Go.RowKit
set_option linter.unusedVariables false
set_option linter.unusedSimpArgs false

theorem pc_split (g k : Nat) (hg : g < 4294967296) (hk : k < 32) : pc g = Lib.popAux k (g % 2 ^ k) + (bitN g k + Lib.popAux (31 - k) (g / 2 ^ k / 2)) := by
  rw [pc_of 32 g (by omega) (by omega)]
  have h := pop_cat k (g % 2 ^ k) (g / 2 ^ k) (32 - k) (Nat.mod_lt _ (Nat.two_pow_pos k))
  rw [show k + (32 - k) = 32 by omega, Nat.add_comm, Nat.div_add_mod] at h
  rw [h, show 32 - k = (31 - k) + 1 by omega]
  rfl
theorem on32 {g k : Nat} (hg : g < 4294967296) (hk : k < 32) (hb : bitN g k = 0) : g + 2 ^ k < 4294967296 := on_lt (c := 32) hg hk hb
theorem bitN_on {g k : Nat} (hb : bitN g k = 0) (j : Nat) : bitN (g + 2 ^ k) j = if j = k then 1 else bitN g j := by
  have h := bits_on g k hb j
  rw [bit_of, bit_of] at h
  have l1 := bitN_le (g + 2 ^ k) j
  have l2 := bitN_le g j
  by_cases e : j = k
  · subst e
    simp at h
    rw [if_pos rfl, h]
  · rw [if_neg e]
    simp [show ¬ k = j from fun h => e h.symm] at h
    omega
theorem bitN_off {g k : Nat} (hb : bitN g k = 1) (j : Nat) : bitN (g - 2 ^ k) j = if j = k then 0 else bitN g j := by
  have h := bits_off g k hb j
  rw [bit_of, bit_of] at h
  have l1 := bitN_le (g - 2 ^ k) j
  have l2 := bitN_le g j
  by_cases e : j = k
  · subst e
    simp at h
    rw [if_pos rfl]
    omega
  · rw [if_neg e]
    simp [show ¬ k = j from fun h => e h.symm] at h
    omega
theorem on_div {g k : Nat} (hb : bitN g k = 0) : (g + 2 ^ k) % 2 ^ k = g % 2 ^ k ∧ (g + 2 ^ k) / 2 ^ k / 2 = g / 2 ^ k / 2 := by
  refine ⟨by simp, ?_⟩
  rw [Nat.add_div_right _ (Nat.two_pow_pos k)]
  unfold bitN at hb
  omega
theorem pc_on {g k : Nat} (hg : g < 4294967296) (hk : k < 32) (hb : bitN g k = 0) : pc (g + 2 ^ k) = pc g + 1 := by
  obtain ⟨h1, h2⟩ := on_div hb
  rw [pc_split (g + 2 ^ k) k (on32 hg hk hb) hk, pc_split g k hg hk, h1, h2, bitN_on hb, if_pos rfl, hb]
  omega
theorem pc_off {g k : Nat} (hg : g < 4294967296) (hk : k < 32) (hb : bitN g k = 1) : pc (g - 2 ^ k) + 1 = pc g := by
  have h0 : bitN (g - 2 ^ k) k = 0 := by rw [bitN_off hb, if_pos rfl]
  have h := pc_on (g := g - 2 ^ k) (Nat.lt_of_le_of_lt (Nat.sub_le _ _) hg) hk h0
  rw [Nat.sub_add_cancel (bit_ge hb)] at h
  exact h.symm
theorem pop_le : ∀ f x, Lib.popAux f x ≤ f
  | 0, _ => Nat.le_refl _
  | f + 1, x => by
    have := pop_le f (x / 2)
    rw [Lib.popAux]
    omega
theorem bit_half (g i : Nat) : bitN (g / 2) i = bitN g (i + 1) := by
  unfold bitN
  rw [Nat.div_div_eq_div_mul, Nat.pow_succ, Nat.mul_comm 2]
theorem pop_full : ∀ f x, (∀ i, i < f → bitN x i = 1) → Lib.popAux f x = f
  | 0, _, _ => rfl
  | f + 1, x, h => by
    rw [Lib.popAux, pop_full f (x / 2) (fun i hi => by rw [bit_half]; exact h _ (by omega))]
    have := h 0 (by omega)
    unfold bitN at this
    simp at this
    omega
theorem pc_lec {g c : Nat} (hg : g < 2 ^ c) (hc : c ≤ 32) : pc g ≤ c := by
  rw [pc_of c g (by omega) hg]
  exact pop_le _ _
theorem pc_full {g c : Nat} (hg : g < 2 ^ c) (hc : c ≤ 32) (h : ∀ i, i < c → bitN g i = 1) : pc g = c := by
  rw [pc_of c g (by omega) hg]
  exact pop_full _ _ h
theorem pc_0 : pc 0 = 0 := pop_zero _
theorem bits_zero {g : Nat} (hg : g < 4294967296) (h : ∀ i, i < 32 → bitN g i = 0) : g = 0 := by
  apply Nat.eq_of_testBit_eq
  intro j
  rw [Nat.zero_testBit]
  by_cases hj : j < 32
  · rw [bit_of, h j hj]; rfl
  · exact Nat.testBit_lt_two_pow (Nat.lt_of_lt_of_le hg (Nat.pow_le_pow_right (n := 2) (i := 32) (by omega) (by omega)))
theorem bit_lt {g c k : Nat} (hg : g < 2 ^ c) (hb : bitN g k = 1) : k < c := by
  rcases Nat.lt_or_ge k c with h | h
  · exact h
  · have h2 := bit_ge hb
    have := Nat.pow_le_pow_right (n := 2) (by omega) h
    omega
theorem bit_nz {g k : Nat} (hb : bitN g k = 1) : g ≠ 0 := by
  rintro rfl
  have := bit_ge hb
  have := Nat.two_pow_pos k
  omega
theorem bitN_zero (k : Nat) : bitN 0 k = 0 := by simp [bitN]
theorem low_le {g k : Nat} (hg : g < 4294967296) (hb : bitN g k = 0) (hk : k < 32) : low g ≤ k := by
  obtain ⟨_, _, h⟩ := low_spec g hg
  rcases Nat.lt_or_ge k (low g) with h' | h'
  · have := h k h'; omega
  · exact h'

theorem sumN_congr {f f' : Nat → Nat} : ∀ n, (∀ i, i < n → f i = f' i) → sumN f n = sumN f' n
  | 0, _ => rfl
  | n + 1, h => by simp only [sumN]; rw [sumN_congr n (fun i hi => h i (by omega)), h n (by omega)]
theorem sumN_one {f f' : Nat → Nat} {j : Nat} (h : ∀ i, i ≠ j → f' i = f i) : ∀ n, j < n → sumN f' n + f j = sumN f n + f' j
  | 0, hj => by omega
  | n + 1, hj => by
    simp only [sumN]
    by_cases e : j = n
    · subst e
      rw [sumN_congr j (fun i hi => h i (by omega))]
      omega
    · have := sumN_one h n (by omega)
      rw [h n (fun h => e h.symm)]
      omega
theorem sumN_zero {f : Nat → Nat} : ∀ n, (∀ i, i < n → f i = 0) → sumN f n = 0
  | 0, _ => rfl
  | n + 1, h => by simp only [sumN]; rw [sumN_zero n (fun i hi => h i (by omega)), h n (by omega)]
theorem sumN_mul {f : Nat → Nat} {m : Nat} : ∀ n, (∀ i, i < n → f i ≤ m) → sumN f n ≤ m * n
  | 0, _ => Nat.zero_le _
  | n + 1, h => by
    have h1 := sumN_mul n (fun i hi => h i (by omega))
    have h2 := h n (by omega)
    simp only [sumN]
    rw [Nat.mul_add]
    omega

theorem useN_eq (D : AD) (k : Int) (i : Nat) : useN D k i = if (D.c i : Int) = k then pc (D.g i) else 0 := by
  unfold useN isOf
  by_cases h0 : D.g i = 0
  · simp [h0, pc_0]
  · by_cases hc : (D.c i : Int) = k
    · simp [h0, hc]
    · simp [h0, hc]
/-- An arena whose pages are as they may be. -/
structure AD.Ok (D : AD) : Prop where
  cl : ∀ i, i < D.n → D.c i < 8
  gl : ∀ i, i < D.n → D.g i < 2 ^ chk (D.c i)
theorem ArAt.good {w : World} {L : AL} {D : AD} (h : ArAt w L D) : D.Ok := ⟨h.cl, h.gl⟩
theorem AD.Ok.g32 {D : AD} (h : D.Ok) {i : Nat} (hi : i < D.n) : D.g i < 4294967296 :=
  Nat.lt_of_lt_of_le (h.gl i hi) (g32_two _)
theorem chk_pos {k : Nat} (hk : k < 8) : 0 < chk k := by
  have a : k = 0 ∨ k = 1 ∨ k = 2 ∨ k = 3 ∨ k = 4 ∨ k = 5 ∨ k = 6 ∨ k = 7 := by omega
  rcases a with rfl | rfl | rfl | rfl | rfl | rfl | rfl | rfl <;> decide
theorem chk_sz (k : Nat) : chk k * szOf k ≤ 1024 := by
  rcases Nat.lt_or_ge k 8 with h | h
  · have a : k = 0 ∨ k = 1 ∨ k = 2 ∨ k = 3 ∨ k = 4 ∨ k = 5 ∨ k = 6 ∨ k = 7 := by omega
    rcases a with rfl | rfl | rfl | rfl | rfl | rfl | rfl | rfl <;> decide
  · unfold chk
    rw [List.getD_eq_getElem?_getD, List.getElem?_eq_none (by simpa using h)]
    simp

/-- One bit of page j put on (its class k). -/
theorem used_hit {D : AD} (h : D.Ok) {k j : Nat} (hj : j < D.n) (hh : D.hit k j) : AD.used { D with g := updN D.g j (D.g j + 2 ^ low (D.g j)) } (k : Nat) = D.used (k : Nat) + 1 := by
  obtain ⟨h0, hc, hl⟩ := hh
  have hg := h.g32 hj
  have h32 := chk_le k
  have hb := (low_spec _ hg).2.1 (by omega)
  rw [used_eq, used_eq]
  have := sumN_one (f := useN D (k : Nat)) (f' := useN { D with g := updN D.g j (D.g j + 2 ^ low (D.g j)) } (k : Nat)) (j := j) (fun i hi => by rw [useN_eq, useN_eq]; show (if (D.c i : Int) = _ then pc (updN D.g j _ i) else 0) = _; rw [updN_ne _ _ _ hi]) D.n hj
  rw [useN_eq, useN_eq] at this
  have e1 : (({ D with g := updN D.g j (D.g j + 2 ^ low (D.g j)) } : AD).c j : Int) = (k : Nat) := by show (D.c j : Int) = _; rw [hc]
  have e2 : ({ D with g := updN D.g j (D.g j + 2 ^ low (D.g j)) } : AD).g j = D.g j + 2 ^ low (D.g j) := updN_same _ _ _
  rw [if_pos e1, if_pos (by rw [hc]), e2, pc_on hg (by omega) hb] at this
  show sumN (useN { D with g := updN D.g j (D.g j + 2 ^ low (D.g j)) } (k : Nat)) D.n = _
  omega
theorem used_page {D : AD} {k j : Nat} (hj : j < D.n) (h0 : D.g j = 0) : AD.used { D with c := updN D.c j k, g := updN D.g j 1 } (k : Nat) = D.used (k : Nat) + 1 := by
  rw [used_eq, used_eq]
  have := sumN_one (f := useN D (k : Nat)) (f' := useN { D with c := updN D.c j k, g := updN D.g j 1 } (k : Nat)) (j := j) (fun i hi => by rw [useN_eq, useN_eq]; show (if (updN D.c j k i : Int) = _ then pc (updN D.g j _ i) else 0) = _; rw [updN_ne _ _ _ hi, updN_ne _ _ _ hi]) D.n hj
  rw [useN_eq, useN_eq] at this
  have e1 : (({ D with c := updN D.c j k, g := updN D.g j 1 } : AD).c j : Int) = (k : Nat) := by show (updN D.c j k j : Int) = _; rw [updN_same]
  have e2 : ({ D with c := updN D.c j k, g := updN D.g j 1 } : AD).g j = 1 := updN_same _ _ _
  rw [if_pos e1, e2, h0, pc_0, show pc 1 = 1 by decide] at this
  have e3 : (if (D.c j : Int) = (k : Nat) then 0 else 0) = 0 := by split <;> rfl
  rw [e3] at this
  exact this
theorem used_take {D : AD} (h : D.Ok) {j p : Nat} (hj : j < D.n) (hp : p < 32) (hb : bitN (D.g j) p = 1) : AD.used { D with g := updN D.g j (D.g j - 2 ^ p) } (D.c j : Nat) + 1 = D.used (D.c j : Nat) := by
  have hg := h.g32 hj
  rw [used_eq, used_eq]
  have := sumN_one (f := useN D (D.c j : Nat)) (f' := useN { D with g := updN D.g j (D.g j - 2 ^ p) } (D.c j : Nat)) (j := j) (fun i hi => by rw [useN_eq, useN_eq]; show (if (D.c i : Int) = _ then pc (updN D.g j _ i) else 0) = _; rw [updN_ne _ _ _ hi]) D.n hj
  rw [useN_eq, useN_eq] at this
  have e2 : ({ D with g := updN D.g j (D.g j - 2 ^ p) } : AD).g j = D.g j - 2 ^ p := updN_same _ _ _
  rw [if_pos (show (({ D with g := updN D.g j (D.g j - 2 ^ p) } : AD).c j : Int) = (D.c j : Nat) from rfl), if_pos rfl, e2] at this
  have := pc_off hg hp hb
  show sumN (useN { D with g := updN D.g j (D.g j - 2 ^ p) } (D.c j : Nat)) D.n + 1 = _
  omega
theorem AD.Ok.give {D D' : AD} {k : Nat} {r q : Int} (h : D.Ok) (hk : k < 8) (hs : GiveS D k r q D') : D'.Ok ∧ D'.n = D.n := by
  cases hs with
  | hit j hj hh hb =>
    refine ⟨⟨h.cl, fun i hi => ?_⟩, rfl⟩
    show updN D.g j _ i < 2 ^ chk (D.c i)
    by_cases e : i = j
    · subst e
      rw [updN_same]
      obtain ⟨h0, hc, hl⟩ := hh
      have h32 := chk_le k
      exact on_lt (h.gl _ hj) (by rw [hc]; exact hl) ((low_spec _ (h.g32 hj)).2.1 (by omega))
    · rw [updN_ne _ _ _ e]; exact h.gl i hi
  | page hn j hj h0 hb =>
    refine ⟨⟨fun i hi => ?_, fun i hi => ?_⟩, rfl⟩
    · show updN D.c j k i < 8
      by_cases e : i = j
      · subst e; rw [updN_same]; exact hk
      · rw [updN_ne _ _ _ e]; exact h.cl i hi
    · show updN D.g j 1 i < 2 ^ chk (updN D.c j k i)
      by_cases e : i = j
      · subst e; rw [updN_same, updN_same]; exact Nat.one_lt_two_pow (by have := chk_pos hk; omega)
      · rw [updN_ne _ _ _ e, updN_ne _ _ _ e]; exact h.gl i hi
  | full hn h1 => exact ⟨h, rfl⟩
theorem AD.Ok.take {D : AD} (h : D.Ok) {j p : Nat} (hj : j < D.n) : AD.Ok { D with g := updN D.g j (D.g j - 2 ^ p) } :=
  ⟨h.cl, fun i hi => by
    show updN D.g j _ i < 2 ^ chk (D.c i)
    by_cases e : i = j
    · subst e; rw [updN_same]; exact Nat.lt_of_le_of_lt (Nat.sub_le _ _) (h.gl _ hj)
    · rw [updN_ne _ _ _ e]; exact h.gl i hi⟩

/-- The chunk r is given, of class k. -/
def AD.Has (D : AD) (r k : Nat) : Prop := r / 32 < D.n ∧ bitN (D.g (r / 32)) (r % 32) = 1 ∧ D.c (r / 32) = k
theorem AD.Has.find {D : AD} {r k : Nat} (h : D.Has r k) : D.find (r : Nat) = 0 := by
  obtain ⟨h1, h2, h3⟩ := h
  unfold AD.find
  rw [if_neg (by omega), Int.toNat_natCast, if_neg (by omega)]
theorem find_has {D : AD} {r : Nat} (h : D.find (r : Nat) = 0) : D.Has r (D.c (r / 32)) := by
  obtain ⟨h1, h2, h3⟩ := find_zero h
  simp only [Int.toNat_natCast] at h2 h3
  exact ⟨h2, h3, rfl⟩
/-- What is given by Give is given; what was given still is; and nothing else. -/
theorem give_has {D D' : AD} {k : Nat} {r q : Int} (h : D.Ok) (hk : k < 8) (hs : GiveS D k r q D') :
    (q = 6 ∧ D' = D ∧ (∀ i, i < D.n → ¬ D.hit k i) ∧ (∀ i, i < D.n → D.g i ≠ 0)) ∨
    (q = 0 ∧ ∃ m : Nat, r = m ∧ D'.Has m k ∧ m < 32 * D.n ∧ D.find (m : Nat) ≠ 0 ∧ (∀ x c, D.Has x c → D'.Has x c) ∧ (∀ x c, D'.Has x c → x = m ∨ D.Has x c) ∧ D'.used (k : Nat) = D.used (k : Nat) + 1) := by
  have hu1 := fun j (hj : j < D.n) hh => used_hit h (k := k) hj hh
  cases hs with
  | hit j hj hh hb =>
    refine .inr ⟨rfl, j * 32 + low (D.g j), rfl, ?_, ?_, ?_, ?_, ?_, hu1 j hj hh⟩
    all_goals obtain ⟨h0, hc, hl⟩ := hh
    all_goals have h32 := chk_le k
    all_goals have hlow : low (D.g j) < 32 := by omega
    all_goals have hb0 := (low_spec _ (h.g32 hj)).2.1 hlow
    all_goals have e1 : (j * 32 + low (D.g j)) / 32 = j := by omega
    all_goals have e2 : (j * 32 + low (D.g j)) % 32 = low (D.g j) := by omega
    · unfold AD.Has
      rw [e1, e2]
      exact ⟨hj, by show bitN (updN D.g j _ j) _ = 1; rw [updN_same, bitN_on hb0, if_pos rfl], hc⟩
    · omega
    · intro hf
      have := (find_has hf).2.1
      rw [e1, e2] at this
      omega
    · rintro x c ⟨x1, x2, x3⟩
      refine ⟨x1, ?_, x3⟩
      show bitN (updN D.g j _ (x / 32)) _ = 1
      by_cases e : x / 32 = j
      · rw [e, updN_same, bitN_on hb0]
        split
        · rfl
        · rw [e] at x2; exact x2
      · rw [updN_ne _ _ _ e]; exact x2
    · rintro x c ⟨x1, x2, x3⟩
      have x2 : bitN (updN D.g j _ (x / 32)) (x % 32) = 1 := x2
      by_cases e : x / 32 = j
      · rw [e, updN_same, bitN_on hb0] at x2
        by_cases e3 : x % 32 = low (D.g j)
        · left; omega
        · rw [if_neg e3] at x2
          exact .inr ⟨x1, by rw [e]; exact x2, x3⟩
      · rw [updN_ne _ _ _ e] at x2
        exact .inr ⟨x1, x2, x3⟩
  | page hn j hj h0 hb =>
    refine .inr ⟨rfl, j * 32, rfl, ?_, ?_, ?_, ?_, ?_, used_page hj h0⟩
    all_goals have e1 : j * 32 / 32 = j := by omega
    all_goals have e2 : j * 32 % 32 = 0 := by omega
    · unfold AD.Has
      rw [e1, e2]
      exact ⟨hj, by show bitN (updN D.g j 1 j) 0 = 1; rw [updN_same]; rfl, by show updN D.c j k j = k; rw [updN_same]⟩
    · omega
    · intro hf
      have := (find_has hf).2.1
      rw [e1, e2, h0, bitN_zero] at this
      omega
    · rintro x c ⟨x1, x2, x3⟩
      have e : x / 32 ≠ j := by
        rintro e
        rw [e, h0, bitN_zero] at x2
        omega
      refine ⟨x1, ?_, ?_⟩
      · show bitN (updN D.g j _ (x / 32)) _ = 1
        rw [updN_ne _ _ _ e]; exact x2
      · show updN D.c j _ (x / 32) = c
        rw [updN_ne _ _ _ e]; exact x3
    · rintro x c ⟨x1, x2, x3⟩
      have x2 : bitN (updN D.g j 1 (x / 32)) (x % 32) = 1 := x2
      have x3 : updN D.c j k (x / 32) = c := x3
      by_cases e : x / 32 = j
      · rw [e, updN_same] at x2
        have : x % 32 = 0 := by
          rcases Nat.eq_zero_or_pos (x % 32) with h | h
          · exact h
          · have := bit_ge x2
            have := Nat.one_lt_two_pow (n := x % 32) (by omega)
            omega
        left; omega
      · rw [updN_ne _ _ _ e] at x2 x3
        exact .inr ⟨x1, x2, x3⟩
  | full hn h1 => exact .inl ⟨rfl, rfl, hn, h1⟩
/-- What Take takes is gone, all else stays. -/
theorem take_has {D : AD} {m k : Nat} (h : D.Has m k) (x c : Nat) : AD.Has { D with g := updN D.g (m / 32) (D.g (m / 32) - 2 ^ (m % 32)) } x c ↔ x ≠ m ∧ D.Has x c := by
  obtain ⟨h1, h2, h3⟩ := h
  unfold AD.Has
  show x / 32 < D.n ∧ bitN (updN D.g (m / 32) _ (x / 32)) _ = 1 ∧ _ ↔ _
  by_cases e : x / 32 = m / 32
  · rw [e, updN_same, bitN_off h2]
    by_cases e2 : x % 32 = m % 32
    · rw [if_pos e2]
      have : x = m := by omega
      simp [this]
    · rw [if_neg e2]
      have : x ≠ m := by rintro rfl; exact e2 rfl
      simp [this]
  · rw [updN_ne _ _ _ e]
    have : x ≠ m := by rintro rfl; exact e rfl
    simp [this]
end Go.Proofs.YthnagihgjenimaaDoor
