/- Disks that lie apart, and rows beside them. -/
import Derived.Test.YtjiammhmeliogaaCopy
import Derived.Test.YtjiammhmeliogaaCut
namespace Go.Proofs.Ytjiammhmeliogaa
open Go.RowKit
set_option linter.unusedVariables false
set_option linter.unusedSimpArgs false

/-- A row: its element's type and size, its value, how many, its cells. -/
structure RowT where
  e : TypeId
  size : Nat
  v : Value
  n : Nat
  xs : List Value
def RowT.at (r : RowT) (w : World) : Prop := w.ownsRow 0 r.e r.size r.v r.n r.xs

/-- Disks and rows, in blocks that are new since w0, apart. -/
structure Many (w0 w : World) (ds : List (DL × DD)) (rs : List RowT) : Prop where
  dk : ∀ (i : Nat) (x : DL × DD), ds[i]? = some x → DkAt w x.1 x.2
  own : ∀ (i : Nat) (x : DL × DD), ds[i]? = some x → ∀ k, x.1.own k → w0.heap.size ≤ k
  ap : ∀ (i j : Nat) (x y : DL × DD), i ≠ j → ds[i]? = some x → ds[j]? = some y → ∀ k, x.1.own k → ¬ y.1.own k
  row : ∀ r : RowT, r ∈ rs → r.at w
  rap : ∀ r : RowT, r ∈ rs → ∀ g : Nat, r.v.ownBlock = some g → w0.heap.size ≤ g ∧ ∀ (i : Nat) (x : DL × DD), ds[i]? = some x → ¬ x.1.own g
  k : Keeps (fun _ => False) w0 w

section
variable {w0 w w' : World} {ds : List (DL × DD)} {rs : List RowT} {L : DL} {D D' : DD} {i : Nat}
theorem Many.start (w : World) : Many w w [] [] := ⟨fun i x h => by simp at h, fun i x h => by simp at h, fun i j x y _ h => by simp at h, fun r h => by simp at h, fun r h => by simp at h, Keeps.refl _ _⟩
theorem Many.quiet (h : Many w0 w ds rs) (hk : Keeps (fun _ => False) w w') : Many w0 w' ds rs :=
  ⟨fun i x hx => (h.dk i x hx).quiet hk, h.own, h.ap, fun r hr => hk.own (h.row r hr) fun _ _ => id, h.rap, h.k.trans hk⟩
theorem Many.other (h : Many w0 w ds rs) {S : Nat → Prop} (hk : Keeps S w w') (hd : ∀ (i : Nat) (x : DL × DD), ds[i]? = some x → ∀ k, x.1.own k → ¬ S k) (hr : ∀ r : RowT, r ∈ rs → ∀ g, r.v.ownBlock = some g → ¬ S g) (h0 : ∀ k, S k → w0.heap.size ≤ k) : Many w0 w' ds rs :=
  ⟨fun i x hx => (h.dk i x hx).keep hk (hd i x hx), h.own, h.ap, fun r hr' => hk.own (h.row r hr') (hr r hr'), h.rap, Keeps.mono (S := S) ((h.k.mono fun _ _ h => h.elim).trans hk) fun k hk' h' => absurd (h0 k h') (Nat.not_le.2 hk')⟩
theorem Many.lt (h : Many w0 w ds rs) {x : DL × DD} (hx : ds[i]? = some x) : ∀ k, x.1.own k → k < w.heap.size := (h.dk i x hx).lt
theorem Many.rlt (h : Many w0 w ds rs) {r : RowT} (hr : r ∈ rs) : ∀ g, r.v.ownBlock = some g → g < w.heap.size := fun g hg => (own_heap (h.row r hr) hg).2.1
/-- A disk is turned: its blocks alone, and new ones. -/
theorem Many.set (h : Many w0 w ds rs) (hx : ds[i]? = some (L, D)) {L' : DL} (hd : DkAt w' L' D') (ho : ∀ k, L'.own k → L.own k ∨ w.heap.size ≤ k) (hk : Keeps L.own w w') : Many w0 w' (ds.set i (L', D')) rs := by
  have hi : i < ds.length := (List.getElem?_eq_some_iff.1 hx).1
  have hget : ∀ j x, (ds.set i (L', D'))[j]? = some x → (j = i ∧ x = (L', D')) ∨ (j ≠ i ∧ ds[j]? = some x) := by
    intro j x hj
    by_cases e : i = j
    · subst e
      rw [List.getElem?_set_self hi] at hj
      injection hj with hj
      exact .inl ⟨rfl, hj.symm⟩
    · rw [List.getElem?_set_ne e] at hj
      exact .inr ⟨fun h => e h.symm, hj⟩
  have hsz := h.k.size
  refine ⟨?_, ?_, ?_, ?_, ?_, ?_⟩
  · intro j x hj
    rcases hget j x hj with ⟨rfl, rfl⟩ | ⟨hne, hj⟩
    · exact hd
    · exact (h.dk j x hj).keep hk fun k h1 h2 => h.ap j i x (L, D) hne hj hx k h1 h2
  · intro j x hj k hk'
    rcases hget j x hj with ⟨rfl, rfl⟩ | ⟨hne, hj⟩
    · rcases ho k hk' with h1 | h1
      · exact h.own _ _ hx k h1
      · omega
    · exact h.own j x hj k hk'
  · intro j l x y hjl hj hl k h1 h2
    rcases hget j x hj with ⟨rfl, rfl⟩ | ⟨hne, hj⟩
    · rcases hget l y hl with ⟨rfl, rfl⟩ | ⟨hne, hl⟩
      · exact hjl rfl
      · rcases ho k h1 with h3 | h3
        · exact h.ap j l _ y hjl hx hl k h3 h2
        · have := h.lt hl k h2
          omega
    · have hj2 := hj
      rcases hget l y hl with ⟨rfl, rfl⟩ | ⟨hne', hl⟩
      · rcases ho k h2 with h3 | h3
        · exact h.ap j l x _ hjl hj2 hx k h1 h3
        · have := h.lt hj2 k h1
          omega
      · exact h.ap j l x y hjl hj2 hl k h1 h2
  · intro r hr
    exact hk.own (h.row r hr) fun g hg hL => (h.rap r hr g hg).2 i _ hx hL
  · intro r hr g hg
    refine ⟨(h.rap r hr g hg).1, fun j x hj h1 => ?_⟩
    rcases hget j x hj with ⟨rfl, rfl⟩ | ⟨hne, hj⟩
    · rcases ho g h1 with h3 | h3
      · exact (h.rap r hr g hg).2 j _ hx h3
      · have := h.rlt hr g hg
        omega
    · exact (h.rap r hr g hg).2 j x hj h1
  · exact Keeps.mono (S := L.own) ((h.k.mono fun _ _ h => h.elim).trans hk) fun k hk' h' => absurd (h.own i _ hx k h') (Nat.not_le.2 hk')
theorem Many.moved (h : Many w0 w ds rs) (hx : ds[i]? = some (L, D)) (hm : DMoved L D' w w') : ∃ L' : DL, L'.ptr = L.ptr ∧ Many w0 w' (ds.set i (L', D')) rs := by
  obtain ⟨L', e1, e2, e3, e4, e5⟩ := hm.here (h.own i _ hx) h.k.size
  exact ⟨L', e1, h.set hx e2 e4 e5⟩
theorem Many.step (h : Many w0 w ds rs) (hx : ds[i]? = some (L, D)) (hd : DkAt w' L D') (hk : Keeps (fun k => k = L.B) w w') : Many w0 w' (ds.set i (L, D')) rs :=
  h.set hx hd (fun k hk => .inl hk) (hk.mono fun k _ e => .inl e)
/-- One more disk. -/
theorem Many.more (h : Many w0 w ds rs) (hd : DkAt w' L D) (ho : ∀ k, L.own k → w.heap.size ≤ k) (hk : Keeps (fun _ => False) w w') : Many w0 w' (ds ++ [(L, D)]) rs := by
  have hget : ∀ j x, (ds ++ [(L, D)])[j]? = some x → (j < ds.length ∧ ds[j]? = some x) ∨ (j = ds.length ∧ x = (L, D)) := by
    intro j x hj
    by_cases e : j < ds.length
    · rw [List.getElem?_append_left e] at hj
      exact .inl ⟨e, hj⟩
    · rw [List.getElem?_append_right (by omega)] at hj
      have hj0 : j - ds.length = 0 := by
        have := (List.getElem?_eq_some_iff.1 hj).1
        simpa using this
      rw [hj0] at hj
      injection hj with hj
      exact .inr ⟨by omega, hj.symm⟩
  have hsz := h.k.size
  refine ⟨?_, ?_, ?_, fun r hr => hk.own (h.row r hr) fun _ _ => id, ?_, h.k.trans hk⟩
  · intro j x hj
    rcases hget j x hj with ⟨_, hj⟩ | ⟨_, rfl⟩
    · exact (h.dk j x hj).quiet hk
    · exact hd
  · intro j x hj k hk'
    rcases hget j x hj with ⟨_, hj⟩ | ⟨_, rfl⟩
    · exact h.own j x hj k hk'
    · have := ho k hk'
      omega
  · intro j l x y hjl hj hl k h1 h2
    rcases hget j x hj with ⟨_, hj⟩ | ⟨ej, rfl⟩
    · rcases hget l y hl with ⟨_, hl⟩ | ⟨_, rfl⟩
      · exact h.ap j l x y hjl hj hl k h1 h2
      · have := h.lt hj k h1
        have := ho k h2
        omega
    · rcases hget l y hl with ⟨_, hl⟩ | ⟨el, rfl⟩
      · have := h.lt hl k h2
        have := ho k h1
        omega
      · omega
  · intro r hr g hg
    refine ⟨(h.rap r hr g hg).1, fun j x hj h1 => ?_⟩
    rcases hget j x hj with ⟨_, hj⟩ | ⟨_, rfl⟩
    · exact (h.rap r hr g hg).2 j x hj h1
    · have := h.rlt hr g hg
      have := ho g h1
      omega
/-- The last disk is forgotten. -/
theorem Many.less {x : DL × DD} (h : Many w0 w (ds ++ [x]) rs) : Many w0 w ds rs := by
  have hget : ∀ j y, ds[j]? = some y → (ds ++ [x])[j]? = some y := fun j y hj => by
    rw [List.getElem?_append_left (List.getElem?_eq_some_iff.1 hj).1]
    exact hj
  exact ⟨fun i y hy => h.dk i y (hget i y hy), fun i y hy => h.own i y (hget i y hy), fun i j y z e hy hz => h.ap i j y z e (hget i y hy) (hget j z hz), h.row, fun r hr g hg => ⟨(h.rap r hr g hg).1, fun i y hy => (h.rap r hr g hg).2 i y (hget i y hy)⟩, h.k⟩
/-- One more row. -/
theorem Many.rmore (h : Many w0 w ds rs) (r : RowT) (hr : r.at w) (hg : ∀ g, r.v.ownBlock = some g → w0.heap.size ≤ g ∧ ∀ (i : Nat) (x : DL × DD), ds[i]? = some x → ¬ x.1.own g) : Many w0 w ds (r :: rs) :=
  ⟨h.dk, h.own, h.ap, fun q hq => by
    rcases List.mem_cons.1 hq with rfl | hq
    · exact hr
    · exact h.row q hq, fun q hq => by
    rcases List.mem_cons.1 hq with rfl | hq
    · exact hg
    · exact h.rap q hq, h.k⟩
theorem Many.rless (h : Many w0 w ds rs) {qs : List RowT} (hq : ∀ r, r ∈ qs → r ∈ rs) : Many w0 w ds qs := ⟨h.dk, h.own, h.ap, fun r hr => h.row r (hq r hr), fun r hr => h.rap r (hq r hr), h.k⟩
/-- A row that is new. -/
theorem Many.rnew (h : Many w0 w ds rs) {ds' : List (DL × DD)} (h' : Many w0 w' ds' rs) (r : RowT) {base : Nat} (hb : w.heap.size ≤ base) (hr : w'.ownsRow base r.e r.size r.v r.n r.xs) (hds : ∀ (i : Nat) (x : DL × DD), ds'[i]? = some x → ∃ y : DL × DD, ds[i]? = some y ∧ ∀ k, x.1.own k → y.1.own k) : Many w0 w' ds' (r :: rs) := by
  refine h'.rmore r (own_base hr (Nat.zero_le _)) fun g hg => ?_
  have h1 := (own_heap hr hg).1
  have h2 := h.k.size
  refine ⟨by omega, fun i x hx h3 => ?_⟩
  obtain ⟨y, hy, h4⟩ := hds i x hx
  have := h.lt hy g (h4 g h3)
  omega

theorem Many.copy (h : Many w0 w ds rs) (hx : ds[i]? = some (L, D)) {p : Value} (hp : L.ptr = p) : Calls Try.prog 37 #[p] w fun e w' => ∃ L' : DL, e = .returned L'.ptr ∧ Many w0 w' (ds ++ [(L', D)]) rs := by
  have hc := copy_any L D w (h.dk i _ hx)
  rw [hp] at hc
  refine hc.mono ?_
  rintro e w' ⟨L', rfl, h1, h2, h3⟩
  exact ⟨L', rfl, h.more h1 h2 h3⟩
theorem Many.crash (h : Many w0 w ds rs) (hx : ds[i]? = some (L, D)) (ka : Option Addr) (kn kc : Nat) (xs : List Bool) (hkr : BoolRow w ka kn xs) (hka : ∀ b off, ka = some ⟨b, off, none⟩ → ¬ L.own b) (hkn : kn ≤ 140737488355328) {p : Value} (hp : L.ptr = p) :
    Calls Try.prog 34 #[p, .slice ka kn kc] w fun e w' => e = .returned (.int .i64 0) ∧ ∃ L' : DL, L'.ptr = p ∧ Many w0 w' (ds.set i (L', D.crash xs)) rs := by
  have hr := crash_any L D w (h.dk i _ hx) ka kn kc xs hkr (fun b off e h1 => hka b off e (.inr (.inl h1))) hkn
  rw [hp] at hr
  refine hr.mono ?_
  rintro e w' ⟨rfl, hm⟩
  obtain ⟨L', e1, e2⟩ := h.moved hx hm
  exact ⟨rfl, L', e1.trans hp, e2⟩
theorem Many.sync (h : Many w0 w ds rs) (hx : ds[i]? = some (L, D)) (hok : D.ok) (hop : D.ops < 1000000000000) {p : Value} (hp : L.ptr = p) :
    Calls Try.prog 31 #[p] w fun e w' => e = .returned (.int .i64 D.sync.1) ∧ ∃ L' : DL, L'.ptr = p ∧ Many w0 w' (ds.set i (L', D.sync.2)) rs := by
  have hr := sync_any L D w (h.dk i _ hx) hok hop
  rw [hp] at hr
  refine hr.mono ?_
  rintro e w' ⟨rfl, hm⟩
  obtain ⟨L', e1, e2⟩ := h.moved hx hm
  exact ⟨rfl, L', e1.trans hp, e2⟩
theorem Many.read (h : Many w0 w ds rs) (hx : ds[i]? = some (L, D)) (hop : D.ops < 1000000000000) (a : Int) {p : Value} (hp : L.ptr = p) :
    Calls Try.prog 27 #[p, .int .i64 a] w fun e w' => e = .returned (.tuple #[.agg (bk (D.read a).1).toArray, .int .i64 (D.read a).2.1]) ∧ Many w0 w' (ds.set i (L, (D.read a).2.2)) rs := by
  have hr := read_any L D w (h.dk i _ hx) hop a
  rw [hp] at hr
  refine hr.mono ?_
  rintro e w' ⟨rfl, h1, h2⟩
  exact ⟨rfl, h.step hx h1 h2⟩
theorem Many.dead (h : Many w0 w ds rs) (hx : ds[i]? = some (L, D)) {p : Value} (hp : L.ptr = p) : Calls Try.prog 30 #[p] w fun e w' => e = .returned (.bool D.dead) ∧ w = w' := by
  have hr := dead_any L D w (h.dk i _ hx)
  rwa [hp] at hr
theorem Many.len (h : Many w0 w ds rs) (hx : ds[i]? = some (L, D)) {p : Value} (hp : L.ptr = p) : Calls Try.prog 26 #[p] w fun e w' => e = .returned (.int .i64 (D.n : Int)) ∧ w = w' := by
  have hr := len_any L D w (h.dk i _ hx)
  rwa [hp] at hr
theorem Many.ops (h : Many w0 w ds rs) (hx : ds[i]? = some (L, D)) {p : Value} (hp : L.ptr = p) : Calls Try.prog 36 #[p] w fun e w' => e = .returned (.int .i64 D.ops) ∧ w = w' := by
  have hr := ops_any L D w (h.dk i _ hx)
  rwa [hp] at hr
theorem Many.pend (h : Many w0 w ds rs) (hx : ds[i]? = some (L, D)) {p : Value} (hp : L.ptr = p) :
    Calls Try.prog 33 #[p] w fun e w' => ∃ ra rc, e = .returned (.slice ra D.p.length rc) ∧ Many w0 w' ds (⟨3, 1, .slice ra D.p.length rc, D.p.length, ats D.p⟩ :: rs) := by
  have hr := pending_any L D w (h.dk i _ hx)
  rw [hp] at hr
  refine hr.mono ?_
  rintro e w' ⟨rv, rfl, h1, h2⟩
  obtain ⟨ra, rc, rfl, _⟩ := own_slice h1
  exact ⟨ra, rc, rfl, h.rnew (h.quiet h2) _ (Nat.le_refl _) h1 fun i x hx => ⟨x, hx, fun _ h => h⟩⟩
theorem Many.held (h : Many w0 w ds rs) (hx : ds[i]? = some (L, D)) (hl : Live D) (hop : D.ops < 900000000000) {p : Value} (hp : L.ptr = p) :
    Calls Try.prog 20 #[p] w fun e w' => ∃ ra rc, e = .returned (.slice ra D.n rc) ∧ Many w0 w' (ds.set i (L, { D with ops := D.ops + D.n })) (⟨27, 64, .slice ra D.n rc, D.n, flat D.holds D.n⟩ :: rs) := by
  have hr := held_any L D w (h.dk i _ hx) hl hop
  rw [hp] at hr
  refine hr.mono ?_
  rintro e w' ⟨rv, rfl, h1, h2, h3⟩
  obtain ⟨ra, rc, rfl, _⟩ := own_slice h1
  refine ⟨ra, rc, rfl, h.rnew (h.step hx h2 h3) _ (Nat.le_refl _) h1 fun j x hj => ?_⟩
  have hi : i < ds.length := (List.getElem?_eq_some_iff.1 hx).1
  by_cases e : i = j
  · subst e
    rw [List.getElem?_set_self hi] at hj
    injection hj with hj
    exact ⟨_, hx, fun k hk => by rw [← hj] at hk; exact hk⟩
  · rw [List.getElem?_set_ne e] at hj
    exact ⟨x, hj, fun _ h => h⟩
theorem Many.same (h : Many w0 w ds rs) {v1 v2 : Value} {n : Nat} {f1 f2 : Nat → List Int} (h1 : (⟨27, 64, v1, n, flat f1 n⟩ : RowT) ∈ rs) (h2 : (⟨27, 64, v2, n, flat f2 n⟩ : RowT) ∈ rs) (hf : ∀ i, i < n → (f1 i).length = 64) (he : ∀ i, i < n → f1 i = f2 i) :
    Calls Try.prog 35 #[v1, v2] w fun e w' => e = .returned (.bool true) ∧ Many w0 w' ds rs := by
  refine (same_any 0 0 v1 v2 n f1 f2 w (h.row _ h1) (h.row _ h2) hf he).mono ?_
  rintro e w' ⟨rfl, hk⟩
  exact ⟨rfl, h.quiet hk⟩
end
end Go.Proofs.Ytjiammhmeliogaa
