/- An arena in memory; New, Free, count. -/
import Derived.Test.YthnagihgjenimaaDoorBits
import Derived.Laws.MakeOwn
namespace Go.Proofs.YthnagihgjenimaaDoor
open Go.RowKit
set_option linter.unusedVariables false
set_option linter.unusedSimpArgs false

/-! ### Rows of the call's own -/
theorem own_heap {w : World} {base size : Nat} {e : TypeId} {v : Value} {n : Nat} {xs : List Value} (h : w.ownsRow base e size v n xs) {g : Nat} (hg : v.ownBlock = some g) :
    base ≤ g ∧ g < w.heap.size ∧ ∃ cur, w.heap[g]? = some (.cells cur e (0, 0)) := by
  obtain ⟨_, hr⟩ := h
  rcases hr with ⟨rfl, _⟩ | ⟨g', cap, cur, rfl, hb, hgg, _⟩
  · simp [Value.ownBlock] at hg
  · simp [Value.ownBlock] at hg
    subst hg
    exact ⟨hb, (Array.getElem?_eq_some_iff.1 hgg).1, cur, hgg⟩
theorem own_base {w : World} {base base' size : Nat} {e : TypeId} {v : Value} {n : Nat} {xs : List Value} (h : w.ownsRow base' e size v n xs) (hb : base ≤ base') : w.ownsRow base e size v n xs := by
  obtain ⟨h1, h2⟩ := h
  refine ⟨h1, ?_⟩
  rcases h2 with h2 | ⟨g, cap, cur, e1, h2, r⟩
  · exact .inl h2
  · exact .inr ⟨g, cap, cur, e1, Nat.le_trans hb h2, r⟩
theorem own_cap {w : World} {base size : Nat} {e : TypeId} {a : Option Addr} {n c : Nat} {m : Nat} {xs : List Value} (h : w.ownsRow base e size (.slice a m c) n xs) : n ≤ c ∧ c ≤ maxLen := by
  rcases h.2 with ⟨h', h''⟩ | ⟨g, cap, cur, e1, _, _, h1, h2, _⟩
  · cases h'
    exact ⟨by omega, by unfold maxLen; omega⟩
  · cases e1
    exact ⟨h1, h2⟩
theorem own_free {w : World} {base size : Nat} {e : TypeId} {g n cap : Nat} {xs : List Value} (h : w.ownsRow base e size (.slice (some ⟨g, 0, none⟩) n cap) n xs) (i : Nat) : w.frozen? ⟨g, i, none⟩ = false := by
  obtain ⟨_, _, cur, hc⟩ := own_heap h (g := g) rfl
  simp [World.frozen?, hc]
theorem own_cell {w : World} {base size : Nat} {e : TypeId} {g n cap : Nat} {xs : List Value} (h : w.ownsRow base e size (.slice (some ⟨g, 0, none⟩) n cap) n xs) {i : Nat} {v : Value} (hv : xs[i]? = some v) : w.cell? ⟨g, i, none⟩ = some v := by
  have := h.cells (g := g) rfl i v hv
  rwa [add0] at this
theorem own_put {w : World} {base size : Nat} {e : TypeId} {g n cap : Nat} {xs : List Value} (h : w.ownsRow base e size (.slice (some ⟨g, 0, none⟩) n cap) n xs) {i : Nat} (u : Value) :
    (w.setCell ⟨g, i, none⟩ u).ownsRow base e size (.slice (some ⟨g, 0, none⟩) n cap) n (xs.set i u) := by
  obtain ⟨hl, hr⟩ := h
  refine ⟨by simpa using hl, ?_⟩
  rcases hr with ⟨h', _⟩ | ⟨g', cap', cur, e1, hb, hg, h1, h2, h3, h4⟩
  · cases h'
  · cases e1
    refine .inr ⟨g, cap, cur.setIfInBounds i u, rfl, hb, ?_, h1, h2, by simpa using h3, ?_⟩
    · simp [World.setCell, Array.getElem?_modify, hg]
    · rw [← h4]; simp [List.take_set]
theorem own_ne_blk {w : World} {B t e base size n : Nat} {cs xs : List Value} {v : Value} (h : Blk w B t cs) (ho : w.ownsRow base e size v n xs) (hne : e ≠ t) : v.ownBlock ≠ some B := by
  intro hg
  obtain ⟨_, _, cur, hc⟩ := own_heap ho hg
  unfold Blk at h
  rw [h] at hc
  injection hc with hc
  injection hc with _ hc
  exact hne hc.symm

/-! ### An arena -/
/-- Pages: their classes, and which chunks of them are given. -/
structure AD where
  n : Nat
  c : Nat → Nat
  g : Nat → Nat
def updN (f : Nat → Nat) (i x : Nat) (j : Nat) : Nat := if j = i then x else f j
theorem updN_same (f : Nat → Nat) (i x : Nat) : updN f i x i = x := by unfold updN; simp
theorem updN_ne (f : Nat → Nat) (i x : Nat) {j : Nat} (h : j ≠ i) : updN f i x j = f j := by unfold updN; rw [if_neg h]
def pgc (D : AD) (j : Nat) : Value := if j % 2 = 0 then .int .i64 (D.c (j / 2) : Nat) else .int .u32 (D.g (j / 2) : Nat)
def pgs (D : AD) : List Value := (List.range (D.n * 2)).map (pgc D)
theorem pgs_len (D : AD) : (pgs D).length = D.n * 2 := by simp [pgs]
theorem pgs_at (D : AD) {j : Nat} (h : j < D.n * 2) : (pgs D)[j]? = some (pgc D j) := by simp [pgs, h]
theorem pgs_c (D : AD) {i : Nat} (h : i < D.n) : (pgs D)[i * 2]? = some (.int .i64 (D.c i : Nat)) := by
  rw [pgs_at D (by omega)]
  unfold pgc
  rw [if_pos (by omega), show i * 2 / 2 = i by omega]
theorem pgs_g (D : AD) {i : Nat} (h : i < D.n) : (pgs D)[i * 2 + 1]? = some (.int .u32 (D.g i : Nat)) := by
  rw [pgs_at D (by omega)]
  unfold pgc
  rw [if_neg (by omega), show (i * 2 + 1) / 2 = i by omega]
theorem pgs_setg (D : AD) {i : Nat} (h : i < D.n) (x : Nat) : (pgs D).set (i * 2 + 1) (.int .u32 (x : Nat)) = pgs { D with g := updN D.g i x } := by
  apply List.ext_getElem?
  intro j
  rcases Nat.lt_or_ge j (D.n * 2) with hj | hj
  · rw [pgs_at { D with g := updN D.g i x } hj]
    by_cases e : j = i * 2 + 1
    · subst e
      rw [List.getElem?_set_self (by rw [pgs_len]; exact hj)]
      unfold pgc
      rw [if_neg (by omega)]
      show _ = some (Value.int .u32 ((updN D.g i x ((i * 2 + 1) / 2) : Nat) : Int))
      rw [show (i * 2 + 1) / 2 = i by omega, updN_same]
    · rw [List.getElem?_set_ne (fun h => e h.symm), pgs_at D hj]
      unfold pgc
      by_cases h2 : j % 2 = 0
      · rw [if_pos h2, if_pos h2]
      · rw [if_neg h2, if_neg h2]
        show _ = some (Value.int .u32 ((updN D.g i x (j / 2) : Nat) : Int))
        rw [updN_ne _ _ _ (by omega)]
  · rw [List.getElem?_eq_none (by simp [pgs_len]; exact hj), List.getElem?_eq_none (by rw [pgs_len]; exact hj)]
theorem pgs_setc (D : AD) {i : Nat} (h : i < D.n) (x : Nat) : (pgs D).set (i * 2) (.int .i64 (x : Nat)) = pgs { D with c := updN D.c i x } := by
  apply List.ext_getElem?
  intro j
  rcases Nat.lt_or_ge j (D.n * 2) with hj | hj
  · rw [pgs_at { D with c := updN D.c i x } hj]
    by_cases e : j = i * 2
    · subst e
      rw [List.getElem?_set_self (by rw [pgs_len]; exact hj)]
      unfold pgc
      rw [if_pos (by omega)]
      show _ = some (Value.int .i64 ((updN D.c i x (i * 2 / 2) : Nat) : Int))
      rw [show i * 2 / 2 = i by omega, updN_same]
    · rw [List.getElem?_set_ne (fun h => e h.symm), pgs_at D hj]
      unfold pgc
      by_cases h2 : j % 2 = 0
      · rw [if_pos h2, if_pos h2]
        show _ = some (Value.int .i64 ((updN D.c i x (j / 2) : Nat) : Int))
        rw [updN_ne _ _ _ (by omega)]
      · rw [if_neg h2, if_neg h2]
  · rw [List.getElem?_eq_none (by simp [pgs_len]; exact hj), List.getElem?_eq_none (by rw [pgs_len]; exact hj)]

/-- Where an arena lies. -/
structure AL where
  B : Nat
  G : Nat
  cap : Nat
def AL.ptr (L : AL) : Value := .pointer (some ⟨L.B, 0, none⟩)
def AL.own (L : AL) (k : Nat) : Prop := k = L.B ∨ k = L.G
structure ArAt (w : World) (L : AL) (D : AD) : Prop where
  obj : Blk w L.B 98 [.slice (some ⟨L.G, 0, none⟩) D.n L.cap]
  row : w.ownsRow 0 101 2 (.slice (some ⟨L.G, 0, none⟩) D.n L.cap) D.n (pgs D)
  n1 : 1 ≤ D.n
  n2 : D.n ≤ 256
  cl : ∀ i, i < D.n → D.c i < 8
  gl : ∀ i, i < D.n → D.g i < 2 ^ chk (D.c i)

section
variable {w w' : World} {L : AL} {D D' : AD}
theorem ArAt.lt (h : ArAt w L D) : ∀ k, L.own k → k < w.heap.size := by
  intro k hk
  rcases hk with rfl | rfl
  · exact h.obj.lt
  · exact (own_heap h.row rfl).2.1
theorem ArAt.keep (h : ArAt w L D) {S : Nat → Prop} (hk : Keeps S w w') (hS : ∀ k, L.own k → ¬ S k) : ArAt w' L D :=
  ⟨hk.blk h.obj (hS _ (.inl rfl)), hk.own h.row fun g hg => hS g (.inr (by injection hg with hg; exact hg.symm)), h.n1, h.n2, h.cl, h.gl⟩
theorem ArAt.quiet (h : ArAt w L D) (hk : Keeps (fun _ => False) w w') : ArAt w' L D := h.keep hk fun _ _ => id
theorem chk_le (k : Nat) : chk k ≤ 32 := by
  unfold chk
  rcases Nat.lt_or_ge k 8 with h | h
  · have a : k = 0 ∨ k = 1 ∨ k = 2 ∨ k = 3 ∨ k = 4 ∨ k = 5 ∨ k = 6 ∨ k = 7 := by omega
    rcases a with rfl | rfl | rfl | rfl | rfl | rfl | rfl | rfl <;> decide
  · rw [List.getD_eq_getElem?_getD, List.getElem?_eq_none (by simpa using h)]
    simp
theorem ArAt.g32 (h : ArAt w L D) {i : Nat} (hi : i < D.n) : D.g i < 4294967296 :=
  Nat.lt_of_lt_of_le (h.gl i hi) (Nat.pow_le_pow_right (by decide) (chk_le _))
theorem ArAt.cells (h : ArAt w L D) : w.cell? ⟨L.B, 0, none⟩ = some (.slice (some ⟨L.G, 0, none⟩) D.n L.cap) ∧ (∀ i, i < D.n → w.cell? ⟨L.G, i * 2, none⟩ = some (.int .i64 (D.c i : Nat)) ∧ w.cell? ⟨L.G, i * 2 + 1, none⟩ = some (.int .u32 (D.g i : Nat))) :=
  ⟨h.obj.cell rfl, fun i hi => ⟨own_cell h.row (pgs_c D hi), own_cell h.row (pgs_g D hi)⟩⟩
end

/-! ### Counting -/
def cnt (p : Nat → Bool) : Nat → Nat
  | 0 => 0
  | n + 1 => cnt p n + if p n then 1 else 0
def sumN (f : Nat → Nat) : Nat → Nat
  | 0 => 0
  | n + 1 => sumN f n + f n
theorem cnt_le (p : Nat → Bool) : ∀ n, cnt p n ≤ n
  | 0 => Nat.le_refl _
  | n + 1 => by
    have := cnt_le p n
    simp only [cnt]
    split <;> omega
def AD.free (D : AD) : Nat := cnt (fun i => D.g i == 0) D.n
def isOf (D : AD) (k : Int) (i : Nat) : Bool := D.g i != 0 && decide ((D.c i : Int) = k)
def AD.pages (D : AD) (k : Int) : Nat := cnt (isOf D k) D.n
def AD.used (D : AD) (k : Int) : Nat := sumN (fun i => if isOf D k i then pc (D.g i) else 0) D.n

def AD.fresh (n : Nat) : AD := ⟨n, fun _ => 0, fun _ => 0⟩
theorem info101 : (Tryd.prog.info? 101).map (fun i => (i.zero.map (·.cells), i.size, i.bytes)) = some (some #[.int .i64 0, .int .u32 0], 2, 16) := by kernel_rfl
theorem info101' : ∃ i z, Tryd.prog.info? 101 = some i ∧ i.zero = some z ∧ z.cells = #[.int .i64 0, .int .u32 0] ∧ i.size = 2 ∧ i.bytes = 16 := by
  have h := info101
  cases hi : Tryd.prog.info? 101 with
  | none => rw [hi] at h; cases h
  | some it =>
    rw [hi] at h
    simp at h
    obtain ⟨⟨z, h1, h2⟩, h3, h4⟩ := h
    exact ⟨it, z, rfl, h1, h2, h3, h4⟩
theorem made101 (n : Nat) : madeCells #[Value.int .i64 0, Value.int .u32 0] (n * 2) = (pgs (AD.fresh n)).toArray := by
  apply Array.ext
  · simp [madeCells, pgs, AD.fresh]
  · intro j h1 h2
    simp only [madeCells, pgs, pgc, AD.fresh, Array.getElem_map, Array.getElem_range, List.getElem_toArray, List.getElem_map, List.getElem_range]
    have hj : j % 2 = 0 ∨ j % 2 = 1 := by omega
    rcases hj with e | e <;> simp [e]
theorem make96 (n : Nat) (hn : n ≤ 256) (w : World) : (Instr.makeSlice 96 (.int .i64 (n : Int)) (.int .i64 (n : Int))).run Tryd.prog w = .ok (.slice (some ⟨w.heap.size, 0, none⟩) n n) (w.alloc (.cells (pgs (AD.fresh n)).toArray 101)) := by
  obtain ⟨it, z, h1, h2, h3, h4, h5⟩ := info101'
  have h := run_make (P := Tryd.prog) w 96 101 it z Tryd.underlying96 h1 h2 .i64 .i64 (n : Int) (n : Int) (by omega) (Int.le_refl _) (by rw [h5]; omega) (by omega)
  rw [h3, h4] at h
  simp only [Int.toNat_natCast] at h
  rw [made101] at h
  exact h
def ANewP (n : Nat) (w : World) (e : Ending) (w' : World) : Prop := ∃ L : AL, e = .returned (.tuple #[L.ptr, .int .i64 0]) ∧ ArAt w' L (AD.fresh n) ∧ (∀ k, L.own k → w.heap.size ≤ k) ∧ Keeps (fun _ => False) w w'
theorem anew_ok (n : Nat) (h1 : 1 ≤ n) (h2 : n ≤ 256) (w : World) : Calls Tryd.prog 18 #[.int .i64 (n : Int)] w (ANewP n w) := by
  have hmk := make96 n h2 w
  have hlo : decide ((n : Int) < 1) = false := by simp; omega
  have hhi : decide (256 < (n : Int)) = false := by simp; omega
  have hl : (pgs (AD.fresh n)).length = n * 2 := pgs_len _
  have HF : Hid (ANewP n w (.returned (.tuple #[.pointer (some ⟨w.heap.size + 1, 0, none⟩), .int .i64 0])) ((w.alloc (.cells (pgs (AD.fresh n)).toArray 101)).alloc (.cells #[.slice (some ⟨w.heap.size, 0, none⟩) n n] 98))) := Lib.hid (by
    have b2 := Blk.new (w.alloc (.cells (pgs (AD.fresh n)).toArray 101)) 98 [.slice (some ⟨w.heap.size, 0, none⟩) n n]
    rw [World.size_alloc] at b2
    refine ⟨⟨w.heap.size + 1, w.heap.size, n⟩, rfl, ⟨b2, ?_, h1, h2, fun i _ => by show 0 < 8; omega, fun i _ => Nat.pow_pos (by decide)⟩, fun k hk => ?_, ((Keeps.refl _ _).alloc _).alloc _⟩
    · exact World.ownsRow.alloc (own_base (by
        have hx : (w.alloc (.cells (pgs (AD.fresh n)).toArray 101)).ownsRow w.heap.size 101 2 (.slice (some ⟨w.heap.size, 0, none⟩) n n) n (pgs (AD.fresh n)) :=
          ⟨hl, .inr ⟨w.heap.size, n, _, rfl, Nat.le_refl _, heap_alloc_new w _, Nat.le_refl _, by unfold maxLen; omega, by simpa using hl, by show List.take (n * 2) (pgs (AD.fresh n)).toArray.toList = _; rw [show n * 2 = (pgs (AD.fresh n)).length from hl.symm]; simp⟩⟩
        exact hx) (Nat.zero_le _)) _
    · rcases hk with rfl | rfl
      · exact Nat.le_succ _
      · exact Nat.le_refl _)
  clear hl
  go_enter Tryd.func18, Tryd.ntmps18
  go_wp2
  go_ret2
  exact HF.out
theorem anew_bad (n : Int) (h : n < 1 ∨ 256 < n) (w : World) : Calls Tryd.prog 18 #[.int .i64 n] w fun e w' => e = .returned (.tuple #[.pointer none, .int .i64 2]) ∧ w = w' := by
  rcases h with h | h
  · go_enter Tryd.func18, Tryd.ntmps18
    go_wp2
    go_ret2
    exact ⟨rfl, rfl⟩
  · have h' : decide (n < 1) = false := by simp; omega
    go_enter Tryd.func18, Tryd.ntmps18
    go_wp2
    go_ret2
    exact ⟨rfl, rfl⟩
end Go.Proofs.YthnagihgjenimaaDoor
