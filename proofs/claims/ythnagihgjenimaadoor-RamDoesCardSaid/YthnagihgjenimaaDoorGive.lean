/- Merged of: Arena Tell Find Nb Take Low Give. -/
import Derived.Test.YthnagihgjenimaaDoorBits
import Derived.Laws.MakeOwn
/- An arena in memory; New, Free, count. -/
namespace Go.Proofs.YthnagihgjenimaaDoor
open Go.RowKit
set_option linter.unusedVariables false
set_option linter.unusedSimpArgs false

/-! ### Rows of the call's own -/
theorem own_heap {w : World} {base size : Nat} {e : TypeId} {v : Value} {n : Nat} {xs : List Value} (h : w.ownsRow base e size v n xs) {g : Nat} (hg : v.ownBlock = some g) :
    base ≤ g ∧ g < w.heap.size ∧ ∃ cur, w.heap[g]? = some (.cells cur e (0, 0)) := by
  obtain ⟨_, hr⟩ := h
  rcases hr with ⟨rfl, _⟩ | ⟨g', cap, cur, rfl, hb, hgg, _⟩
  · simp [Value.ownBlock] at hg
  · simp [Value.ownBlock] at hg
    subst hg
    exact ⟨hb, (Array.getElem?_eq_some_iff.1 hgg).1, cur, hgg⟩
theorem own_base {w : World} {base base' size : Nat} {e : TypeId} {v : Value} {n : Nat} {xs : List Value} (h : w.ownsRow base' e size v n xs) (hb : base ≤ base') : w.ownsRow base e size v n xs := by
  obtain ⟨h1, h2⟩ := h
  refine ⟨h1, ?_⟩
  rcases h2 with h2 | ⟨g, cap, cur, e1, h2, r⟩
  · exact .inl h2
  · exact .inr ⟨g, cap, cur, e1, Nat.le_trans hb h2, r⟩
theorem own_cap {w : World} {base size : Nat} {e : TypeId} {a : Option Addr} {n c : Nat} {m : Nat} {xs : List Value} (h : w.ownsRow base e size (.slice a m c) n xs) : n ≤ c ∧ c ≤ maxLen := by
  rcases h.2 with ⟨h', h''⟩ | ⟨g, cap, cur, e1, _, _, h1, h2, _⟩
  · cases h'
    exact ⟨by omega, by unfold maxLen; omega⟩
  · cases e1
    exact ⟨h1, h2⟩
theorem own_free {w : World} {base size : Nat} {e : TypeId} {g n cap : Nat} {xs : List Value} (h : w.ownsRow base e size (.slice (some ⟨g, 0, none⟩) n cap) n xs) (i : Nat) : w.frozen? ⟨g, i, none⟩ = false := by
  obtain ⟨_, _, cur, hc⟩ := own_heap h (g := g) rfl
  simp [World.frozen?, hc]
theorem own_cell {w : World} {base size : Nat} {e : TypeId} {g n cap : Nat} {xs : List Value} (h : w.ownsRow base e size (.slice (some ⟨g, 0, none⟩) n cap) n xs) {i : Nat} {v : Value} (hv : xs[i]? = some v) : w.cell? ⟨g, i, none⟩ = some v := by
  have := h.cells (g := g) rfl i v hv
  rwa [add0] at this
theorem own_put {w : World} {base size : Nat} {e : TypeId} {g n cap : Nat} {xs : List Value} (h : w.ownsRow base e size (.slice (some ⟨g, 0, none⟩) n cap) n xs) {i : Nat} (u : Value) :
    (w.setCell ⟨g, i, none⟩ u).ownsRow base e size (.slice (some ⟨g, 0, none⟩) n cap) n (xs.set i u) := by
  obtain ⟨hl, hr⟩ := h
  refine ⟨by simpa using hl, ?_⟩
  rcases hr with ⟨h', _⟩ | ⟨g', cap', cur, e1, hb, hg, h1, h2, h3, h4⟩
  · cases h'
  · cases e1
    refine .inr ⟨g, cap, cur.setIfInBounds i u, rfl, hb, ?_, h1, h2, by simpa using h3, ?_⟩
    · simp [World.setCell, Array.getElem?_modify, hg]
    · rw [← h4]; simp [List.take_set]
theorem own_ne_blk {w : World} {B t e base size n : Nat} {cs xs : List Value} {v : Value} (h : Blk w B t cs) (ho : w.ownsRow base e size v n xs) (hne : e ≠ t) : v.ownBlock ≠ some B := by
  intro hg
  obtain ⟨_, _, cur, hc⟩ := own_heap ho hg
  unfold Blk at h
  rw [h] at hc
  injection hc with hc
  injection hc with _ hc
  exact hne hc.symm

/-! ### An arena -/
/-- Pages: their classes, and which chunks of them are given. -/
structure AD where
  n : Nat
  c : Nat → Nat
  g : Nat → Nat
def updN (f : Nat → Nat) (i x : Nat) (j : Nat) : Nat := if j = i then x else f j
theorem updN_same (f : Nat → Nat) (i x : Nat) : updN f i x i = x := by unfold updN; simp
theorem updN_ne (f : Nat → Nat) (i x : Nat) {j : Nat} (h : j ≠ i) : updN f i x j = f j := by unfold updN; rw [if_neg h]
def pgc (D : AD) (j : Nat) : Value := if j % 2 = 0 then .int .i64 (D.c (j / 2) : Nat) else .int .u32 (D.g (j / 2) : Nat)
def pgs (D : AD) : List Value := (List.range (D.n * 2)).map (pgc D)
theorem pgs_len (D : AD) : (pgs D).length = D.n * 2 := by simp [pgs]
theorem pgs_at (D : AD) {j : Nat} (h : j < D.n * 2) : (pgs D)[j]? = some (pgc D j) := by simp [pgs, h]
theorem pgs_c (D : AD) {i : Nat} (h : i < D.n) : (pgs D)[i * 2]? = some (.int .i64 (D.c i : Nat)) := by
  rw [pgs_at D (by omega)]
  unfold pgc
  rw [if_pos (by omega), show i * 2 / 2 = i by omega]
theorem pgs_g (D : AD) {i : Nat} (h : i < D.n) : (pgs D)[i * 2 + 1]? = some (.int .u32 (D.g i : Nat)) := by
  rw [pgs_at D (by omega)]
  unfold pgc
  rw [if_neg (by omega), show (i * 2 + 1) / 2 = i by omega]
theorem pgs_setg (D : AD) {i : Nat} (h : i < D.n) (x : Nat) : (pgs D).set (i * 2 + 1) (.int .u32 (x : Nat)) = pgs { D with g := updN D.g i x } := by
  apply List.ext_getElem?
  intro j
  rcases Nat.lt_or_ge j (D.n * 2) with hj | hj
  · rw [pgs_at { D with g := updN D.g i x } hj]
    by_cases e : j = i * 2 + 1
    · subst e
      rw [List.getElem?_set_self (by rw [pgs_len]; exact hj)]
      unfold pgc
      rw [if_neg (by omega)]
      show _ = some (Value.int .u32 ((updN D.g i x ((i * 2 + 1) / 2) : Nat) : Int))
      rw [show (i * 2 + 1) / 2 = i by omega, updN_same]
    · rw [List.getElem?_set_ne (fun h => e h.symm), pgs_at D hj]
      unfold pgc
      by_cases h2 : j % 2 = 0
      · rw [if_pos h2, if_pos h2]
      · rw [if_neg h2, if_neg h2]
        show _ = some (Value.int .u32 ((updN D.g i x (j / 2) : Nat) : Int))
        rw [updN_ne _ _ _ (by omega)]
  · rw [List.getElem?_eq_none (by simp [pgs_len]; exact hj), List.getElem?_eq_none (by rw [pgs_len]; exact hj)]
theorem pgs_setc (D : AD) {i : Nat} (h : i < D.n) (x : Nat) : (pgs D).set (i * 2) (.int .i64 (x : Nat)) = pgs { D with c := updN D.c i x } := by
  apply List.ext_getElem?
  intro j
  rcases Nat.lt_or_ge j (D.n * 2) with hj | hj
  · rw [pgs_at { D with c := updN D.c i x } hj]
    by_cases e : j = i * 2
    · subst e
      rw [List.getElem?_set_self (by rw [pgs_len]; exact hj)]
      unfold pgc
      rw [if_pos (by omega)]
      show _ = some (Value.int .i64 ((updN D.c i x (i * 2 / 2) : Nat) : Int))
      rw [show i * 2 / 2 = i by omega, updN_same]
    · rw [List.getElem?_set_ne (fun h => e h.symm), pgs_at D hj]
      unfold pgc
      by_cases h2 : j % 2 = 0
      · rw [if_pos h2, if_pos h2]
        show _ = some (Value.int .i64 ((updN D.c i x (j / 2) : Nat) : Int))
        rw [updN_ne _ _ _ (by omega)]
      · rw [if_neg h2, if_neg h2]
  · rw [List.getElem?_eq_none (by simp [pgs_len]; exact hj), List.getElem?_eq_none (by rw [pgs_len]; exact hj)]

/-- Where an arena lies. -/
structure AL where
  B : Nat
  G : Nat
  cap : Nat
def AL.ptr (L : AL) : Value := .pointer (some ⟨L.B, 0, none⟩)
def AL.own (L : AL) (k : Nat) : Prop := k = L.B ∨ k = L.G
structure ArAt (w : World) (L : AL) (D : AD) : Prop where
  obj : Blk w L.B 98 [.slice (some ⟨L.G, 0, none⟩) D.n L.cap]
  row : w.ownsRow 0 101 2 (.slice (some ⟨L.G, 0, none⟩) D.n L.cap) D.n (pgs D)
  n1 : 1 ≤ D.n
  n2 : D.n ≤ 256
  cl : ∀ i, i < D.n → D.c i < 8
  gl : ∀ i, i < D.n → D.g i < 2 ^ chk (D.c i)

section
variable {w w' : World} {L : AL} {D D' : AD}
theorem ArAt.lt (h : ArAt w L D) : ∀ k, L.own k → k < w.heap.size := by
  intro k hk
  rcases hk with rfl | rfl
  · exact h.obj.lt
  · exact (own_heap h.row rfl).2.1
theorem ArAt.keep (h : ArAt w L D) {S : Nat → Prop} (hk : Keeps S w w') (hS : ∀ k, L.own k → ¬ S k) : ArAt w' L D :=
  ⟨hk.blk h.obj (hS _ (.inl rfl)), hk.own h.row fun g hg => hS g (.inr (by injection hg with hg; exact hg.symm)), h.n1, h.n2, h.cl, h.gl⟩
theorem ArAt.quiet (h : ArAt w L D) (hk : Keeps (fun _ => False) w w') : ArAt w' L D := h.keep hk fun _ _ => id
theorem chk_le (k : Nat) : chk k ≤ 32 := by
  unfold chk
  rcases Nat.lt_or_ge k 8 with h | h
  · have a : k = 0 ∨ k = 1 ∨ k = 2 ∨ k = 3 ∨ k = 4 ∨ k = 5 ∨ k = 6 ∨ k = 7 := by omega
    rcases a with rfl | rfl | rfl | rfl | rfl | rfl | rfl | rfl <;> decide
  · rw [List.getD_eq_getElem?_getD, List.getElem?_eq_none (by simpa using h)]
    simp
theorem ArAt.g32 (h : ArAt w L D) {i : Nat} (hi : i < D.n) : D.g i < 4294967296 :=
  Nat.lt_of_lt_of_le (h.gl i hi) (Nat.pow_le_pow_right (by decide) (chk_le _))
theorem ArAt.cells (h : ArAt w L D) : w.cell? ⟨L.B, 0, none⟩ = some (.slice (some ⟨L.G, 0, none⟩) D.n L.cap) ∧ (∀ i, i < D.n → w.cell? ⟨L.G, i * 2, none⟩ = some (.int .i64 (D.c i : Nat)) ∧ w.cell? ⟨L.G, i * 2 + 1, none⟩ = some (.int .u32 (D.g i : Nat))) :=
  ⟨h.obj.cell rfl, fun i hi => ⟨own_cell h.row (pgs_c D hi), own_cell h.row (pgs_g D hi)⟩⟩
end

/-! ### Counting -/
def cnt (p : Nat → Bool) : Nat → Nat
  | 0 => 0
  | n + 1 => cnt p n + if p n then 1 else 0
def sumN (f : Nat → Nat) : Nat → Nat
  | 0 => 0
  | n + 1 => sumN f n + f n
theorem cnt_le (p : Nat → Bool) : ∀ n, cnt p n ≤ n
  | 0 => Nat.le_refl _
  | n + 1 => by
    have := cnt_le p n
    simp only [cnt]
    split <;> omega
def AD.free (D : AD) : Nat := cnt (fun i => D.g i == 0) D.n
def isOf (D : AD) (k : Int) (i : Nat) : Bool := D.g i != 0 && decide ((D.c i : Int) = k)
def AD.pages (D : AD) (k : Int) : Nat := cnt (isOf D k) D.n
def AD.used (D : AD) (k : Int) : Nat := sumN (fun i => if isOf D k i then pc (D.g i) else 0) D.n

def AD.fresh (n : Nat) : AD := ⟨n, fun _ => 0, fun _ => 0⟩
theorem info101 : (Tryd.prog.info? 101).map (fun i => (i.zero.map (·.cells), i.size, i.bytes)) = some (some #[.int .i64 0, .int .u32 0], 2, 16) := by kernel_rfl
theorem info101' : ∃ i z, Tryd.prog.info? 101 = some i ∧ i.zero = some z ∧ z.cells = #[.int .i64 0, .int .u32 0] ∧ i.size = 2 ∧ i.bytes = 16 := by
  have h := info101
  cases hi : Tryd.prog.info? 101 with
  | none => rw [hi] at h; cases h
  | some it =>
    rw [hi] at h
    simp at h
    obtain ⟨⟨z, h1, h2⟩, h3, h4⟩ := h
    exact ⟨it, z, rfl, h1, h2, h3, h4⟩
theorem made101 (n : Nat) : madeCells #[Value.int .i64 0, Value.int .u32 0] (n * 2) = (pgs (AD.fresh n)).toArray := by
  apply Array.ext
  · simp [madeCells, pgs, AD.fresh]
  · intro j h1 h2
    simp only [madeCells, pgs, pgc, AD.fresh, Array.getElem_map, Array.getElem_range, List.getElem_toArray, List.getElem_map, List.getElem_range]
    have hj : j % 2 = 0 ∨ j % 2 = 1 := by omega
    rcases hj with e | e <;> simp [e]
theorem make96 (n : Nat) (hn : n ≤ 256) (w : World) : (Instr.makeSlice 96 (.int .i64 (n : Int)) (.int .i64 (n : Int))).run Tryd.prog w = .ok (.slice (some ⟨w.heap.size, 0, none⟩) n n) (w.alloc (.cells (pgs (AD.fresh n)).toArray 101)) := by
  obtain ⟨it, z, h1, h2, h3, h4, h5⟩ := info101'
  have h := run_make (P := Tryd.prog) w 96 101 it z Tryd.underlying96 h1 h2 .i64 .i64 (n : Int) (n : Int) (by omega) (Int.le_refl _) (by rw [h5]; omega) (by omega)
  rw [h3, h4] at h
  simp only [Int.toNat_natCast] at h
  rw [made101] at h
  exact h
def ANewP (n : Nat) (w : World) (e : Ending) (w' : World) : Prop := ∃ L : AL, e = .returned (.tuple #[L.ptr, .int .i64 0]) ∧ ArAt w' L (AD.fresh n) ∧ (∀ k, L.own k → w.heap.size ≤ k) ∧ Keeps (fun _ => False) w w'
theorem anew_ok (n : Nat) (h1 : 1 ≤ n) (h2 : n ≤ 256) (w : World) : Calls Tryd.prog 18 #[.int .i64 (n : Int)] w (ANewP n w) := by
  have hmk := make96 n h2 w
  have hlo : decide ((n : Int) < 1) = false := by simp; omega
  have hhi : decide (256 < (n : Int)) = false := by simp; omega
  have hl : (pgs (AD.fresh n)).length = n * 2 := pgs_len _
  have HF : Hid (ANewP n w (.returned (.tuple #[.pointer (some ⟨w.heap.size + 1, 0, none⟩), .int .i64 0])) ((w.alloc (.cells (pgs (AD.fresh n)).toArray 101)).alloc (.cells #[.slice (some ⟨w.heap.size, 0, none⟩) n n] 98))) := Lib.hid (by
    have b2 := Blk.new (w.alloc (.cells (pgs (AD.fresh n)).toArray 101)) 98 [.slice (some ⟨w.heap.size, 0, none⟩) n n]
    rw [World.size_alloc] at b2
    refine ⟨⟨w.heap.size + 1, w.heap.size, n⟩, rfl, ⟨b2, ?_, h1, h2, fun i _ => by show 0 < 8; omega, fun i _ => Nat.pow_pos (by decide)⟩, fun k hk => ?_, ((Keeps.refl _ _).alloc _).alloc _⟩
    · exact World.ownsRow.alloc (own_base (by
        have hx : (w.alloc (.cells (pgs (AD.fresh n)).toArray 101)).ownsRow w.heap.size 101 2 (.slice (some ⟨w.heap.size, 0, none⟩) n n) n (pgs (AD.fresh n)) :=
          ⟨hl, .inr ⟨w.heap.size, n, _, rfl, Nat.le_refl _, heap_alloc_new w _, Nat.le_refl _, by unfold maxLen; omega, by simpa using hl, by show List.take (n * 2) (pgs (AD.fresh n)).toArray.toList = _; rw [show n * 2 = (pgs (AD.fresh n)).length from hl.symm]; simp⟩⟩
        exact hx) (Nat.zero_le _)) _
    · rcases hk with rfl | rfl
      · exact Nat.le_succ _
      · exact Nat.le_refl _)
  clear hl
  go_enter Tryd.func18, Tryd.ntmps18
  go_wp2
  go_ret2
  exact HF.out
theorem anew_bad (n : Int) (h : n < 1 ∨ 256 < n) (w : World) : Calls Tryd.prog 18 #[.int .i64 n] w fun e w' => e = .returned (.tuple #[.pointer none, .int .i64 2]) ∧ w = w' := by
  rcases h with h | h
  · go_enter Tryd.func18, Tryd.ntmps18
    go_wp2
    go_ret2
    exact ⟨rfl, rfl⟩
  · have h' : decide (n < 1) = false := by simp; omega
    go_enter Tryd.func18, Tryd.ntmps18
    go_wp2
    go_ret2
    exact ⟨rfl, rfl⟩
end Go.Proofs.YthnagihgjenimaaDoor

/- slab: Size, Chunks; what is told of an arena: Free, Used, Pages. -/
namespace Go.Proofs.YthnagihgjenimaaDoor
open Go.RowKit
set_option linter.unusedVariables false
set_option linter.unusedSimpArgs false

/-- A class's size; a page's chunks of it. -/
def sizeI (c : Int) : Nat := if 0 ≤ c ∧ c < 8 then szOf c.toNat else 0
def chunkI (c : Int) : Nat := if 0 ≤ c ∧ c < 8 then chk c.toNat else 0
def NatP (x : Nat) (w : World) (e : Ending) (w' : World) : Prop := e = .returned (.int .i64 (x : Nat)) ∧ Keeps (fun _ => False) w w'
theorem sz_le (r : Nat) : szOf r ≤ 1024 := by
  unfold szOf
  rcases Nat.lt_or_ge r 8 with h | h
  · have a : r = 0 ∨ r = 1 ∨ r = 2 ∨ r = 3 ∨ r = 4 ∨ r = 5 ∨ r = 6 ∨ r = 7 := by omega
    rcases a with rfl | rfl | rfl | rfl | rfl | rfl | rfl | rfl <;> decide
  · rw [List.getD_eq_getElem?_getD, List.getElem?_eq_none (by simpa using h)]
    simp
theorem sz_div (r : Nat) (hr : r < 8) : 1 ≤ szOf r ∧ 1024 / szOf r = chk r := by
  have a : r = 0 ∨ r = 1 ∨ r = 2 ∨ r = 3 ∨ r = 4 ∨ r = 5 ∨ r = 6 ∨ r = 7 := by omega
  rcases a with rfl | rfl | rfl | rfl | rfl | rfl | rfl | rfl <;> decide
theorem size_any (c : Int) (w : World) : Calls Tryd.prog 16 #[.int .i64 c] w (NatP (sizeI c) w) := by
  by_cases h : 0 ≤ c ∧ c < 8
  · obtain ⟨r, rfl⟩ := Int.eq_ofNat_of_zero_le h.1
    have hr : r < 8 := by omega
    have hi := fun W => six r hr W
    have e : sizeI (r : Int) = szOf r := by unfold sizeI; rw [if_pos h]; simp
    rw [e]
    have h1 : decide ((r : Int) < 0) = false := by simp
    have h2 : decide (8 ≤ (r : Int)) = false := by simp; omega
    clear e h
    go_enter Tryd.func16, Tryd.ntmps16
    go_wp2_with (go_at_call 54; refine (sizes_any _).mono ?_; rintro e w' ⟨rfl, rfl⟩)
    go_ret
    exact ⟨rfl, (Keeps.refl _ _).alloc _⟩
  · have e : sizeI c = 0 := by unfold sizeI; rw [if_neg h]
    rw [e]
    clear e
    by_cases h1 : c < 0
    · clear h
      go_enter Tryd.func16, Tryd.ntmps16
      go_wp2
      go_ret
      exact ⟨rfl, Keeps.refl _ _⟩
    · have h1' : decide (c < 0) = false := by simpa using h1
      have h2 : (8 : Int) ≤ c := by omega
      clear h h1
      go_enter Tryd.func16, Tryd.ntmps16
      go_wp2
      go_ret
      exact ⟨rfl, Keeps.refl _ _⟩
theorem chunks_any (c : Int) (w : World) : Calls Tryd.prog 17 #[.int .i64 c] w (NatP (chunkI c) w) := by
  by_cases h : 0 ≤ c ∧ c < 8
  · obtain ⟨r, rfl⟩ := Int.eq_ofNat_of_zero_le h.1
    have hr : r < 8 := by omega
    have e : sizeI (r : Int) = szOf r := by unfold sizeI; rw [if_pos h]; simp
    have e' : chunkI (r : Int) = chk r := by unfold chunkI; rw [if_pos h]; simp
    have HS := Lib.hid (fun W => size_any (r : Int) W)
    rw [e] at HS
    rw [e']
    obtain ⟨z, hz⟩ : ∃ z, z = szOf r := ⟨_, rfl⟩
    obtain ⟨d1, d2⟩ := sz_div r hr
    have d3 := sz_le r
    rw [← hz] at HS d1 d2 d3
    have HD : Hid ((1024 : Int) / (z : Int) = (chk r : Nat)) := Lib.hid (by rw [← d2]; exact (Int.natCast_ediv 1024 z).symm)
    have hz1 : (1 : Int) ≤ (z : Int) := by omega
    have h1 : decide ((r : Int) < 0) = false := by simp
    have h2 : decide (8 ≤ (r : Int)) = false := by simp; omega
    clear e e' h hz d2
    go_enter Tryd.func17, Tryd.ntmps17
    go_wp2_with fail
    refine (HS.out _).mono ?_
    rintro e w' ⟨rfl, hk⟩
    have HK := Lib.hid hk
    clear hk
    go_wp2_with fail
    go_ret
    exact ⟨ret_int HD.out, HK.out⟩
  · have e : chunkI c = 0 := by unfold chunkI; rw [if_neg h]
    rw [e]
    clear e
    by_cases h1 : c < 0
    · clear h
      go_enter Tryd.func17, Tryd.ntmps17
      go_wp2
      go_ret
      exact ⟨rfl, Keeps.refl _ _⟩
    · have h1' : decide (c < 0) = false := by simpa using h1
      have h2 : (8 : Int) ≤ c := by omega
      clear h h1
      go_enter Tryd.func17, Tryd.ntmps17
      go_wp2
      go_ret
      exact ⟨rfl, Keeps.refl _ _⟩

set_option maxHeartbeats 1000000 in
theorem free_any (L : AL) (D : AD) (w : World) (h : ArAt w L D) : Calls Tryd.prog 20 #[L.ptr] w (NatP D.free w) := by
  obtain ⟨c0, hc⟩ := h.cells
  obtain ⟨hn1, hn2⟩ := own_cap h.row
  unfold maxLen at hn2
  have n2 := h.n2
  have HG := Lib.hid (fun i (hi : i < D.n) => h.g32 hi)
  have HC := Lib.hid hc
  have hlt := h.lt L.G (.inr rfl)
  unfold AL.ptr
  clear h hc
  go_enter Tryd.func20, Tryd.ntmps20
  go_wp2
  go_loopw [3, 13] (fun s i wr => ∃ t : Nat, t ≤ D.n ∧ i = .int .i64 t ∧ s = .int .i64 (cnt (fun i => D.g i == 0) t : Nat) ∧ Keeps (fun _ => False) w wr) (fun _ i _ => D.n - (intOf i).toNat)
  case atStart => exact ⟨0, Nat.zero_le _, rfl, rfl, Keeps.refl _ _⟩
  case round =>
    obtain ⟨t, ht, rfl, rfl, hk⟩ := hrel
    have hle := cnt_le (fun i => D.g i == 0) t
    by_cases hlt' : t < D.n
    · obtain ⟨y0, y1⟩ := HC.out t hlt'
      have z0 := (hk.cell (p := ⟨L.G, t * 2, none⟩) hlt id).trans y0
      have z1 := (hk.cell (p := ⟨L.G, t * 2 + 1, none⟩) hlt id).trans y1
      have HK := Lib.hid hk
      have hwr := hk.size
      have hs : cnt (fun i => D.g i == 0) (t + 1) = cnt (fun i => D.g i == 0) t + if D.g t = 0 then 1 else 0 := by simp [cnt]
      have HS := Lib.hid hs
      obtain ⟨x, hx⟩ : ∃ x, x = D.g t := ⟨_, rfl⟩
      rw [← hx] at z1 HS
      generalize cnt (fun i => D.g i == 0) t = m at *
      clear hk hs y0 y1
      by_cases e : x = 0
      · rw [if_pos e] at HS
        subst e
        clear hx
        go_wp2
        go_roundw
        case rel => exact ⟨t + 1, by omega, by go_num, by rw [HS.out]; go_num, HK.out.alloc _⟩
        case measure => simp [intOf]; omega
      · rw [if_neg e] at HS
        have e' : ((x : Int) == 0) = false := by rw [beq_eq_false_iff_ne]; omega
        clear hx e
        go_wp2
        go_roundw
        case rel => exact ⟨t + 1, by omega, by go_num, by rw [HS.out]; rfl, HK.out.alloc _⟩
        case measure => simp [intOf]; omega
    · obtain rfl : t = D.n := by omega
      have HK := Lib.hid hk
      clear hk
      go_wp2
      go_ret
      exact ⟨rfl, HK.out⟩

/-- Two numbers. -/
def TwoP (a b : Nat) (w : World) (e : Ending) (w' : World) : Prop := e = .returned (.tuple #[.int .i64 (a : Nat), .int .i64 (b : Nat)]) ∧ Keeps (fun _ => False) w w'
theorem pc_le (x : Nat) (h : x < 4294967296) : pc x ≤ 32 := by
  rw [pc_bytes x h]
  have l1 := pc_byte_le (x % 256) (by omega)
  have l2 := pc_byte_le (x / 256 % 256) (by omega)
  have l3 := pc_byte_le (x / 65536 % 256) (by omega)
  have l4 := pc_byte_le (x / 16777216) (by omega)
  omega
theorem sumN_le (f : Nat → Nat) (m : Nat) (h : ∀ i, f i ≤ m) : ∀ n, sumN f n ≤ n * m
  | 0 => by simp [sumN]
  | n + 1 => by
    have h1 := sumN_le f m h n
    have h2 := h n
    simp only [sumN]
    rw [Nat.add_mul, Nat.one_mul]
    omega
def useN (D : AD) (k : Int) (i : Nat) : Nat := if isOf D k i then pc (D.g i) else 0
theorem used_eq (D : AD) (k : Int) : D.used k = sumN (useN D k) D.n := rfl

set_option maxHeartbeats 2000000 in
theorem count_any (L : AL) (D : AD) (w : World) (h : ArAt w L D) (k : Int) : Calls Tryd.prog 56 #[L.ptr, .int .i64 k] w (TwoP (D.pages k) (D.used k) w) := by
  rw [used_eq]
  unfold AD.pages
  obtain ⟨c0, hc⟩ := h.cells
  obtain ⟨hn1, hn2⟩ := own_cap h.row
  unfold maxLen at hn2
  have n2 := h.n2
  have HG := Lib.hid (fun i (hi : i < D.n) => h.g32 hi)
  have HU : Hid (∀ t, t ≤ D.n → sumN (useN D k) t ≤ t * 32) := Lib.hid (fun t => by
    induction t with
    | zero => intro _; simp [sumN]
    | succ t ih =>
      intro ht
      have h1 := ih (by omega)
      have h2 : useN D k t ≤ 32 := by
        unfold useN
        split
        · exact pc_le _ (h.g32 (by omega))
        · omega
      simp only [sumN]
      omega)
  have HC := Lib.hid hc
  have hlt := h.lt L.G (.inr rfl)
  unfold AL.ptr
  clear h hc
  go_enter Tryd.func56, Tryd.ntmps56
  go_wp2
  go_loopw [6, 7, 17] (fun s q i wr => ∃ t : Nat, t ≤ D.n ∧ i = .int .i64 t ∧ s = .int .i64 (cnt (isOf D k) t : Nat) ∧ q = .int .i64 (sumN (useN D k) t : Nat) ∧ Keeps (fun _ => False) w wr) (fun _ _ i _ => D.n - (intOf i).toNat)
  case atStart => exact ⟨0, Nat.zero_le _, rfl, rfl, rfl, Keeps.refl _ _⟩
  case round =>
    obtain ⟨t, ht, rfl, rfl, rfl, hk⟩ := hrel
    have hle := cnt_le (isOf D k) t
    have hue := HU.out t ht
    by_cases hlt' : t < D.n
    · obtain ⟨y0, y1⟩ := HC.out t hlt'
      have z0 := (hk.cell (p := ⟨L.G, t * 2, none⟩) hlt id).trans y0
      have z1 := (hk.cell (p := ⟨L.G, t * 2 + 1, none⟩) hlt id).trans y1
      have HK := Lib.hid hk
      have hwr := hk.size
      have HS : Hid (cnt (isOf D k) (t + 1) = cnt (isOf D k) t + if isOf D k t then 1 else 0) := Lib.hid rfl
      have HT : Hid (sumN (useN D k) (t + 1) = sumN (useN D k) t + if isOf D k t then pc (D.g t) else 0) := Lib.hid rfl
      have hx32 := HG.out t hlt'
      have hpc := pc_le _ hx32
      have HI : Hid (isOf D k t = (D.g t != 0 && decide ((D.c t : Int) = k))) := Lib.hid rfl
      obtain ⟨x, hx⟩ : ∃ x, x = D.g t := ⟨_, rfl⟩
      obtain ⟨y, hy⟩ : ∃ y, y = D.c t := ⟨_, rfl⟩
      rw [← hx] at z1 HT HI hx32 hpc
      rw [← hy] at z0 HI
      generalize cnt (isOf D k) t = m at *
      generalize sumN (useN D k) t = m2 at *
      generalize isOf D k t = b at *
      clear hk y0 y1 hx hy
      by_cases e : x = 0
      · have hb : Hid (b = false) := Lib.hid (by rw [HI.out, e]; rfl)
        subst e
        go_wp2_with fail
        go_roundw
        case rel => exact ⟨t + 1, by omega, by go_num, by rw [HS.out, hb.out]; go_num, by rw [HT.out, hb.out]; go_num, HK.out.alloc _⟩
        case measure => simp [intOf]; omega
      · have e' : ((x : Int) == 0) = false := by rw [beq_eq_false_iff_ne]; omega
        have e2 : ((x : Int) != 0) = true := by rw [bne_iff_ne]; omega
        have e3 : ¬ ((x : Int) = 0) := by omega
        by_cases ey : (y : Int) = k
        · have hb : Hid (b = true) := Lib.hid (by rw [HI.out]; simp [e, ey])
          have ey' : ((y : Int) == k) = true := by simpa using ey
          clear e e3
          go_wp2_with fail
          refine (ones_any x hx32 _).mono ?_
          rintro e w2 ⟨rfl, hk2⟩
          have HK2 : Hid (Keeps (fun _ => False) w w2) := Lib.hid ((HK.out.alloc _).trans hk2)
          clear hk2
          go_wp2_with fail
          go_roundw
          case rel => exact ⟨t + 1, by omega, by go_num, by rw [HS.out, hb.out]; go_num, by rw [HT.out, hb.out]; go_num, HK2.out⟩
          case measure => simp [intOf]; omega
        · have hb : Hid (b = false) := Lib.hid (by rw [HI.out]; simp [ey])
          have ey' : ((y : Int) == k) = false := by simpa using ey
          clear e e3 ey
          go_wp2_with fail
          go_roundw
          case rel => exact ⟨t + 1, by omega, by go_num, by rw [HS.out, hb.out]; go_num, by rw [HT.out, hb.out]; go_num, HK.out.alloc _⟩
          case measure => simp [intOf]; omega
    · obtain rfl : t = D.n := by omega
      have HK := Lib.hid hk
      clear hk
      go_wp2_with fail
      go_ret2
      exact ⟨rfl, HK.out⟩
theorem used_any (L : AL) (D : AD) (w : World) (h : ArAt w L D) (k : Int) : Calls Tryd.prog 21 #[L.ptr, .int .i64 k] w (NatP (D.used k) w) := by
  have HC := Lib.hid (count_any L D w h k)
  clear h
  unfold AL.ptr at *
  go_enter Tryd.func21, Tryd.ntmps21
  go_wp2_with fail
  refine HC.out.mono ?_
  rintro e w2 ⟨rfl, hk⟩
  have HK := Lib.hid hk
  clear hk
  go_wp2_with fail
  go_ret
  exact ⟨rfl, HK.out⟩
theorem pages_any (L : AL) (D : AD) (w : World) (h : ArAt w L D) (k : Int) : Calls Tryd.prog 22 #[L.ptr, .int .i64 k] w (NatP (D.pages k) w) := by
  have HC := Lib.hid (count_any L D w h k)
  clear h
  unfold AL.ptr at *
  go_enter Tryd.func22, Tryd.ntmps22
  go_wp2_with fail
  refine HC.out.mono ?_
  rintro e w2 ⟨rfl, hk⟩
  have HK := Lib.hid hk
  clear hk
  go_wp2_with fail
  go_ret
  exact ⟨rfl, HK.out⟩
end Go.Proofs.YthnagihgjenimaaDoor

/- slab: find, Take, Where. -/
namespace Go.Proofs.YthnagihgjenimaaDoor
open Go.RowKit
set_option linter.unusedVariables false
set_option linter.unusedSimpArgs false

/-- Is the chunk given? -/
def bitN (g k : Nat) : Nat := g / 2 ^ k % 2
/-- What find answers. -/
def AD.find (D : AD) (x : Int) : Int := if x < 0 ∨ (D.n : Int) ≤ x / 32 then 2 else if bitN (D.g (x.toNat / 32)) (x.toNat % 32) = 0 then 4 else 0
def FindP (L : AL) (D : AD) (x : Int) (w : World) (e : Ending) (w' : World) : Prop :=
  e = .returned (.tuple #[if D.find x = 0 then .pointer (some ⟨L.G, x.toNat / 32 * 2, none⟩) else .pointer none, .int .i64 (D.find x)]) ∧ w = w'
theorem bit_and (g k : Nat) (hg : g < 4294967296) : bits .and .u32 ((g : Int) / 2 ^ k) 1 = ((bitN g k : Nat) : Int) := by
  have e : (g : Int) / 2 ^ k = ((g / 2 ^ k : Nat) : Int) := by simp
  have hl : g / 2 ^ k < 4294967296 := Nat.lt_of_le_of_lt (Nat.div_le_self _ _) hg
  rw [e]
  have := and_u32 (g / 2 ^ k) 1 hl (by omega)
  rw [Nat.and_one_is_mod] at this
  exact this
theorem g32_two (c : Nat) : 2 ^ chk c ≤ 4294967296 := by
  have : chk c ≤ 32 := chk_le c
  calc 2 ^ chk c ≤ 2 ^ 32 := Nat.pow_le_pow_right (by omega) this
    _ = 4294967296 := by decide

set_option maxHeartbeats 1000000 in
theorem find_any (L : AL) (D : AD) (w : World) (h : ArAt w L D) (x : Int) (hx : x < 9223372036854775808) : Calls Tryd.prog 57 #[L.ptr, .int .i64 x] w (FindP L D x w) := by
  obtain ⟨c0, hc⟩ := h.cells
  obtain ⟨hn1, hn2⟩ := own_cap h.row
  unfold maxLen at hn2
  have n2 := h.n2
  have hgl := h.gl
  unfold AL.ptr
  by_cases h1 : x < 0
  · have hf : D.find x = 2 := by unfold AD.find; rw [if_pos (Or.inl h1)]
    unfold FindP
    rw [hf]
    have h3 : decide (x < 0) = true := by simpa using h1
    go_enter Tryd.func57, Tryd.ntmps57
    go_wp2
    go_ret2
    exact ⟨rfl, rfl⟩
  · obtain ⟨m, rfl⟩ := Int.eq_ofNat_of_zero_le (show 0 ≤ x by omega)
    by_cases h2 : (D.n : Int) ≤ (m : Int) / 32
    · have hf : D.find m = 2 := by unfold AD.find; rw [if_pos (Or.inr h2)]
      unfold FindP
      rw [hf]
      have h3 : decide ((m : Int) < 0) = false := by simp
      have h4 : decide ((D.n : Int) ≤ (m : Int) / 32) = true := by simpa using h2
      go_enter Tryd.func57, Tryd.ntmps57
      go_wp2
      go_ret2
      exact ⟨rfl, rfl⟩
    · have hi : m / 32 < D.n := by omega
      obtain ⟨y0, y1⟩ := hc _ hi
      have h3 : decide ((m : Int) < 0) = false := by simp
      have h4 : decide ((D.n : Int) ≤ (m : Int) / 32) = false := by simpa using h2
      have h5 : (m : Int) / 32 < (D.n : Int) := by omega
      have h6 : (0 : Int) ≤ (m : Int) % 32 := by omega
      have h7 : (m : Int) % 32 < 32 := by omega
      have hg := h.g32 hi
      have hf : D.find m = if bitN (D.g (m / 32)) (m % 32) = 0 then 4 else 0 := by
        unfold AD.find
        rw [if_neg (by omega)]
        rfl
      generalize D.g (m / 32) = g at *
      have HA := bit_and g (m % 32) hg
      clear hc h h1 h2
      by_cases hb : bitN g (m % 32) = 0
      · rw [if_pos hb] at hf
        unfold FindP
        rw [hf]
        rw [hb] at HA
        have hA : (bits .and .u32 ((g : Int) / 2 ^ (m % 32)) 1 == 0) = true := by rw [HA]; rfl
        clear HA hg hb hf hgl hx
        have hA := Lib.hid hA
        go_enter Tryd.func57, Tryd.ntmps57
        go_wp2_with (simp only [hA.out])
        go_ret2
        exact ⟨rfl, rfl⟩
      · rw [if_neg hb] at hf
        unfold FindP
        rw [hf]
        have hA : (bits .and .u32 ((g : Int) / 2 ^ (m % 32)) 1 == 0) = false := by rw [HA]; simp; omega
        clear HA hg hb hf hgl hx
        have hA := Lib.hid hA
        go_enter Tryd.func57, Tryd.ntmps57
        go_wp2_with (simp only [hA.out])
        go_ret2
        exact ⟨rfl, rfl⟩
end Go.Proofs.YthnagihgjenimaaDoor

/- One bit of a page: taken off, put on. -/
namespace Go.Proofs.YthnagihgjenimaaDoor
open Go.RowKit
set_option linter.unusedVariables false
set_option linter.unusedSimpArgs false

theorem bitN_le (g k : Nat) : bitN g k < 2 := Nat.mod_lt _ (by decide)
theorem bitN_split (g k : Nat) : g = 2 ^ k * (2 * (g / 2 ^ k / 2) + bitN g k) + g % 2 ^ k := by
  have h1 := Nat.div_add_mod g (2 ^ k)
  have h2 := Nat.div_add_mod (g / 2 ^ k) 2
  unfold bitN
  rw [h2]
  exact h1.symm
theorem bit_of (g k : Nat) : g.testBit k = decide (bitN g k = 1) := by
  unfold bitN
  rw [Nat.testBit_eq_decide_div_mod_eq]
theorem bit_ge {g k : Nat} (h : bitN g k = 1) : 2 ^ k ≤ g := by
  have := bitN_split g k
  rw [h, Nat.mul_add, Nat.mul_one] at this
  omega
theorem bits_off (g k : Nat) (h : bitN g k = 1) (j : Nat) : (g - 2 ^ k).testBit j = (g.testBit j && !decide (k = j)) := by
  have hs := bitN_split g k
  rw [h] at hs
  have hb : g % 2 ^ k < 2 ^ k := Nat.mod_lt _ (Nat.two_pow_pos k)
  generalize g / 2 ^ k / 2 = a at hs
  generalize g % 2 ^ k = b at hs hb
  have h2 : g - 2 ^ k = 2 ^ k * (2 * a) + b := by rw [hs, Nat.mul_add]; omega
  rw [h2, hs, Nat.testBit_two_pow_mul_add _ hb, Nat.testBit_two_pow_mul_add _ hb]
  by_cases h3 : j < k
  · rw [if_pos h3, if_pos h3, decide_eq_false (by omega)]; simp
  · rw [if_neg h3, if_neg h3]
    by_cases h4 : k = j
    · subst h4
      simp
    · rw [decide_eq_false h4, show j - k = (j - k - 1) + 1 by omega, Nat.testBit_succ, Nat.testBit_succ, show (2 * a + 1) / 2 = a by omega, show 2 * a / 2 = a by omega]
      simp
theorem bits_on (g k : Nat) (h : bitN g k = 0) (j : Nat) : (g + 2 ^ k).testBit j = (g.testBit j || decide (k = j)) := by
  have hs := bitN_split g k
  rw [h] at hs
  have hb : g % 2 ^ k < 2 ^ k := Nat.mod_lt _ (Nat.two_pow_pos k)
  generalize g / 2 ^ k / 2 = a at hs
  generalize g % 2 ^ k = b at hs hb
  have h2 : g + 2 ^ k = 2 ^ k * (2 * a + 1) + b := by rw [hs, Nat.mul_add, Nat.mul_add]; omega
  rw [h2, hs, Nat.add_zero, Nat.testBit_two_pow_mul_add _ hb, Nat.testBit_two_pow_mul_add _ hb]
  by_cases h3 : j < k
  · rw [if_pos h3, if_pos h3, decide_eq_false (by omega)]; simp
  · rw [if_neg h3, if_neg h3]
    by_cases h4 : k = j
    · subst h4
      simp
    · rw [decide_eq_false h4, show j - k = (j - k - 1) + 1 by omega, Nat.testBit_succ, Nat.testBit_succ, show (2 * a + 1) / 2 = a by omega, show (2 * a + 0) / 2 = a by omega]
      simp
theorem pow32 {k : Nat} (hk : k < 32) : 2 ^ k < 4294967296 := Nat.pow_lt_pow_right (n := 32) (by decide) hk
theorem pow_cast {k : Nat} (hk : k < 32) : ((2 : Int) ^ k) % 4294967296 = ((2 ^ k : Nat) : Int) := by
  have h := pow32 hk
  have e : (2 : Int) ^ k = ((2 ^ k : Nat) : Int) := by simp
  rw [e]
  generalize 2 ^ k = q at *
  omega
theorem or_on (g k : Nat) (h : bitN g k = 0) : g ||| 2 ^ k = g + 2 ^ k := by
  apply Nat.eq_of_testBit_eq
  intro j
  rw [bits_on g k h, Nat.testBit_or, Nat.testBit_two_pow]
theorem not_u32 (g k : Nat) (hg : g < 4294967296) (hk : k < 32) (hb : bitN g k = 1) : bits .andNot .u32 (g : Int) (2 ^ k % 4294967296) = ((g - 2 ^ k : Nat) : Int) := by
  have hp := pow32 hk
  rw [pow_cast hk]
  show IntKind.u32.wrap ((BitVec.ofInt 32 (g : Int) &&& ~~~ BitVec.ofInt 32 ((2 ^ k : Nat) : Int)).toNat : Int) = _
  rw [BitVec.toNat_and, BitVec.toNat_not, ofInt_u32 hg, ofInt_u32 hp, wrap_u32]
  have e : g &&& (2 ^ 32 - 1 - 2 ^ k) = g - 2 ^ k := by
    apply Nat.eq_of_testBit_eq
    intro j
    rw [bits_off g k hb, Nat.testBit_and, show 2 ^ 32 - 1 - 2 ^ k = 2 ^ 32 - (2 ^ k + 1) by omega, Nat.testBit_two_pow_sub_succ (by omega), Nat.testBit_two_pow]
    by_cases hj : j < 32
    · simp [hj]
    · rw [Nat.testBit_lt_two_pow (Nat.lt_of_lt_of_le hg (Nat.pow_le_pow_right (n := 2) (i := 32) (by omega) (by omega)))]
      simp
  rw [e]
  have hle := bit_ge hb
  generalize 2 ^ k = q at *
  omega
theorem on_u32 (g k : Nat) (hg : g < 4294967296) (hk : k < 32) (hb : bitN g k = 0) : bits .or .u32 (g : Int) (2 ^ k % 4294967296) = ((g + 2 ^ k : Nat) : Int) := by
  have hp := pow32 hk
  rw [pow_cast hk, or_u32 g _ hg hp, or_on g k hb]
end Go.Proofs.YthnagihgjenimaaDoor

/- slab: Where, Take. -/
namespace Go.Proofs.YthnagihgjenimaaDoor
open Go.RowKit
set_option linter.unusedVariables false
set_option linter.unusedSimpArgs false

/-- What Where answers. -/
def WhereP (D : AD) (x : Int) (w : World) (e : Ending) (w' : World) : Prop :=
  e = .returned (.tuple #[.int .i64 (if D.find x = 0 then ((D.c (x.toNat / 32) : Nat) : Int) else 0), .int .i64 (D.find x)]) ∧ w = w'
theorem find_zero {D : AD} {x : Int} (h : D.find x = 0) : 0 ≤ x ∧ x.toNat / 32 < D.n ∧ bitN (D.g (x.toNat / 32)) (x.toNat % 32) = 1 := by
  unfold AD.find at h
  by_cases h1 : x < 0 ∨ (D.n : Int) ≤ x / 32
  · rw [if_pos h1] at h; omega
  · rw [if_neg h1] at h
    by_cases h2 : bitN (D.g (x.toNat / 32)) (x.toNat % 32) = 0
    · rw [if_pos h2] at h; omega
    · have := Nat.mod_two_eq_zero_or_one (D.g (x.toNat / 32) / 2 ^ (x.toNat % 32))
      unfold bitN at h2 ⊢
      omega
theorem where_any (L : AL) (D : AD) (w : World) (h : ArAt w L D) (x : Int) (hx : x < 9223372036854775808) : Calls Tryd.prog 24 #[L.ptr, .int .i64 x] w (WhereP D x w) := by
  have HF := Lib.hid (find_any L D w h x hx)
  clear hx
  obtain ⟨c0, hc⟩ := h.cells
  unfold WhereP FindP at *
  unfold AL.ptr at *
  by_cases hf : D.find x = 0
  · obtain ⟨h0, hi, _⟩ := find_zero hf
    obtain ⟨y0, y1⟩ := hc _ hi
    rw [hf] at HF ⊢
    simp only [if_true] at HF ⊢
    generalize x.toNat / 32 = i at *
    clear hc h hf h0
    go_enter Tryd.func24, Tryd.ntmps24
    go_wp2_with fail
    refine HF.out.mono ?_
    rintro e w2 ⟨rfl, rfl⟩
    go_wp2_with fail
    go_ret2
    exact ⟨rfl, rfl⟩
  · rw [if_neg hf] at HF ⊢
    generalize D.find x = r at *
    have hr : (r == 0) = false := by simpa using hf
    clear hc h
    go_enter Tryd.func24, Tryd.ntmps24
    go_wp2_with fail
    refine HF.out.mono ?_
    rintro e w2 ⟨rfl, rfl⟩
    go_wp2_with fail
    go_ret2
    exact ⟨rfl, rfl⟩

theorem ArAt.setg {w : World} {L : AL} {D : AD} (h : ArAt w L D) {i : Nat} (hi : i < D.n) {x : Nat} (hx : x < 2 ^ chk (D.c i)) :
    ArAt (w.setCell ⟨L.G, i * 2 + 1, none⟩ (.int .u32 (x : Nat))) L { D with g := updN D.g i x } ∧ Keeps (fun k => k = L.G) w (w.setCell ⟨L.G, i * 2 + 1, none⟩ (.int .u32 (x : Nat))) := by
  have hk : Keeps (fun k => k = L.G) w (w.setCell ⟨L.G, i * 2 + 1, none⟩ (.int .u32 (x : Nat))) := (Keeps.refl (fun k => k = L.G) w).store (p := ⟨L.G, i * 2 + 1, none⟩) (.inl rfl) _
  have hne : L.B ≠ L.G := fun e => own_ne_blk h.obj h.row (by decide) (by simp [Value.ownBlock, e])
  refine ⟨⟨hk.blk h.obj hne, ?_, h.n1, h.n2, h.cl, ?_⟩, hk⟩
  · have := own_put h.row (i := i * 2 + 1) (.int .u32 (x : Nat))
    rwa [pgs_setg D hi] at this
  · intro j hj
    show updN D.g i x j < _
    by_cases e : j = i
    · subst e; rw [updN_same]; exact hx
    · rw [updN_ne _ _ _ e]; exact h.gl j hj
def TakeP (L : AL) (D : AD) (x : Int) (w : World) (e : Ending) (w' : World) : Prop :=
  e = .returned (.int .i64 (D.find x)) ∧ (D.find x ≠ 0 → w = w') ∧
    (D.find x = 0 → Keeps (fun k => k = L.G) w w' ∧ ArAt w' L { D with g := updN D.g (x.toNat / 32) (D.g (x.toNat / 32) - 2 ^ (x.toNat % 32)) })
theorem take_any (L : AL) (D : AD) (w : World) (h : ArAt w L D) (x : Int) (hx : x < 9223372036854775808) : Calls Tryd.prog 23 #[L.ptr, .int .i64 x] w (TakeP L D x w) := by
  have HF := Lib.hid (find_any L D w h x hx)
  clear hx
  obtain ⟨c0, hc⟩ := h.cells
  unfold TakeP FindP at *
  unfold AL.ptr at *
  by_cases hf : D.find x = 0
  · obtain ⟨h0, hi, hb⟩ := find_zero hf
    obtain ⟨m, rfl⟩ := Int.eq_ofNat_of_zero_le h0
    simp only [Int.toNat_natCast] at *
    obtain ⟨y0, y1⟩ := hc _ hi
    have hfr := own_free h.row (m / 32 * 2 + 1)
    have HN := Lib.hid (not_u32 (D.g (m / 32)) (m % 32) (h.g32 hi) (by omega) hb)
    have HA := Lib.hid (h.setg hi (x := D.g (m / 32) - 2 ^ (m % 32)) (Nat.lt_of_le_of_lt (Nat.sub_le _ _) (h.gl _ hi)))
    have h6 : (0 : Int) ≤ (m : Int) % 32 := by omega
    have h7 : (m : Int) % 32 < 32 := by omega
    rw [hf] at HF ⊢
    simp only [if_true] at HF ⊢
    generalize m / 32 = i at *
    clear hc h hf h0
    go_enter Tryd.func23, Tryd.ntmps23
    go_wp2_with fail
    refine HF.out.mono ?_
    rintro e w2 ⟨rfl, rfl⟩
    go_wp2_with fail
    go_region
    rw [HN.out]
    have HA2 : Hid (Keeps (fun k => k = L.G) w (w.setCell ⟨L.G, i * 2 + 1, none⟩ (.int .u32 (D.g i - 2 ^ (m % 32) : Nat))).drew ∧ ArAt (w.setCell ⟨L.G, i * 2 + 1, none⟩ (.int .u32 (D.g i - 2 ^ (m % 32) : Nat))).drew L { D with g := updN D.g i (D.g i - 2 ^ (m % 32)) }) := Lib.hid ⟨HA.out.2.drew, HA.out.1.quiet (Keeps.refl _ _).drew⟩
    generalize (w.setCell ⟨L.G, i * 2 + 1, none⟩ (.int .u32 (D.g i - 2 ^ (m % 32) : Nat))).drew = w2 at HA2 ⊢
    go_wp2_with fail
    go_ret
    exact ⟨rfl, fun h => absurd rfl h, fun _ => HA2.out⟩
  · rw [if_neg hf] at HF
    generalize D.find x = r at *
    have hr : (r == 0) = false := by simpa using hf
    clear hc h
    go_enter Tryd.func23, Tryd.ntmps23
    go_wp2_with fail
    refine HF.out.mono ?_
    rintro e w2 ⟨rfl, rfl⟩
    go_wp2_with fail
    go_ret
    exact ⟨rfl, fun _ => rfl, fun h => absurd h hf⟩
end Go.Proofs.YthnagihgjenimaaDoor

/- The lowest chunk of a page that is not given. -/
namespace Go.Proofs.YthnagihgjenimaaDoor
open Go.RowKit
set_option linter.unusedVariables false
set_option linter.unusedSimpArgs false

def low (g : Nat) : Nat := Lib.ctz 32 (4294967295 - g)
theorem low_spec (g : Nat) (hg : g < 4294967296) : low g ≤ 32 ∧ (low g < 32 → bitN g (low g) = 0) ∧ ∀ i, i < low g → bitN g i = 1 := by
  have hc : ∀ i, i < 32 → g.testBit i = !(4294967295 - g).testBit i := fun i hi => by
    have := Nat.testBit_two_pow_sub_succ (n := 32) (x := 4294967295 - g) (by omega) i
    rw [show 2 ^ 32 - (4294967295 - g + 1) = g by omega] at this
    rw [this]
    simp [hi]
  unfold low
  by_cases h0 : 4294967295 - g = 0
  · rw [h0]
    have e : Lib.ctz 32 0 = 32 := rfl
    rw [e]
    refine ⟨Nat.le_refl _, fun h => absurd h (by omega), fun i hi => ?_⟩
    have := hc i hi
    rw [h0, Nat.zero_testBit, bit_of] at this
    simpa using this
  · have hx : 4294967295 - g < 2 ^ 32 := by omega
    obtain ⟨m, hm, hk⟩ := Lib.ctzFrom_spec 32 (4294967295 - g) (by omega) hx
    have e : Lib.ctz 32 (4294967295 - g) = Lib.ctzFrom 32 (4294967295 - g) := by simp [Lib.ctz, h0]
    rw [e]
    generalize Lib.ctzFrom 32 (4294967295 - g) = k at *
    refine ⟨by omega, fun _ => ?_, fun i hi => ?_⟩
    · have := hc k hk
      rw [hm, bit_of] at this
      simp [Nat.testBit_two_pow_mul] at this
      have := bitN_le g k
      omega
    · have := hc i (by omega)
      rw [hm, bit_of, Nat.testBit_two_pow_mul, decide_eq_false (show ¬ i ≥ k by omega)] at this
      simpa using this
theorem on_lt {g k c : Nat} (hg : g < 2 ^ c) (hk : k < c) (hb : bitN g k = 0) : g + 2 ^ k < 2 ^ c := by
  rw [← or_on g k hb]
  exact Nat.or_lt_two_pow hg (Nat.pow_lt_pow_right (by omega) hk)

/-- The page's lowest free chunk is a chunk of its class. -/
def AD.hit (D : AD) (k j : Nat) : Prop := D.g j ≠ 0 ∧ D.c j = k ∧ low (D.g j) < chk k
/-- What Give answers to a class. -/
inductive GiveS (D : AD) (k : Nat) : Int → Int → AD → Prop
  | hit (j : Nat) (hj : j < D.n) (h : D.hit k j) (hb : ∀ i, i < j → ¬ D.hit k i) : GiveS D k ((j * 32 + low (D.g j) : Nat) : Int) 0 { D with g := updN D.g j (D.g j + 2 ^ low (D.g j)) }
  | page (hn : ∀ i, i < D.n → ¬ D.hit k i) (j : Nat) (hj : j < D.n) (h : D.g j = 0) (hb : ∀ i, i < j → D.g i ≠ 0) : GiveS D k ((j * 32 : Nat) : Int) 0 { D with c := updN D.c j k, g := updN D.g j 1 }
  | full (hn : ∀ i, i < D.n → ¬ D.hit k i) (h : ∀ i, i < D.n → D.g i ≠ 0) : GiveS D k 0 6 D
/-- The first empty page of the first t. -/
def FirstE (D : AD) (t : Nat) (f : Int) : Prop := (f = -1 ∧ ∀ i, i < t → D.g i ≠ 0) ∨ ∃ j, j < t ∧ f = (j : Nat) ∧ D.g j = 0 ∧ ∀ i, i < j → D.g i ≠ 0
def GiveP (L : AL) (D : AD) (n : Int) (w : World) (e : Ending) (w' : World) : Prop :=
  ∃ r q D', e = .returned (.tuple #[.int .i64 r, .int .i64 q]) ∧ Keeps (fun k => k = L.G) w w' ∧ ArAt w' L D' ∧
    ((n < 0 ∧ r = 0 ∧ q = 2 ∧ D' = D) ∨ (0 ≤ n ∧ n ≤ 1024 ∧ GiveS D (cls n) r q D') ∨ (1024 < n ∧ r = 0 ∧ q = 3 ∧ D' = D))
end Go.Proofs.YthnagihgjenimaaDoor

/- slab: Give. -/
namespace Go.Proofs.YthnagihgjenimaaDoor
open Go.RowKit
set_option linter.unusedVariables false
set_option linter.unusedSimpArgs false

theorem Tab.lt {w : World} (hT : Tab w) : 0 < w.heap.size := by
  have h := hT 0 (by decide)
  rcases Nat.eq_zero_or_pos w.heap.size with h0 | h0
  · have : w.heap[0]? = none := by simp [h0]
    simp [World.cell?, this] at h
  · exact h0
theorem Tab.keep {w w' : World} {S : Nat → Prop} (hT : Tab w) (hk : Keeps S w w') (hn : ¬ S 0) : Tab w' := fun j hj =>
  (hk.cell (p := ⟨0, j, none⟩) hT.lt hn).trans (hT j hj)

theorem xor_u32 (x : Nat) (hx : x < 4294967296) : bits .xor .u32 IntKind.u32.max (x : Int) = ((4294967295 - x : Nat) : Int) := by
  show IntKind.u32.wrap ((BitVec.ofInt 32 ((4294967295 : Nat) : Int) ^^^ BitVec.ofInt 32 (x : Int)).toNat : Int) = _
  rw [BitVec.toNat_xor, ofInt_u32 (by omega), ofInt_u32 hx, wrap_u32]
  have e : 4294967295 ^^^ x = 4294967295 - x := by
    apply Nat.eq_of_testBit_eq
    intro j
    have h1 := Nat.testBit_two_pow_sub_succ (n := 32) (x := x) hx j
    have h2 := Nat.testBit_two_pow_sub_succ (n := 32) (x := 0) (by omega) j
    rw [show 2 ^ 32 - (x + 1) = 4294967295 - x by omega] at h1
    rw [show 2 ^ 32 - (0 + 1) = 4294967295 by omega, Nat.zero_testBit] at h2
    rw [Nat.testBit_xor, h1, h2]
    by_cases hj : j < 32
    · simp [hj]
    · rw [Nat.testBit_lt_two_pow (Nat.lt_of_lt_of_le hx (Nat.pow_le_pow_right (n := 2) (i := 32) (by omega) (by omega)))]
      simp [hj]
  rw [e]
  omega
theorem ArAt.setp {w : World} {L : AL} {D : AD} (h : ArAt w L D) {i : Nat} (hi : i < D.n) {k : Nat} (hk : k < 8) :
    ArAt ((w.setCell ⟨L.G, i * 2, none⟩ (.int .i64 (k : Nat))).setCell ⟨L.G, i * 2 + 1, none⟩ (.int .u32 1)) L { D with c := updN D.c i k, g := updN D.g i 1 } ∧ Keeps (fun k => k = L.G) w ((w.setCell ⟨L.G, i * 2, none⟩ (.int .i64 (k : Nat))).setCell ⟨L.G, i * 2 + 1, none⟩ (.int .u32 1)) := by
  have hk' : Keeps (fun k => k = L.G) w ((w.setCell ⟨L.G, i * 2, none⟩ (.int .i64 (k : Nat))).setCell ⟨L.G, i * 2 + 1, none⟩ (.int .u32 1)) := ((Keeps.refl (fun k => k = L.G) w).store (p := ⟨L.G, i * 2, none⟩) (.inl rfl) _).store (p := ⟨L.G, i * 2 + 1, none⟩) (.inl rfl) _
  have hne : L.B ≠ L.G := fun e => own_ne_blk h.obj h.row (by decide) (by simp [Value.ownBlock, e])
  refine ⟨⟨hk'.blk h.obj hne, ?_, h.n1, h.n2, ?_, ?_⟩, hk'⟩
  · have := own_put h.row (i := i * 2) (.int .i64 (k : Nat))
    rw [pgs_setc D hi] at this
    have := own_put this (i := i * 2 + 1) (.int .u32 (1 : Nat))
    rw [pgs_setg { D with c := updN D.c i k } hi] at this
    exact this
  · intro j hj
    show updN D.c i k j < 8
    by_cases e : j = i
    · subst e; rw [updN_same]; exact hk
    · rw [updN_ne _ _ _ e]; exact h.cl j hj
  · intro j hj
    show updN D.g i 1 j < 2 ^ chk (updN D.c i k j)
    by_cases e : j = i
    · subst e
      rw [updN_same, updN_same]
      have : 0 < chk k := by
        have a : k = 0 ∨ k = 1 ∨ k = 2 ∨ k = 3 ∨ k = 4 ∨ k = 5 ∨ k = 6 ∨ k = 7 := by omega
        rcases a with rfl | rfl | rfl | rfl | rfl | rfl | rfl | rfl <;> decide
      exact Nat.one_lt_two_pow (by omega)
    · rw [updN_ne _ _ _ e, updN_ne _ _ _ e]; exact h.gl j hj
theorem FirstE.next {D : AD} {t : Nat} {f : Int} (h : FirstE D t f) (hg : D.g t ≠ 0) : FirstE D (t + 1) f := by
  rcases h with ⟨rfl, h⟩ | ⟨j, hj, rfl, h1, h2⟩
  · refine .inl ⟨rfl, fun i hi => ?_⟩
    by_cases e : i = t
    · subst e; exact hg
    · exact h i (by omega)
  · exact .inr ⟨j, by omega, rfl, h1, h2⟩
theorem FirstE.take {D : AD} {t : Nat} {f : Int} (h : FirstE D t f) (hf : f < 0) (hg : D.g t = 0) : FirstE D (t + 1) (t : Nat) := by
  rcases h with ⟨rfl, h⟩ | ⟨j, hj, rfl, h1, h2⟩
  · exact .inr ⟨t, by omega, rfl, hg, h⟩
  · omega
theorem FirstE.old {D : AD} {t : Nat} {f : Int} (h : FirstE D t f) (hf : ¬ f < 0) : FirstE D (t + 1) f := by
  rcases h with ⟨rfl, h⟩ | ⟨j, hj, rfl, h1, h2⟩
  · omega
  · exact .inr ⟨j, by omega, rfl, h1, h2⟩
theorem hit_next {D : AD} {t k : Nat} (h : ∀ j, j < t → ¬ D.hit k j) (hg : ¬ D.hit k t) : ∀ j, j < t + 1 → ¬ D.hit k j := fun j hj => by
  by_cases e : j = t
  · subst e; exact hg
  · exact h j (by omega)

set_option maxHeartbeats 4000000 in
theorem give_any (L : AL) (D : AD) (w : World) (h : ArAt w L D) (hT : Tab w) (n : Int) : Calls Tryd.prog 19 #[L.ptr, .int .i64 n] w (GiveP L D n w) := by
  have HCL := Lib.hid (fun W => class_any n W)
  unfold AL.ptr
  have HH := Lib.hid h
  have HTT := Lib.hid hT
  clear h hT
  go_enter Tryd.func19, Tryd.ntmps19
  go_wp2_with fail
  refine (HCL.out _).mono ?_
  rintro e w1 ⟨c, q, rfl, hcs, hk1⟩
  have h1 := HH.out.quiet hk1
  have hT1 := HTT.out.keep hk1 id
  rcases hcs with ⟨hn, rfl, rfl⟩ | ⟨hn0, hn1, rfl, rfl⟩ | ⟨hn, rfl, rfl⟩
  · have HK := Lib.hid hk1
    have HA := Lib.hid h1
    clear hk1 h1 hT1
    go_wp2_with fail
    go_ret2
    exact ⟨_, _, D, rfl, HK.out.mono fun k _ hf => hf.elim, HA.out, .inl ⟨hn, rfl, rfl, rfl⟩⟩
  · have hk8 := cls_lt n
    obtain ⟨k, hk⟩ : ∃ k, cls n = k := ⟨_, rfl⟩
    have HKE := Lib.hid hk
    rw [hk] at hk8 ⊢
    obtain ⟨c0, hc⟩ := h1.cells
    obtain ⟨hcap1, hcap2⟩ := own_cap h1.row
    unfold maxLen at hcap2
    have n2 := h1.n2
    have n1 := h1.n1
    have HK1 := Lib.hid hk1
    have H1 := Lib.hid h1
    have HT1 := Lib.hid hT1
    have hltB := h1.lt L.B (.inl rfl)
    have hltG := h1.lt L.G (.inr rfl)
    have HC := Lib.hid hc
    have HG := Lib.hid (fun i (hi : i < D.n) => h1.g32 hi)
    have HCH : Hid (chunkI (k : Int) = chk k) := Lib.hid (by unfold chunkI; rw [if_pos (by omega)]; simp)
    have hch := chk_le k
    clear hk1 h1 hT1 hc hk
    go_wp2_with fail
    go_loopw [8, 27] (fun f i wr => ∃ t : Nat, ∃ fi : Int, t ≤ D.n ∧ i = .int .i64 t ∧ f = .int .i64 fi ∧ FirstE D t fi ∧ (∀ j, j < t → ¬ D.hit k j) ∧ Keeps (fun _ => False) w1 wr) (fun _ i _ => D.n - (intOf i).toNat)
    case atStart => exact ⟨0, -1, Nat.zero_le _, rfl, rfl, .inl ⟨rfl, fun i hi => absurd hi (by omega)⟩, fun i hi => absurd hi (by omega), Keeps.refl _ _⟩
    case round =>
      obtain ⟨t, fi, ht, rfl, rfl, hfe, hnh, hkr⟩ := hrel
      by_cases hlt' : t < D.n
      · obtain ⟨y0, y1⟩ := HC.out t hlt'
        have z0 := (hkr.cell (p := ⟨L.G, t * 2, none⟩) hltG id).trans y0
        have z1 := (hkr.cell (p := ⟨L.G, t * 2 + 1, none⟩) hltG id).trans y1
        have zb := (hkr.cell (p := ⟨L.B, 0, none⟩) hltB id).trans c0
        have HK := Lib.hid hkr
        have HFE := Lib.hid hfe
        have HNH := Lib.hid hnh
        have HR := Lib.hid (H1.out.quiet hkr)
        have HTR := Lib.hid (HT1.out.keep hkr id)
        have hg := HG.out t hlt'
        obtain ⟨x, hx⟩ : ∃ x, x = D.g t := ⟨_, rfl⟩
        obtain ⟨y, hy⟩ : ∃ y, y = D.c t := ⟨_, rfl⟩
        have HX := Lib.hid hx
        have HY := Lib.hid hy
        rw [← hx] at z1 hg
        rw [← hy] at z0
        clear hkr hfe hnh y0 y1 hx hy c0
        by_cases e0 : x = 0
        · subst e0
          clear hg
          by_cases hfi : fi < 0
          · have HFI := Lib.hid hfi
            go_wp2_with fail
            go_roundw
            case rel => exact ⟨t + 1, t, by omega, by go_num, rfl, HFE.out.take HFI.out HX.out.symm, hit_next HNH.out (fun hh => hh.1 HX.out.symm), HK.out⟩
            case measure => simp [intOf]; omega
          · have HFI := Lib.hid hfi
            have hfi' : decide (fi < 0) = false := by simpa using hfi
            clear hfi
            go_wp2_with fail
            go_roundw
            case rel => exact ⟨t + 1, fi, by omega, by go_num, rfl, HFE.out.old HFI.out, hit_next HNH.out (fun hh => hh.1 HX.out.symm), HK.out⟩
            case measure => simp [intOf]; omega
        · have e0' : ((x : Int) == 0) = false := by rw [beq_eq_false_iff_ne]; omega
          have HE := Lib.hid e0
          clear e0
          have HXR := Lib.hid (xor_u32 x hg)
          have HTZ := Lib.hid (fun W hW => tz_any (4294967295 - x) (by omega) W hW)
          obtain ⟨z, hz⟩ : ∃ z, Lib.ctz 32 (4294967295 - x) = z := ⟨_, rfl⟩
          have HZ : Hid (low x = z) := Lib.hid hz
          rw [hz] at HTZ
          obtain ⟨hz1, hz2, _⟩ := low_spec x hg
          rw [HZ.out] at hz1 hz2
          have HZ2 := Lib.hid hz2
          have HG2 := Lib.hid hg
          clear hz hz2 hg
          go_wp2_with fail
          rw [HXR.out]
          refine (HTZ.out _ HTR.out).mono ?_
          rintro e w2 ⟨rfl, rfl⟩
          by_cases hy : y = k
          · have HYK := Lib.hid hy
            subst hy
            go_wp2_with fail
            refine (chunks_any _ _).mono ?_
            rintro e w2 ⟨rfl, hk2⟩
            have HK2 := Lib.hid hk2
            rw [HCH.out]
            have HCY : Hid (chk y ≤ 32) := Lib.hid hch
            by_cases hlz : z < chk y
            · have HLZ := Lib.hid hlz
              have hz32 : z < 32 := by have := HCY.out; omega
              have hb0 := HZ2.out hz32
              have HON := Lib.hid (on_u32 x z HG2.out hz32 hb0)
              have hr2 := HR.out.quiet hk2
              have hlt2 : x + 2 ^ z < 2 ^ chk (D.c t) := by
                rw [← HY.out]
                exact on_lt (by rw [HX.out, HY.out]; exact hr2.gl t hlt') HLZ.out hb0
              have HA := Lib.hid (hr2.setg hlt' hlt2)
              have hfr := own_free hr2.row (t * 2 + 1)
              have z12 := (hk2.cell (p := ⟨L.G, t * 2 + 1, none⟩) (Nat.lt_of_lt_of_le hltG HK.out.size) id).trans z1
              have hlz' : decide ((z : Int) < ((chk y : Nat) : Int)) = true := by simpa using hlz
              clear hk2 hr2 hlt2 hb0 hlz
              go_wp2_with fail
              go_region
              rw [HON.out]
              have HA2 : Hid (Keeps (fun k => k = L.G) w2 (w2.setCell ⟨L.G, t * 2 + 1, none⟩ (.int .u32 (x + 2 ^ z : Nat))).drew ∧ ArAt (w2.setCell ⟨L.G, t * 2 + 1, none⟩ (.int .u32 (x + 2 ^ z : Nat))).drew L { D with g := updN D.g t (x + 2 ^ z) }) := Lib.hid ⟨HA.out.2.drew, HA.out.1.quiet (Keeps.refl _ _).drew⟩
              generalize (w2.setCell ⟨L.G, t * 2 + 1, none⟩ (.int .u32 (x + 2 ^ z : Nat))).drew = w3 at HA2 ⊢
              go_wp2_with fail
              go_ret2
              refine ⟨_, _, { D with g := updN D.g t (x + 2 ^ z) }, rfl, (((HK1.out.trans HK.out).trans HK2.out).mono fun k _ hf => hf.elim).trans HA2.out.1, HA2.out.2, .inr (.inl ⟨hn0, hn1, ?_⟩)⟩
              rw [HKE.out]
              have := GiveS.hit (D := D) (k := y) t hlt' ⟨by rw [← HX.out]; exact HE.out, HY.out.symm, by rw [← HX.out, HZ.out]; exact HLZ.out⟩ HNH.out
              rw [← HX.out, HZ.out] at this
              exact this
            · have HLZ := Lib.hid hlz
              have hlz' : decide ((z : Int) < ((chk y : Nat) : Int)) = false := by simpa using hlz
              clear hlz hk2
              go_wp2_with fail
              go_roundw
              case rel => exact ⟨t + 1, fi, by omega, by go_num, rfl, HFE.out.next (by rw [← HX.out]; exact HE.out), hit_next HNH.out (fun hh => HLZ.out (by have := hh.2.2; rw [← HX.out, HZ.out] at this; exact this)), HK.out.trans HK2.out⟩
              case measure => simp [intOf]; omega
          · have hy' : ((y : Int) == (k : Int)) = false := by rw [beq_eq_false_iff_ne]; omega
            have HYK := Lib.hid hy
            clear hy
            go_wp2_with fail
            go_roundw
            case rel => exact ⟨t + 1, fi, by omega, by go_num, rfl, HFE.out.next (by rw [← HX.out]; exact HE.out), hit_next HNH.out (fun hh => HYK.out (HY.out.trans hh.2.1)), HK.out⟩
            case measure => simp [intOf]; omega
      · obtain rfl : t = D.n := by omega
        have zb := (hkr.cell (p := ⟨L.B, 0, none⟩) hltB id).trans c0
        have HK := Lib.hid hkr
        have HNH := Lib.hid hnh
        have hr := H1.out.quiet hkr
        have HR := Lib.hid hr
        rcases hfe with ⟨rfl, hne⟩ | ⟨j, hj, rfl, hg0, hbf⟩
        · have HNE := Lib.hid hne
          clear hne hr hkr hnh c0
          go_wp2_with fail
          go_ret2
          exact ⟨_, _, D, rfl, (HK1.out.trans HK.out).mono fun k _ hf => hf.elim, HR.out, .inr (.inl ⟨hn0, hn1, by rw [HKE.out]; exact .full HNH.out HNE.out⟩)⟩
        · have HG0 := Lib.hid hg0
          have HBF := Lib.hid hbf
          have f0 := own_free hr.row (j * 2)
          have f1 := own_free hr.row (j * 2 + 1)
          have hj0 : decide ((j : Int) < 0) = false := by simp
          obtain ⟨y0, y1⟩ := hr.cells.2 j hj
          have hp1 := own_put hr.row (i := j * 2) (.int .i64 (k : Nat))
          rw [pgs_setc D hj] at hp1
          have y2 := own_cell hp1 (pgs_g { D with c := updN D.c j k } hj)
          have f2 := own_free hp1 (j * 2 + 1)
          have HP := Lib.hid (hr.setp hj (k := k) hk8)
          clear hg0 hbf hr hkr hnh c0 hp1
          go_wp2_with fail
          go_ret2
          refine ⟨_, _, _, rfl, ((HK1.out.trans HK.out).mono fun k _ hf => hf.elim).trans HP.out.2, HP.out.1, .inr (.inl ⟨hn0, hn1, ?_⟩)⟩
          rw [HKE.out]
          have := GiveS.page (D := D) (k := k) HNH.out j hj HG0.out HBF.out
          simpa using this
  · have HK := Lib.hid hk1
    have HA := Lib.hid h1
    clear hk1 h1 hT1
    go_wp2_with fail
    go_ret2
    exact ⟨_, _, D, rfl, HK.out.mono fun k _ hf => hf.elim, HA.out, .inr (.inr ⟨hn, rfl, rfl, rfl⟩)⟩
end Go.Proofs.YthnagihgjenimaaDoor
