/- slab: Size, Chunks; what is told of an arena: Free, Used, Pages. -/
import Derived.Test.YthnagihgjenimaaDoorArena
namespace Go.Proofs.YthnagihgjenimaaDoor
open Go.RowKit
set_option linter.unusedVariables false
set_option linter.unusedSimpArgs false

/-- A class's size; a page's chunks of it. -/
def sizeI (c : Int) : Nat := if 0 ≤ c ∧ c < 8 then szOf c.toNat else 0
def chunkI (c : Int) : Nat := if 0 ≤ c ∧ c < 8 then chk c.toNat else 0
def NatP (x : Nat) (w : World) (e : Ending) (w' : World) : Prop := e = .returned (.int .i64 (x : Nat)) ∧ Keeps (fun _ => False) w w'
theorem sz_le (r : Nat) : szOf r ≤ 1024 := by
  unfold szOf
  rcases Nat.lt_or_ge r 8 with h | h
  · have a : r = 0 ∨ r = 1 ∨ r = 2 ∨ r = 3 ∨ r = 4 ∨ r = 5 ∨ r = 6 ∨ r = 7 := by omega
    rcases a with rfl | rfl | rfl | rfl | rfl | rfl | rfl | rfl <;> decide
  · rw [List.getD_eq_getElem?_getD, List.getElem?_eq_none (by simpa using h)]
    simp
theorem sz_div (r : Nat) (hr : r < 8) : 1 ≤ szOf r ∧ 1024 / szOf r = chk r := by
  have a : r = 0 ∨ r = 1 ∨ r = 2 ∨ r = 3 ∨ r = 4 ∨ r = 5 ∨ r = 6 ∨ r = 7 := by omega
  rcases a with rfl | rfl | rfl | rfl | rfl | rfl | rfl | rfl <;> decide
theorem size_any (c : Int) (w : World) : Calls Tryd.prog 16 #[.int .i64 c] w (NatP (sizeI c) w) := by
  by_cases h : 0 ≤ c ∧ c < 8
  · obtain ⟨r, rfl⟩ := Int.eq_ofNat_of_zero_le h.1
    have hr : r < 8 := by omega
    have hi := fun W => six r hr W
    have e : sizeI (r : Int) = szOf r := by unfold sizeI; rw [if_pos h]; simp
    rw [e]
    have h1 : decide ((r : Int) < 0) = false := by simp
    have h2 : decide (8 ≤ (r : Int)) = false := by simp; omega
    clear e h
    go_enter Tryd.func16, Tryd.ntmps16
    go_wp2_with (go_at_call 54; refine (sizes_any _).mono ?_; rintro e w' ⟨rfl, rfl⟩)
    go_ret
    exact ⟨rfl, (Keeps.refl _ _).alloc _⟩
  · have e : sizeI c = 0 := by unfold sizeI; rw [if_neg h]
    rw [e]
    clear e
    by_cases h1 : c < 0
    · clear h
      go_enter Tryd.func16, Tryd.ntmps16
      go_wp2
      go_ret
      exact ⟨rfl, Keeps.refl _ _⟩
    · have h1' : decide (c < 0) = false := by simpa using h1
      have h2 : (8 : Int) ≤ c := by omega
      clear h h1
      go_enter Tryd.func16, Tryd.ntmps16
      go_wp2
      go_ret
      exact ⟨rfl, Keeps.refl _ _⟩
theorem chunks_any (c : Int) (w : World) : Calls Tryd.prog 17 #[.int .i64 c] w (NatP (chunkI c) w) := by
  by_cases h : 0 ≤ c ∧ c < 8
  · obtain ⟨r, rfl⟩ := Int.eq_ofNat_of_zero_le h.1
    have hr : r < 8 := by omega
    have e : sizeI (r : Int) = szOf r := by unfold sizeI; rw [if_pos h]; simp
    have e' : chunkI (r : Int) = chk r := by unfold chunkI; rw [if_pos h]; simp
    have HS := Lib.hid (fun W => size_any (r : Int) W)
    rw [e] at HS
    rw [e']
    obtain ⟨z, hz⟩ : ∃ z, z = szOf r := ⟨_, rfl⟩
    obtain ⟨d1, d2⟩ := sz_div r hr
    have d3 := sz_le r
    rw [← hz] at HS d1 d2 d3
    have HD : Hid ((1024 : Int) / (z : Int) = (chk r : Nat)) := Lib.hid (by rw [← d2]; exact (Int.natCast_ediv 1024 z).symm)
    have hz1 : (1 : Int) ≤ (z : Int) := by omega
    have h1 : decide ((r : Int) < 0) = false := by simp
    have h2 : decide (8 ≤ (r : Int)) = false := by simp; omega
    clear e e' h hz d2
    go_enter Tryd.func17, Tryd.ntmps17
    go_wp2_with fail
    refine (HS.out _).mono ?_
    rintro e w' ⟨rfl, hk⟩
    have HK := Lib.hid hk
    clear hk
    go_wp2_with fail
    go_ret
    exact ⟨ret_int HD.out, HK.out⟩
  · have e : chunkI c = 0 := by unfold chunkI; rw [if_neg h]
    rw [e]
    clear e
    by_cases h1 : c < 0
    · clear h
      go_enter Tryd.func17, Tryd.ntmps17
      go_wp2
      go_ret
      exact ⟨rfl, Keeps.refl _ _⟩
    · have h1' : decide (c < 0) = false := by simpa using h1
      have h2 : (8 : Int) ≤ c := by omega
      clear h h1
      go_enter Tryd.func17, Tryd.ntmps17
      go_wp2
      go_ret
      exact ⟨rfl, Keeps.refl _ _⟩

set_option maxHeartbeats 1000000 in
theorem free_any (L : AL) (D : AD) (w : World) (h : ArAt w L D) : Calls Tryd.prog 20 #[L.ptr] w (NatP D.free w) := by
  obtain ⟨c0, hc⟩ := h.cells
  obtain ⟨hn1, hn2⟩ := own_cap h.row
  unfold maxLen at hn2
  have n2 := h.n2
  have HG := Lib.hid (fun i (hi : i < D.n) => h.g32 hi)
  have HC := Lib.hid hc
  have hlt := h.lt L.G (.inr rfl)
  unfold AL.ptr
  clear h hc
  go_enter Tryd.func20, Tryd.ntmps20
  go_wp2
  go_loopw [3, 13] (fun s i wr => ∃ t : Nat, t ≤ D.n ∧ i = .int .i64 t ∧ s = .int .i64 (cnt (fun i => D.g i == 0) t : Nat) ∧ Keeps (fun _ => False) w wr) (fun _ i _ => D.n - (intOf i).toNat)
  case atStart => exact ⟨0, Nat.zero_le _, rfl, rfl, Keeps.refl _ _⟩
  case round =>
    obtain ⟨t, ht, rfl, rfl, hk⟩ := hrel
    have hle := cnt_le (fun i => D.g i == 0) t
    by_cases hlt' : t < D.n
    · obtain ⟨y0, y1⟩ := HC.out t hlt'
      have z0 := (hk.cell (p := ⟨L.G, t * 2, none⟩) hlt id).trans y0
      have z1 := (hk.cell (p := ⟨L.G, t * 2 + 1, none⟩) hlt id).trans y1
      have HK := Lib.hid hk
      have hwr := hk.size
      have hs : cnt (fun i => D.g i == 0) (t + 1) = cnt (fun i => D.g i == 0) t + if D.g t = 0 then 1 else 0 := by simp [cnt]
      have HS := Lib.hid hs
      obtain ⟨x, hx⟩ : ∃ x, x = D.g t := ⟨_, rfl⟩
      rw [← hx] at z1 HS
      generalize cnt (fun i => D.g i == 0) t = m at *
      clear hk hs y0 y1
      by_cases e : x = 0
      · rw [if_pos e] at HS
        subst e
        clear hx
        go_wp2
        go_roundw
        case rel => exact ⟨t + 1, by omega, by go_num, by rw [HS.out]; go_num, HK.out.alloc _⟩
        case measure => simp [intOf]; omega
      · rw [if_neg e] at HS
        have e' : ((x : Int) == 0) = false := by rw [beq_eq_false_iff_ne]; omega
        clear hx e
        go_wp2
        go_roundw
        case rel => exact ⟨t + 1, by omega, by go_num, by rw [HS.out]; rfl, HK.out.alloc _⟩
        case measure => simp [intOf]; omega
    · obtain rfl : t = D.n := by omega
      have HK := Lib.hid hk
      clear hk
      go_wp2
      go_ret
      exact ⟨rfl, HK.out⟩

/-- Two numbers. -/
def TwoP (a b : Nat) (w : World) (e : Ending) (w' : World) : Prop := e = .returned (.tuple #[.int .i64 (a : Nat), .int .i64 (b : Nat)]) ∧ Keeps (fun _ => False) w w'
theorem pc_le (x : Nat) (h : x < 4294967296) : pc x ≤ 32 := by
  rw [pc_bytes x h]
  have l1 := pc_byte_le (x % 256) (by omega)
  have l2 := pc_byte_le (x / 256 % 256) (by omega)
  have l3 := pc_byte_le (x / 65536 % 256) (by omega)
  have l4 := pc_byte_le (x / 16777216) (by omega)
  omega
theorem sumN_le (f : Nat → Nat) (m : Nat) (h : ∀ i, f i ≤ m) : ∀ n, sumN f n ≤ n * m
  | 0 => by simp [sumN]
  | n + 1 => by
    have h1 := sumN_le f m h n
    have h2 := h n
    simp only [sumN]
    rw [Nat.add_mul, Nat.one_mul]
    omega
def useN (D : AD) (k : Int) (i : Nat) : Nat := if isOf D k i then pc (D.g i) else 0
theorem used_eq (D : AD) (k : Int) : D.used k = sumN (useN D k) D.n := rfl

set_option maxHeartbeats 2000000 in
theorem count_any (L : AL) (D : AD) (w : World) (h : ArAt w L D) (k : Int) : Calls Tryd.prog 56 #[L.ptr, .int .i64 k] w (TwoP (D.pages k) (D.used k) w) := by
  rw [used_eq]
  unfold AD.pages
  obtain ⟨c0, hc⟩ := h.cells
  obtain ⟨hn1, hn2⟩ := own_cap h.row
  unfold maxLen at hn2
  have n2 := h.n2
  have HG := Lib.hid (fun i (hi : i < D.n) => h.g32 hi)
  have HU : Hid (∀ t, t ≤ D.n → sumN (useN D k) t ≤ t * 32) := Lib.hid (fun t => by
    induction t with
    | zero => intro _; simp [sumN]
    | succ t ih =>
      intro ht
      have h1 := ih (by omega)
      have h2 : useN D k t ≤ 32 := by
        unfold useN
        split
        · exact pc_le _ (h.g32 (by omega))
        · omega
      simp only [sumN]
      omega)
  have HC := Lib.hid hc
  have hlt := h.lt L.G (.inr rfl)
  unfold AL.ptr
  clear h hc
  go_enter Tryd.func56, Tryd.ntmps56
  go_wp2
  go_loopw [6, 7, 17] (fun s q i wr => ∃ t : Nat, t ≤ D.n ∧ i = .int .i64 t ∧ s = .int .i64 (cnt (isOf D k) t : Nat) ∧ q = .int .i64 (sumN (useN D k) t : Nat) ∧ Keeps (fun _ => False) w wr) (fun _ _ i _ => D.n - (intOf i).toNat)
  case atStart => exact ⟨0, Nat.zero_le _, rfl, rfl, rfl, Keeps.refl _ _⟩
  case round =>
    obtain ⟨t, ht, rfl, rfl, rfl, hk⟩ := hrel
    have hle := cnt_le (isOf D k) t
    have hue := HU.out t ht
    by_cases hlt' : t < D.n
    · obtain ⟨y0, y1⟩ := HC.out t hlt'
      have z0 := (hk.cell (p := ⟨L.G, t * 2, none⟩) hlt id).trans y0
      have z1 := (hk.cell (p := ⟨L.G, t * 2 + 1, none⟩) hlt id).trans y1
      have HK := Lib.hid hk
      have hwr := hk.size
      have HS : Hid (cnt (isOf D k) (t + 1) = cnt (isOf D k) t + if isOf D k t then 1 else 0) := Lib.hid rfl
      have HT : Hid (sumN (useN D k) (t + 1) = sumN (useN D k) t + if isOf D k t then pc (D.g t) else 0) := Lib.hid rfl
      have hx32 := HG.out t hlt'
      have hpc := pc_le _ hx32
      have HI : Hid (isOf D k t = (D.g t != 0 && decide ((D.c t : Int) = k))) := Lib.hid rfl
      obtain ⟨x, hx⟩ : ∃ x, x = D.g t := ⟨_, rfl⟩
      obtain ⟨y, hy⟩ : ∃ y, y = D.c t := ⟨_, rfl⟩
      rw [← hx] at z1 HT HI hx32 hpc
      rw [← hy] at z0 HI
      generalize cnt (isOf D k) t = m at *
      generalize sumN (useN D k) t = m2 at *
      generalize isOf D k t = b at *
      clear hk y0 y1 hx hy
      by_cases e : x = 0
      · have hb : Hid (b = false) := Lib.hid (by rw [HI.out, e]; rfl)
        subst e
        go_wp2_with fail
        go_roundw
        case rel => exact ⟨t + 1, by omega, by go_num, by rw [HS.out, hb.out]; go_num, by rw [HT.out, hb.out]; go_num, HK.out.alloc _⟩
        case measure => simp [intOf]; omega
      · have e' : ((x : Int) == 0) = false := by rw [beq_eq_false_iff_ne]; omega
        have e2 : ((x : Int) != 0) = true := by rw [bne_iff_ne]; omega
        have e3 : ¬ ((x : Int) = 0) := by omega
        by_cases ey : (y : Int) = k
        · have hb : Hid (b = true) := Lib.hid (by rw [HI.out]; simp [e, ey])
          have ey' : ((y : Int) == k) = true := by simpa using ey
          clear e e3
          go_wp2_with fail
          refine (ones_any x hx32 _).mono ?_
          rintro e w2 ⟨rfl, hk2⟩
          have HK2 : Hid (Keeps (fun _ => False) w w2) := Lib.hid ((HK.out.alloc _).trans hk2)
          clear hk2
          go_wp2_with fail
          go_roundw
          case rel => exact ⟨t + 1, by omega, by go_num, by rw [HS.out, hb.out]; go_num, by rw [HT.out, hb.out]; go_num, HK2.out⟩
          case measure => simp [intOf]; omega
        · have hb : Hid (b = false) := Lib.hid (by rw [HI.out]; simp [ey])
          have ey' : ((y : Int) == k) = false := by simpa using ey
          clear e e3 ey
          go_wp2_with fail
          go_roundw
          case rel => exact ⟨t + 1, by omega, by go_num, by rw [HS.out, hb.out]; go_num, by rw [HT.out, hb.out]; go_num, HK.out.alloc _⟩
          case measure => simp [intOf]; omega
    · obtain rfl : t = D.n := by omega
      have HK := Lib.hid hk
      clear hk
      go_wp2_with fail
      go_ret2
      exact ⟨rfl, HK.out⟩
theorem used_any (L : AL) (D : AD) (w : World) (h : ArAt w L D) (k : Int) : Calls Tryd.prog 21 #[L.ptr, .int .i64 k] w (NatP (D.used k) w) := by
  have HC := Lib.hid (count_any L D w h k)
  clear h
  unfold AL.ptr at *
  go_enter Tryd.func21, Tryd.ntmps21
  go_wp2_with fail
  refine HC.out.mono ?_
  rintro e w2 ⟨rfl, hk⟩
  have HK := Lib.hid hk
  clear hk
  go_wp2_with fail
  go_ret
  exact ⟨rfl, HK.out⟩
theorem pages_any (L : AL) (D : AD) (w : World) (h : ArAt w L D) (k : Int) : Calls Tryd.prog 22 #[L.ptr, .int .i64 k] w (NatP (D.pages k) w) := by
  have HC := Lib.hid (count_any L D w h k)
  clear h
  unfold AL.ptr at *
  go_enter Tryd.func22, Tryd.ntmps22
  go_wp2_with fail
  refine HC.out.mono ?_
  rintro e w2 ⟨rfl, hk⟩
  have HK := Lib.hid hk
  clear hk
  go_wp2_with fail
  go_ret
  exact ⟨rfl, HK.out⟩
end Go.Proofs.YthnagihgjenimaaDoor
