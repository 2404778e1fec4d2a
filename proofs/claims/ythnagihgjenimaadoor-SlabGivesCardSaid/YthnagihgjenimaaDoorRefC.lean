/- icehouseref11: Count. -/
import Derived.Test.YthnagihgjenimaaDoorRefV
namespace Go.Proofs.YthnagihgjenimaaDoor
open Go.RowKit
set_option linter.unusedVariables false
set_option linter.unusedSimpArgs false

def bcnt (g q : Nat) : Nat := cnt (fun b => bitN g b == 1) q
theorem cnt_shift (p : Nat → Bool) : ∀ n, cnt p (n + 1) = (if p 0 then 1 else 0) + cnt (fun i => p (i + 1)) n
  | 0 => by simp [cnt]
  | n + 1 => by
    have h := cnt_shift p n
    have e1 : cnt p (n + 1 + 1) = cnt p (n + 1) + if p (n + 1) then 1 else 0 := rfl
    have e2 : cnt (fun i => p (i + 1)) (n + 1) = cnt (fun i => p (i + 1)) n + if p (n + 1) then 1 else 0 := rfl
    omega
theorem bcnt_pop : ∀ f g, bcnt g f = Lib.popAux f g
  | 0, _ => rfl
  | f + 1, g => by
    have h := bcnt_pop f (g / 2)
    unfold bcnt at *
    rw [cnt_shift, Lib.popAux, ← h]
    congr 1
    · have h2 : bitN g 0 = g % 2 := by simp [bitN]
      rw [h2]
      have := Nat.mod_two_eq_zero_or_one g
      rcases this with e | e <;> simp [e]
    · congr 1
      funext b
      rw [bit_half]
theorem bcnt_pc {g : Nat} (hg : g < 4294967296) : bcnt g 32 = pc g := by
  rw [bcnt_pop, pc_of 32 g (by omega) (by omega)]
theorem bcnt_le (g q : Nat) : bcnt g q ≤ q := cnt_le _ _
theorem bcnt_on {g q : Nat} (h : bitN g q = 1) : bcnt g (q + 1) = bcnt g q + 1 := by
  show cnt _ q + (if bitN g q == 1 then 1 else 0) = _
  rw [h]
  rfl
theorem bcnt_off {g q : Nat} (h : ¬ bitN g q = 1) : bcnt g (q + 1) = bcnt g q := by
  show cnt _ q + (if bitN g q == 1 then 1 else 0) = _
  rw [if_neg (by simpa using h)]
  rfl
/-- Of the first t pages: how many are of the class x; how many chunks of them are given. -/
def AD.rn (D : AD) (x : Int) (t : Nat) : Nat := cnt (fun i => decide (D.of i = x)) t
def AD.rk (D : AD) (x : Int) (t : Nat) : Nat := sumN (fun i => if D.of i = x then pc (D.g i) else 0) t
theorem rn_yes {D : AD} {x : Int} {t : Nat} (h : D.of t = x) : D.rn x (t + 1) = D.rn x t + 1 := by simp [AD.rn, cnt, h]
theorem rn_no {D : AD} {x : Int} {t : Nat} (h : ¬ D.of t = x) : D.rn x (t + 1) = D.rn x t := by simp [AD.rn, cnt, h]
theorem rk_yes {D : AD} {x : Int} {t : Nat} (h : D.of t = x) : D.rk x (t + 1) = D.rk x t + pc (D.g t) := by simp [AD.rk, sumN, h]
theorem rk_no {D : AD} {x : Int} {t : Nat} (h : ¬ D.of t = x) : D.rk x (t + 1) = D.rk x t := by simp [AD.rk, sumN, h]
theorem rk_le {D : AD} (hD : D.Ok) (x : Int) : ∀ t, t ≤ D.n → D.rk x t ≤ 32 * t
  | 0, _ => by simp [AD.rk, sumN]
  | t + 1, h => by
    have h1 := rk_le hD x t (by omega)
    by_cases e : D.of t = x
    · rw [rk_yes e]
      have := pc_le _ (hD.g32 (i := t) (by omega))
      omega
    · rw [rk_no e]
      omega
theorem cnt_congr {p p' : Nat → Bool} : ∀ n, (∀ i, i < n → p i = p' i) → cnt p n = cnt p' n
  | 0, _ => rfl
  | n + 1, h => by simp only [cnt]; rw [cnt_congr n (fun i hi => h i (by omega)), h n (by omega)]
theorem rn_free (D : AD) : D.rn (-1) D.n = D.free := cnt_congr _ fun i _ => by
  unfold AD.of
  by_cases e : D.g i = 0
  · simp [e]
  · simp [e]
theorem rn_pages (D : AD) (k : Nat) : D.rn (k : Nat) D.n = D.pages (k : Nat) := cnt_congr _ fun i _ => by
  unfold AD.of isOf
  by_cases e : D.g i = 0
  · simp [e]
  · simp [e]
theorem rk_used (D : AD) (k : Nat) : D.rk (k : Nat) D.n = D.used (k : Nat) := by
  rw [used_eq]
  refine sumN_congr _ fun i _ => ?_
  unfold useN AD.of isOf
  by_cases e : D.g i = 0
  · simp [e]
  · by_cases e2 : (D.c i : Int) = (k : Nat)
    · simp [e, e2]
    · simp [e, e2]
set_option maxRecDepth 100000 in
set_option maxHeartbeats 2000000 in
theorem rcount_any (X : RG) (D : AD) (hD : D.Ok) (w : World) (h : RgAt w X D.n (gv D)) (x : Int) : Calls Tryd.prog 30 #[X.val D.n, .int .i64 x] w (TwoP (D.rn x D.n) (D.rk x D.n) w) := by
  obtain ⟨hcap, hmx⟩ := h.cap
  have n2 := h.n2
  have b0 := Blk.new w 40 [.slice (some ⟨X.O, 0, none⟩) D.n X.cap]
  have hk0 : Keeps (fun _ => False) w (w.alloc (.cells [Value.slice (some ⟨X.O, 0, none⟩) D.n X.cap].toArray 40)) := (Keeps.refl _ _).alloc _
  obtain ⟨w1, hw1⟩ : ∃ w1, w1 = w.alloc (.cells [Value.slice (some ⟨X.O, 0, none⟩) D.n X.cap].toArray 40) := ⟨_, rfl⟩
  rw [← hw1] at b0 hk0
  have HX1 := Lib.hid (h.quiet hk0)
  have c0 := b0.cell (i := 0) rfl
  have hl0 := b0.lt
  have HK0 := Lib.hid hk0
  have HD := Lib.hid hD
  have HOF := Lib.hid (fun i (hi : i < D.n) W (hW : Keeps (fun _ => False) w1 W) => of_any X D HD.out W (HX1.out.quiet hW) i hi)
  have HRK := Lib.hid (rk_le hD x)
  clear hk0 b0 h hD
  unfold maxLen at hmx
  unfold RG.val at *
  go_enter Tryd.func30, Tryd.ntmps30
  go_wp2
  rw [← hw1]
  clear hw1
  go_loopw [6, 7, 8] (fun a b i wr => ∃ t : Nat, t ≤ D.n ∧ i = .int .i64 t ∧ a = .int .i64 (D.rn x t : Nat) ∧ b = .int .i64 (D.rk x t : Nat) ∧ Keeps (fun _ => False) w1 wr) (fun _ _ i _ => D.n - (intOf i).toNat)
  case atStart => exact ⟨0, Nat.zero_le _, rfl, rfl, rfl, Keeps.refl _ _⟩
  case round =>
    obtain ⟨t, ht, rfl, rfl, rfl, hkr⟩ := hrel
    have HKR := Lib.hid hkr
    have z0 := (hkr.cell (p := ⟨w.heap.size, 0, none⟩) hl0 id).trans c0
    have hsr := hkr.size
    have hrn : D.rn x t ≤ t := cnt_le _ _
    have hrk := HRK.out t ht
    clear hkr
    by_cases hlt : t < D.n
    · have HOT := Lib.hid (HOF.out t hlt _ HKR.out)
      by_cases hof : D.of t = x
      · have HN := Lib.hid (rn_yes hof)
        have HK := Lib.hid (rk_yes hof)
        rw [hof] at HOT
        have hpc := pc_le _ (HD.out.g32 hlt)
        obtain ⟨a, ha⟩ : ∃ a, a = D.rn x t := ⟨_, rfl⟩
        obtain ⟨b, hb⟩ : ∃ b, b = D.rk x t := ⟨_, rfl⟩
        obtain ⟨pp, hpp⟩ : ∃ pp, pp = pc (D.g t) := ⟨_, rfl⟩
        rw [← ha] at hrn HN ⊢
        rw [← hb] at hrk HK ⊢
        rw [← hpp] at hpc HK
        have HPP := Lib.hid hpp
        clear hof ha hb hpp
        go_wp2_with fail
        refine HOT.out.mono ?_
        rintro e w4 ⟨rfl, hk4⟩
        have HK4 := Lib.hid (HKR.out.trans hk4)
        have z4 := (hk4.cell (p := ⟨w.heap.size, 0, none⟩) (by show w.heap.size < _; omega) id).trans z0
        obtain ⟨y0, y1⟩ := (HX1.out.quiet HK4.out).cells t hlt
        have HY1 := Lib.hid y1
        clear hk4 y1
        unfold rowv at *
        go_wp2_with fail
        go_loopw [7, 9] (fun b' j wr => ∃ q : Nat, q ≤ 32 ∧ j = .int .i64 q ∧ (∃ v : Nat, v = bcnt (D.g t) q ∧ b' = .int .i64 ((b : Int) + v)) ∧ w4 = wr) (fun _ j _ => 32 - (intOf j).toNat)
        case atStart => exact ⟨0, Nat.zero_le _, rfl, ⟨0, rfl, by go_num⟩, rfl⟩
        case round =>
          obtain ⟨q, hq, rfl, ⟨v, hv, rfl⟩, rfl⟩ := hrel
          have hbq := bcnt_le (D.g t) q
          rw [← hv] at hbq
          by_cases hlt2 : q < 32
          · have y2 := HY1.out q hlt2
            have hg8 := gv_le HD.out hlt q
            by_cases hbt : bitN (D.g t) q = 1
            · rw [gv_pos hbt] at y2 hg8
              have hgt : decide ((0 : Int) < ((D.c t + 1 : Nat) : Int)) = true := by rw [decide_eq_true_iff]; omega
              have HB : Hid (v + 1 = bcnt (D.g t) (q + 1)) := Lib.hid (by rw [bcnt_on hbt, hv])
              clear hbt hv
              go_wp2_with fail
              go_roundw
              case rel => exact ⟨q + 1, by omega, by go_num, ⟨v + 1, HB.out, by go_num⟩, trivial⟩
              case measure => simp [intOf]; omega
            · rw [gv_zero hbt] at y2 hg8
              have HB : Hid (v = bcnt (D.g t) (q + 1)) := Lib.hid (by rw [bcnt_off hbt, hv])
              clear hbt hv
              go_wp2_with fail
              go_roundw
              case rel => exact ⟨q + 1, by omega, by go_num, ⟨v, HB.out, by go_num⟩, trivial⟩
              case measure => simp [intOf]; omega
          · obtain rfl : q = 32 := by omega
            have HB : Hid (v = pp) := Lib.hid (by rw [hv, bcnt_pc (HD.out.g32 hlt), HPP.out])
            clear hv
            go_wp2_with fail
            go_roundw
            case rel => exact ⟨t + 1, by omega, by go_num, by rw [HN.out]; go_num, by rw [HK.out, ← HB.out]; go_num, HK4.out⟩
            case measure => simp [intOf]; omega
      · have HN := Lib.hid (rn_no hof)
        have HK := Lib.hid (rk_no hof)
        have hofb : (D.of t == x) = false := by simpa using hof
        obtain ⟨a, ha⟩ : ∃ a, a = D.rn x t := ⟨_, rfl⟩
        obtain ⟨b, hb⟩ : ∃ b, b = D.rk x t := ⟨_, rfl⟩
        rw [← ha] at hrn HN ⊢
        rw [← hb] at hrk HK ⊢
        generalize D.of t = oft at *
        clear hof ha hb
        go_wp2_with fail
        refine HOT.out.mono ?_
        rintro e w4 ⟨rfl, hk4⟩
        have HK4 := Lib.hid (HKR.out.trans hk4)
        clear hk4
        go_wp2_with fail
        go_roundw
        case rel => exact ⟨t + 1, by omega, by go_num, by rw [HN.out], by rw [HK.out], HK4.out⟩
        case measure => simp [intOf]; omega
    · obtain rfl : t = D.n := by omega
      obtain ⟨a, ha⟩ : ∃ a, a = D.rn x D.n := ⟨_, rfl⟩
      obtain ⟨b, hb⟩ : ∃ b, b = D.rk x D.n := ⟨_, rfl⟩
      rw [← ha, ← hb]
      have HA := Lib.hid ha
      have HB := Lib.hid hb
      clear ha hb
      go_wp2_with fail
      go_ret2
      exact ⟨by rw [← HA.out, ← HB.out]; rfl, HK0.out.trans HKR.out⟩
end Go.Proofs.YthnagihgjenimaaDoor
