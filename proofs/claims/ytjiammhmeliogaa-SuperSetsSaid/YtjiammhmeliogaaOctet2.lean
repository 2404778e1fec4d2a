/- octet: Put16, Put64; icehouseref01: High, Both, Number. -/
import Derived.Test.YtjiammhmeliogaaOctet
namespace Go.Proofs.Ytjiammhmeliogaa
open Go.RowKit
set_option linter.unusedVariables false
set_option linter.unusedSimpArgs false

theorem put64_any (a : Option Addr) (m cap : Nat) (xs : List Int) (x : Nat) (w : World) (h : Row .u8 w a m xs) (hm : m ≤ 4096) (hx : x ≤ 18446744073709551615) : Calls Try.prog 74 #[.slice a m cap, .int .u64 (x : Nat)] w (BytesP (xs ++ hi x 8) w) := by
  have HP := Lib.hid (put_any a m cap xs x 8 w h hm hx (by omega))
  clear h
  go_enter Try.func74, Try.ntmps74
  go_wp2_with fail
  refine HP.out.mono ?_
  rintro e w1 ⟨rv, rfl, ho, hk⟩
  have HO := Lib.hid ho
  have HK := Lib.hid hk
  clear ho hk
  go_wp2_with fail
  go_ret
  exact ⟨_, rfl, HO.out, HK.out⟩
theorem put16_any (a : Option Addr) (m cap : Nat) (xs : List Int) (x : Nat) (w : World) (h : Row .u8 w a m xs) (hm : m ≤ 4096) (hx : x ≤ 65535) : Calls Try.prog 75 #[.slice a m cap, .int .u16 (x : Nat)] w (BytesP (xs ++ hi x 2) w) := by
  have HP := Lib.hid (put_any a m cap xs x 2 w h hm (by omega) (by omega))
  clear h
  go_enter Try.func75, Try.ntmps75
  go_wp2_with fail
  refine HP.out.mono ?_
  rintro e w1 ⟨rv, rfl, ho, hk⟩
  have HO := Lib.hid ho
  have HK := Lib.hid hk
  clear ho hk
  go_wp2_with fail
  go_ret
  exact ⟨_, rfl, HO.out, HK.out⟩

theorem bk_zero (n : Nat) : madeCells #[Value.int .u8 0] n = (bk (List.replicate n 0)).toArray := by
  apply Array.ext
  · simp [madeCells, bk]
  · intro j h1 h2
    simp [madeCells, bk, Nat.mod_one]
theorem make116 (n c : Nat) (hn : n ≤ c) (hc : c ≤ 8192) (w : World) : (Instr.makeSlice 116 (.int .i64 (n : Int)) (.int .i64 (c : Int))).run Try.prog w = .ok (.slice (some ⟨w.heap.size, 0, none⟩) n c) (w.alloc (.cells (bk (List.replicate c 0)).toArray 5)) := by
  obtain ⟨i0, hi1, hz0, hz1, hz2⟩ := info_parts infoU8
  have h := run_make (P := Try.prog) w 116 5 i0 (.int .u8 0) Try.underlying116 hi1 hz0 .i64 .i64 n c (by omega) (by omega) (by rw [hz2]; omega) (by omega)
  rw [hz1] at h
  have e : (Value.int .u8 0).cells = #[Value.int .u8 0] := rfl
  rw [e] at h
  simp only [Int.toNat_natCast, Nat.mul_one] at h
  rw [bk_zero] at h
  exact h
/-- Behind the places from q on. -/
def part0 (x : Int) (n q : Nat) : List Int := List.replicate q 0 ++ (hi x n).drop q
theorem part0_len {x : Int} {n q : Nat} (h : q ≤ n) : (part0 x n q).length = n := by simp [part0, hi_len]; omega
theorem part0_set {x : Int} {n r : Nat} (h : r < n) : (part0 x n (r + 1)).set r (x / 256 ^ (n - 1 - r) % 256) = part0 x n r := by
  have h0 := hi_get n x r h
  unfold part0
  apply List.ext_getElem?
  intro j
  by_cases e : j = r
  · subst e
    rw [List.getElem?_set_self (by simp [hi_len]; omega), List.getElem?_append_right (by simp), ← h0]
    simp [List.getD_eq_getElem?_getD, hi_len, h]
  · rw [List.getElem?_set_ne (fun h => e h.symm)]
    by_cases h1 : j < r
    · rw [List.getElem?_append_left (by simp; omega), List.getElem?_append_left (by simp; omega)]
      rw [List.getElem?_replicate, List.getElem?_replicate, if_pos (by omega), if_pos (by omega)]
    · rw [List.getElem?_append_right (by simp; omega), List.getElem?_append_right (by simp; omega)]
      simp
      congr 1
      omega
theorem blk_own {w : World} {g n B : Nat} {l : List Int} (h : Blk w g 5 (bk l)) (hl : l.length = n) (hm : n ≤ maxLen) (hB : B ≤ g) : w.ownsRow B 5 1 (.slice (some ⟨g, 0, none⟩) n n) n (bk l) := by
  subst hl
  refine ⟨by simp [bk_len], .inr ⟨g, l.length, _, rfl, hB, h, Nat.le_refl _, hm, by simp [bk_len], ?_⟩⟩
  have e : (bk l).toArray.toList.take (l.length * 1) = (bk l).take (bk l).length := by rw [bk_len, Nat.mul_one]
  rw [e, List.take_length]
theorem bk_set (l : List Int) (i : Nat) (x : Int) : (bk l).set i (.int .u8 x) = bk (l.set i x) := by simp [bk, List.map_set]
set_option maxRecDepth 100000 in
set_option maxHeartbeats 1000000 in
theorem high_any (x n : Nat) (w : World) (hx : x ≤ 18446744073709551615) (hn : n ≤ 8) (hn1 : 1 ≤ n) : Calls Try.prog 71 #[.int .u64 (x : Nat), .int .i64 (n : Nat)] w (BytesP (hi x n) w) := by
  have hmk := make116 n n (Nat.le_refl _) (by omega) w
  have HB := Lib.hid (Blk.new w 5 (bk (List.replicate n 0)))
  go_enter Try.func71, Try.ntmps71
  go_wp2_with fail
  go_loopw [0, 6] (fun v i wr => ∃ q : Nat, q ≤ n ∧ i = .int .i64 ((q : Int) - 1) ∧ v = .int .u64 ((x : Int) / 256 ^ (n - q)) ∧ Blk wr w.heap.size 5 (bk (part0 x n q)) ∧ Keeps (fun _ => False) w wr) (fun _ i _ => (intOf i + 1).toNat)
  case atStart => exact ⟨n, Nat.le_refl _, rfl, by simp, by
    have : part0 (x : Int) n n = List.replicate n 0 := by unfold part0; rw [List.drop_of_length_le (by rw [hi_len]; exact Nat.le_refl _), List.append_nil]
    rw [this]; exact HB.out, (Keeps.refl _ _).alloc _⟩
  case round =>
    obtain ⟨q, hq, rfl, rfl, hb, hk⟩ := hrel
    have HB2 := Lib.hid hb
    have HK := Lib.hid hk
    clear hb hk
    rcases q with _ | r
    · have e0 : ((0 : Nat) : Int) - 1 = -1 := rfl
      rw [e0]
      go_wp2_with fail
      go_ret
      have hb := HB2.out
      rw [show part0 (x : Int) n 0 = hi x n by simp [part0]] at hb
      have := blk_own hb (n := n) (hi_len _ _) (by unfold maxLen; omega) (Nat.le_refl _)
      exact ⟨_, rfl, by rw [hi_len]; exact this, HK.out⟩
    · have e0 : ((r + 1 : Nat) : Int) - 1 = (r : Int) := by omega
      rw [e0]
      have hl := part0_len (x := (x : Int)) hq
      have hc := HB2.out.cell (i := r) (v := .int .u8 ((part0 x n (r + 1)).getD r 0)) (bk_at (by omega))
      have hf := HB2.out.free r
      have hst := HB2.out.store r (.int .u8 ((x : Int) / 256 ^ (n - 1 - r) % 256))
      rw [bk_set, part0_set (by omega)] at hst
      have HST := Lib.hid hst
      have e1 : n - (r + 1) = n - 1 - r := by omega
      have HV : Hid ((x : Int) / 256 ^ (n - r) = (x : Int) / 256 ^ (n - 1 - r) / 256) := Lib.hid (by
        rw [show n - r = (n - 1 - r) + 1 by omega, Int.pow_succ, Int.ediv_ediv_of_nonneg (by exact Int.le_of_lt (Int.pow_pos (by omega)))])
      rw [e1]
      obtain ⟨y, hy⟩ : ∃ y : Nat, (x : Int) / 256 ^ (n - 1 - r) = (y : Int) := ⟨x / 256 ^ (n - 1 - r), by simp⟩
      have hyx : y ≤ x := by
        have : (y : Int) ≤ x := by rw [← hy]; exact Int.ediv_le_self _ (by omega)
        omega
      rw [hy] at HST HV ⊢
      clear hst hl hy
      go_wp2_with fail
      go_roundw
      case rel => exact ⟨r, by omega, by go_num, by rw [HV.out], HST.out, HK.out.store (.inr (Nat.le_refl _)) _⟩
      case measure => simp [intOf]
theorem own_make {w : World} {g c B : Nat} {l : List Int} (h : Blk w g 5 (bk l)) (hl : l.length = c) (hm : c ≤ maxLen) (hB : B ≤ g) : w.ownsRow B 5 1 (.slice (some ⟨g, 0, none⟩) 0 c) 0 [] := by
  subst hl
  exact ⟨rfl, .inr ⟨g, l.length, _, rfl, hB, h, Nat.zero_le _, hm, by simp [bk_len], by simp⟩⟩
set_option maxRecDepth 100000 in
set_option maxHeartbeats 1000000 in
theorem both_any (a b : Option Addr) (m n c1 c2 : Nat) (xs ys : List Int) (w : World) (hA : Row .u8 w a m xs) (hB : Row .u8 w b n ys) (hm : m ≤ 4000) (hn : n ≤ 4000) (hc1 : m ≤ c1) (hc2 : n ≤ c2) : Calls Try.prog 70 #[.slice a m c1, .slice b n c2] w (BytesP (xs ++ ys) w) := by
  obtain ⟨i0, hi1, hz0, hz1, hz2⟩ := info_parts infoU8
  have hmk : (Instr.makeSlice 116 (.int .i64 0) (.int .i64 ((m : Int) + (n : Int)))).run Try.prog w = .ok (.slice (some ⟨w.heap.size, 0, none⟩) 0 (m + n)) (w.alloc (.cells (bk (List.replicate (m + n) 0)).toArray 5)) := by
    have := make116 0 (m + n) (by omega) (by omega) w
    simpa using this
  have HBK := Lib.hid (own_make (c := m + n) (Blk.new w 5 (bk (List.replicate (m + n) 0))) (by simp) (by unfold maxLen; omega) (Nat.le_refl _))
  have HA := Lib.hid hA
  have HB := Lib.hid hB
  clear hA hB
  go_enter Try.func70, Try.ntmps70
  go_wp2_with fail
  go_loopw [5, 6] (fun v i wr => ∃ t : Nat, t ≤ m ∧ i = .int .i64 t ∧ wr.ownsRow w.heap.size 5 1 v t (bk (xs.take t)) ∧ Keeps (fun _ => False) w wr) (fun _ i _ => m - (intOf i).toNat)
  case atStart => exact ⟨0, Nat.zero_le _, rfl, by simpa [bk] using HBK.out, ((Keeps.refl _ _).alloc _)⟩
  case round =>
    obtain ⟨t, ht, rfl, hown, hk⟩ := hrel
    have HOW := Lib.hid hown
    have HK := Lib.hid hk
    have hs := hk.size
    clear hown hk
    by_cases hlt : t < m
    · obtain ⟨ad, rfl, hcell⟩ := (HA.out.quiet HK.out).2 t hlt
      have HT : Hid (xs.take (t + 1) = xs.take t ++ [xs.getD t 0]) := Lib.hid (by
        have hl : t < xs.length := by rw [HA.out.1]; exact hlt
        rw [List.take_succ_eq_append_getElem hl, List.getD_eq_getElem?_getD, List.getElem?_eq_getElem hl]
        rfl)
      obtain ⟨z, hz⟩ : ∃ z, z = xs.getD t 0 := ⟨_, rfl⟩
      rw [← hz] at hcell HT
      clear hz
      go_wp2_with (at_builtin; refine wpList_append_own _ rfl _ _ 116 rfl w.heap.size 5 i0 (.int .u8 0) 1 1 Try.underlying116 hi1 hz0 hz1 hz2 rfl (by decide) _ _ _ rfl (HOW.out.alloc _) ⟨wr.heap.size, 0, none⟩ 1 1 [.int .u8 z] rfl rfl (cell_one_new _ _ _) (by simp [Value.oneCell']) (by unfold maxLen; omega) (by omega) (by simp; omega) ?_)
      intro v' w2 hown2 hg2 _
      have HO2 : Hid (w2.ownsRow w.heap.size 5 1 v' (t + 1) (bk (xs.take (t + 1)))) := Lib.hid (by
        rw [HT.out, bk_snoc]
        exact hown2)
      have HK3 := Lib.hid (grow_keeps (HK.out.alloc _) hg2 fun g hg => (own_heap HOW.out hg).1)
      clear hown2 hg2
      go_wp2_with fail
      go_roundw
      case rel => exact ⟨t + 1, by omega, by go_num, HO2.out, HK3.out⟩
      case measure => simp [intOf]; omega
    · obtain rfl : m = t := by omega
      have hfst := HOW.out
      rw [List.take_of_length_le (by rw [HA.out.1]; exact Nat.le_refl _)] at hfst
      have HFST := Lib.hid hfst
      have HKF := HK
      clear hfst
      go_wp2_with fail
      go_loopw [5, 7] (fun v i wr => ∃ t : Nat, t ≤ n ∧ i = .int .i64 t ∧ wr.ownsRow w.heap.size 5 1 v (m + t) (bk (xs ++ ys.take t)) ∧ Keeps (fun _ => False) w wr) (fun _ i _ => n - (intOf i).toNat)
      case atStart => exact ⟨0, Nat.zero_le _, rfl, by simpa using HFST.out, HKF.out⟩
      case round =>
        obtain ⟨t, ht, rfl, hown, hk⟩ := hrel
        have HOW := Lib.hid hown
        have HK := Lib.hid hk
        have hs := hk.size
        clear hown hk
        by_cases hlt : t < n
        · obtain ⟨ad, rfl, hcell⟩ := (HB.out.quiet HK.out).2 t hlt
          have HT : Hid (ys.take (t + 1) = ys.take t ++ [ys.getD t 0]) := Lib.hid (by
            have hl : t < ys.length := by rw [HB.out.1]; exact hlt
            rw [List.take_succ_eq_append_getElem hl, List.getD_eq_getElem?_getD, List.getElem?_eq_getElem hl]
            rfl)
          obtain ⟨z, hz⟩ : ∃ z, z = ys.getD t 0 := ⟨_, rfl⟩
          rw [← hz] at hcell HT
          clear hz
          go_wp2_with (at_builtin; refine wpList_append_own _ rfl _ _ 116 rfl w.heap.size 5 i0 (.int .u8 0) 1 1 Try.underlying116 hi1 hz0 hz1 hz2 rfl (by decide) _ _ _ rfl (HOW.out.alloc _) ⟨wr.heap.size, 0, none⟩ 1 1 [.int .u8 z] rfl rfl (cell_one_new _ _ _) (by simp [Value.oneCell']) (by unfold maxLen; omega) (by omega) (by simp; omega) ?_)
          intro v' w2 hown2 hg2 _
          have HO2 : Hid (w2.ownsRow w.heap.size 5 1 v' (m + (t + 1)) (bk (xs ++ ys.take (t + 1)))) := Lib.hid (by
            rw [HT.out, ← List.append_assoc, bk_snoc, ← Nat.add_assoc]
            exact hown2)
          have HK3 := Lib.hid (grow_keeps (HK.out.alloc _) hg2 fun g hg => (own_heap HOW.out hg).1)
          clear hown2 hg2
          go_wp2_with fail
          go_roundw
          case rel => exact ⟨t + 1, by omega, by go_num, HO2.out, HK3.out⟩
          case measure => simp [intOf]; omega
        · obtain rfl : n = t := by omega
          have hlast := HOW.out
          rw [List.take_of_length_le (by rw [HB.out.1]; exact Nat.le_refl _)] at hlast
          have HLS := Lib.hid hlast
          clear hlast
          go_wp2_with fail
          go_ret
          exact ⟨_, rfl, by rw [List.length_append, HA.out.1, HB.out.1]; exact HLS.out, HK.out⟩
end Go.Proofs.Ytjiammhmeliogaa
