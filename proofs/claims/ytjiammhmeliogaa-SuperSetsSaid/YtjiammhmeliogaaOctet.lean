/- octet: bytes cloned, numbers put behind bytes. -/
import Derived.Test.YtjiammhmeliogaaSupM
import Derived.Test.YtjiammhmeliogaaNew
namespace Go.Proofs.Ytjiammhmeliogaa
open Go.RowKit
set_option linter.unusedVariables false
set_option linter.unusedSimpArgs false

/-! ### Rows of bytes -/
theorem infoU8 : (Try.prog.info? 5).map (fun i => (i.zero, i.size, i.bytes)) = some (some (.int .u8 0), 1, 1) := by kernel_rfl
theorem bk_at {l : List Int} {j : Nat} (h : j < l.length) : (bk l)[j]? = some (.int .u8 (l.getD j 0)) := by simp [bk, h]
theorem bk_snoc (l : List Int) (x : Int) : bk (l ++ [x]) = bk l ++ [.int .u8 x] := by simp [bk]
theorem bk_app (l m : List Int) : bk (l ++ m) = bk l ++ bk m := by simp [bk]
theorem own_read1 {w : World} {base : Nat} {e : TypeId} {v : Value} {n : Nat} {xs : List Value} (h : w.ownsRow base e 1 v n xs) :
    xs.length = n ∧ ∃ a cap, v = .slice a n cap ∧ n ≤ cap ∧ cap ≤ maxLen ∧ ∀ j, j < n → ∃ g, a = some ⟨g, 0, none⟩ ∧ base ≤ g ∧ g < w.heap.size ∧ w.cell? ⟨g, j, none⟩ = xs[j]? := by
  obtain ⟨hlen, hr⟩ := h
  refine ⟨by simpa using hlen, ?_⟩
  rcases hr with ⟨rfl, rfl⟩ | ⟨g, cap, cur, rfl, hb, hg, hcap, hmax, hcs, htake⟩
  · exact ⟨none, 0, rfl, Nat.le_refl _, by unfold maxLen; omega, fun j hj => absurd hj (by omega)⟩
  · refine ⟨_, cap, rfl, hcap, hmax, fun j hj => ⟨g, rfl, hb, (Array.getElem?_eq_some_iff.1 hg).1, ?_⟩⟩
    rw [cell_of_row w g j cur e (0, 0) hg, ← htake, List.getElem?_take_of_lt (by omega), ← Array.getElem?_toList]
/-- A row of the call's own reads as bytes. -/
theorem own_bytes {w : World} {base : Nat} {v : Value} {l : List Int} (h : w.ownsRow base 5 1 v l.length (bk l)) : ∃ a cap, v = .slice a l.length cap ∧ l.length ≤ cap ∧ cap ≤ maxLen ∧ Row .u8 w a l.length l := by
  obtain ⟨_, a, cap, rfl, h1, h2, hr⟩ := own_read1 h
  refine ⟨a, cap, rfl, h1, h2, rfl, fun i hi => ?_⟩
  obtain ⟨g, rfl, _, _, hc⟩ := hr i hi
  exact ⟨_, rfl, by rw [add0, hc, bk_at hi]⟩
theorem Row.quiet {k : IntKind} {w w' : World} {a : Option Addr} {n : Nat} {xs : List Int} (h : Row k w a n xs) (hk : Keeps (fun _ => False) w w') : Row k w' a n xs := by
  refine ⟨h.1, fun i hi => ?_⟩
  obtain ⟨ad, rfl, hc⟩ := h.2 i hi
  refine ⟨ad, rfl, (hk.cell (p := ad.add i) ?_ id).trans hc⟩
  rcases Nat.lt_or_ge (ad.add i).block w.heap.size with h' | h'
  · exact h'
  · simp [World.cell?, Array.getElem?_eq_none h'] at hc
theorem arange0 : Array.range 0 = #[] := by
  apply Array.eq_empty_of_size_eq_zero
  simp
theorem empty116 (w : World) : (Instr.buildSlice 116 0 #[]).run Try.prog w = .ok (.slice (some ⟨w.heap.size, 0, none⟩) 0 0) (w.alloc (.cells #[] 5)) := by
  obtain ⟨i0, h1, h2, h3, h4⟩ := info_parts infoU8
  simp [Instr.buildSlice, run_underlying Try.underlying116, sizeOf, typeInfo, zeroValue, h1, h2, h3, newRow, Instr.fill]
  rw [arange0, Array.map_empty]
theorem own_none (w : World) (e size : Nat) : (w.alloc (.cells #[] e)).ownsRow w.heap.size e size (.slice (some ⟨w.heap.size, 0, none⟩) 0 0) 0 [] :=
  World.ownsRow_made w #[] 0 (Nat.le_refl _) (by unfold maxLen; omega) (by simp)
theorem row_new {w : World} {ad : Addr} {n : Nat} {xs : List Int} (h : Row .u8 w (some ad) n xs) : ∀ j u, (bk xs)[j]? = some u → w.cell? (ad.add j) = some u := by
  intro j u hu
  have hj : j < xs.length := by
    rcases Nat.lt_or_ge j xs.length with h' | h'
    · exact h'
    · rw [List.getElem?_eq_none (by rw [bk_len]; exact h')] at hu; cases hu
  rw [bk_at hj] at hu
  obtain ⟨ad', e, hc⟩ := h.2 j (by rw [← h.1]; exact hj)
  injection e with e
  subst e
  rw [hc]
  exact hu
theorem grow_keeps {w w1 w' : World} {row : Option Nat} (hk : Keeps (fun _ => False) w w1) (hg : w1.grownBy w' row) (hr : ∀ g, row = some g → w.heap.size ≤ g) : Keeps (fun _ => False) w w' :=
  Keeps.mono (S := fun k => row = some k) ((hk.mono fun _ _ h => h.elim).trans (Keeps.of_grown hg)) fun k hk' h => absurd (hr k h) (Nat.not_le.2 hk')
/-- A row of bytes of the call's own. -/
def BytesP (l : List Int) (w : World) (e : Ending) (w' : World) : Prop := ∃ rv, e = .returned rv ∧ w'.ownsRow w.heap.size 5 1 rv l.length (bk l) ∧ Keeps (fun _ => False) w w'

set_option maxRecDepth 100000 in
set_option maxHeartbeats 1000000 in
theorem clone5 (a : Option Addr) (n cap : Nat) (xs : List Int) (w : World) (h : Row .u8 w a n xs) (hn : n ≤ 1048576) : Calls Try.prog 89 #[.slice a n cap] w (BytesP xs w) := by
  obtain ⟨i0, hi1, hz0, hz1, hz2⟩ := info_parts infoU8
  cases a with
  | none =>
    have h0 : n = 0 := by
      rcases Nat.eq_zero_or_pos n with e | e
      · exact e
      · obtain ⟨_, e2, _⟩ := h.2 0 e; cases e2
    subst h0
    have hx : xs = [] := List.eq_nil_of_length_eq_zero h.1
    have HX := Lib.hid hx
    clear h hx
    have hnil := Lib.run_eql_slice_nil (P := Try.prog) w 116 5 none 0 cap 0 0 Try.underlying116
    go_enter Try.func89, Try.ntmps89
    go_wp2
    go_ret
    rw [HX.out]
    exact ⟨_, rfl, World.ownsRow_nil _ _ _ _, Keeps.refl _ _⟩
  | some ad =>
    have hkw : Keeps (fun _ => False) w (w.alloc (.cells #[] 5)) := (Keeps.refl _ _).alloc _
    have HO := Lib.hid (own_none w 5 1)
    have HNW := Lib.hid (row_new (h.quiet hkw))
    have H1 : Hid (∀ u ∈ bk xs, u.oneCell' = true) := Lib.hid bk_one
    have HL : Hid ((bk xs).length = n * 1) := Lib.hid (by rw [bk_len, h.1]; omega)
    have hem := empty116 w
    have hnil := Lib.run_eql_slice_nil (P := Try.prog) w 116 5 (some ad) n cap 0 0 Try.underlying116
    have HKW := Lib.hid hkw
    have HXL := Lib.hid h.1
    clear h hkw
    go_enter Try.func89, Try.ntmps89
    go_wp2_with (at_builtin; refine wpList_append_own _ rfl _ _ 116 rfl w.heap.size 5 i0 (.int .u8 0) 1 1 Try.underlying116 hi1 hz0 hz1 hz2 rfl (by decide) _ _ _ rfl HO.out ad n cap (bk xs) rfl HL.out HNW.out H1.out (by unfold maxLen; omega) (by omega) (by simp) ?_; intro v' w1 hown hgrow _; have HOW := Lib.hid hown; have HGR := Lib.hid hgrow; clear hown hgrow)
    go_ret
    have ho := HOW.out
    simp only [Nat.zero_add, List.nil_append] at ho
    exact ⟨_, rfl, by rw [HXL.out]; exact ho, grow_keeps HKW.out HGR.out fun g hg => by injection hg with hg; rw [← hg]; exact Nat.le_refl _⟩
theorem pow256 : ∀ r : Nat, (2 : Int) ^ (8 * r) = 256 ^ r
  | 0 => rfl
  | r + 1 => by
    rw [Nat.mul_add, Int.pow_add, pow256 r, Int.pow_succ]
    rfl
theorem hi_take {x : Int} {n j : Nat} (h : j < n) : (hi x n).take (j + 1) = (hi x n).take j ++ [x / 256 ^ (n - 1 - j) % 256] := by
  rw [List.take_succ_eq_append_getElem (by rw [hi_len]; exact h)]
  congr 2
  have := hi_get n x j h
  rw [← this, List.getD_eq_getElem?_getD, List.getElem?_eq_getElem (by rw [hi_len]; exact h)]
  rfl
set_option maxRecDepth 100000 in
set_option maxHeartbeats 1000000 in
theorem put_any (a : Option Addr) (m cap : Nat) (xs : List Int) (x n : Nat) (w : World) (h : Row .u8 w a m xs) (hm : m ≤ 4096) (hx : x ≤ 18446744073709551615) (hn : n ≤ 8) : Calls Try.prog 87 #[.slice a m cap, .int .u64 (x : Nat), .int .i64 (n : Nat)] w (BytesP (xs ++ hi x n) w) := by
  obtain ⟨i0, hi1, hz0, hz1, hz2⟩ := info_parts infoU8
  have HC := Lib.hid (clone5 a m cap xs w h (by omega))
  have HXL := Lib.hid h.1
  clear h
  go_enter Try.func87, Try.ntmps87
  go_wp2_with fail
  refine HC.out.mono ?_
  rintro e w1 ⟨rv, rfl, ho, hk⟩
  have HO := Lib.hid ho
  have HK := Lib.hid hk
  have hs1 := hk.size
  clear ho hk
  go_wp2_with fail
  go_loopw [0, 7] (fun v i wr => ∃ q : Nat, q ≤ n ∧ i = .int .i64 ((q : Int) - 1) ∧ wr.ownsRow w.heap.size 5 1 v (m + (n - q)) (bk (xs ++ (hi x n).take (n - q))) ∧ Keeps (fun _ => False) w wr) (fun _ i _ => (intOf i + 1).toNat)
  case atStart => exact ⟨n, Nat.le_refl _, rfl, by simpa [HXL.out] using HO.out, HK.out⟩
  case round =>
    obtain ⟨q, hq, rfl, hown, hk⟩ := hrel
    have HK2 := Lib.hid hk
    have HOW := Lib.hid hown
    have hs2 := hk.size
    clear hown hk
    rcases q with _ | r
    · have e0 : ((0 : Nat) : Int) - 1 = -1 := rfl
      rw [e0]
      go_wp2_with fail
      go_ret
      have ho := HOW.out
      rw [Nat.sub_zero, List.take_of_length_le (by rw [hi_len]; exact Nat.le_refl _)] at ho
      exact ⟨_, rfl, by rw [List.length_append, hi_len, HXL.out]; exact ho, HK2.out⟩
    · have e0 : ((r + 1 : Nat) : Int) - 1 = (r : Int) := by omega
      rw [e0]
      have h8 : 8 * r < 64 := by omega
      have hnq : n - (r + 1) < n := by omega
      have HT : Hid ((hi (x : Int) n).take (n - r) = (hi (x : Int) n).take (n - (r + 1)) ++ [(x : Int) / 2 ^ (8 * r) % 256]) := Lib.hid (by
        have := hi_take (x := (x : Int)) hnq
        rw [show n - (r + 1) + 1 = n - r by omega, show n - 1 - (n - (r + 1)) = r by omega] at this
        rw [this, pow256])
      go_wp2_with (at_builtin; refine wpList_append_own _ rfl _ _ 116 rfl w.heap.size 5 i0 (.int .u8 0) 1 1 Try.underlying116 hi1 hz0 hz1 hz2 rfl (by decide) _ _ _ rfl (HOW.out.alloc _) ⟨wr.heap.size, 0, none⟩ 1 1 [.int .u8 ((x : Int) / 2 ^ (8 * r) % 256)] rfl rfl (cell_one_new _ _ _) (by simp [Value.oneCell']) (by unfold maxLen; omega) (by omega) (by simp; omega) ?_)
      intro v' w2 hown2 hg2 _
      have HO2 : Hid (w2.ownsRow w.heap.size 5 1 v' (m + (n - r)) (bk (xs ++ (hi (x : Int) n).take (n - r)))) := Lib.hid (by
        rw [HT.out, ← List.append_assoc, bk_snoc, show m + (n - r) = m + (n - (r + 1)) + 1 by omega]
        exact hown2)
      have HK3 := Lib.hid (grow_keeps (HK2.out.alloc _) hg2 fun g hg => (own_heap HOW.out hg).1)
      clear hown2 hg2
      go_wp2_with fail
      go_roundw
      case rel => exact ⟨r, by omega, by go_num, HO2.out, HK3.out⟩
      case measure => simp [intOf]
end Go.Proofs.Ytjiammhmeliogaa
