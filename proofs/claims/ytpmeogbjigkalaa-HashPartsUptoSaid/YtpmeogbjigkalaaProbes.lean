/- The probes of the program and of the reference are one and the same list of numbers, in new memory: for every hash, every number of places and of probes. -/
import Derived.Test.YtpmeogbjigkalaaFnv
import Derived.Laws.BitsAllLaws
namespace Go.Proofs.Ytpmeogbjigkalaa
open Go.RowKit

/-- The lowest bit set to 1. -/
def oddOf (x : Int) : Int := if x % 2 = 0 then x + 1 else x
/-- Probe i, before it is cut to the places. -/
def spot (h : Int) (i : Int) : Int := (h % 4294967296 + i * oddOf (h / 4294967296)) % 4294967296
def probe (h m i : Int) : Int := spot h i % m
def probes (h m : Int) (n : Nat) : List Int := (List.range n).map fun i : Nat => probe h m i

theorem probes_length (h m : Int) (n : Nat) : (probes h m n).length = n := by simp [probes]
theorem probes_succ (h m : Int) (n : Nat) : probes h m (n + 1) = probes h m n ++ [probe h m n] := by simp [probes, List.range_succ]
theorem oddOf_range (x : Int) (h0 : 0 ≤ x) (h1 : x ≤ 4294967295) : 0 ≤ oddOf x ∧ oddOf x ≤ 4294967295 := by unfold oddOf; split <;> omega
theorem spot_range (h i : Int) : 0 ≤ spot h i ∧ spot h i ≤ 4294967295 := by unfold spot; omega
theorem spot_succ (h : Int) (i : Int) : spot h (i + 1) = (spot h i + oddOf (h / 4294967296)) % 4294967296 := by
  unfold spot
  rw [Int.add_mul, Int.one_mul]
  omega
theorem or_one (x : Int) (h0 : 0 ≤ x) (h1 : x ≤ 4294967295) : bits .or .u32 x 1 = oddOf x := by
  obtain ⟨n, rfl⟩ := Int.eq_ofNat_of_zero_le h0
  have := u32_or_nat n 1 (by omega) (by omega)
  rw [show ((1 : Nat) : Int) = 1 from rfl] at this
  rw [this]
  have hn : n ||| 1 = if n % 2 = 0 then n + 1 else n := by
    have h2 : (n ||| 1) / 2 = n / 2 := by rw [Nat.or_div_two]; simp
    have h3 : (n ||| 1) % 2 = 1 := by rw [Nat.or_mod_two_pow (n := 1)]; rcases Nat.mod_two_eq_zero_or_one n with h | h <;> simp [h]
    split <;> omega
  rw [hn]
  unfold oddOf
  split <;> split <;> omega
theorem probe_range (h m i : Int) (hm : 1 ≤ m) : 0 ≤ probe h m i ∧ probe h m i < m := by
  unfold probe
  have := spot_range h i
  exact ⟨Int.emod_nonneg _ (by omega), Int.emod_lt_of_pos _ (by omega)⟩

theorem info3 : (Try.prog.info? 3).map (fun i => (i.zero, i.size, i.bytes)) = some (some (.int .i64 0), 1, 8) := by kernel_rfl

theorem probe_form (h m i o : Int) (hh0 : 0 ≤ h) (hh1 : h ≤ 18446744073709551615) (hm0 : 1 ≤ m) (hm1 : m ≤ 16777216) (hi0 : 0 ≤ i) (hi1 : i ≤ 16) (ho : o = oddOf (h / 4294967296)) :
    wrap64 (((IntKind.u64.wrap (h % 4294967296 + IntKind.u64.wrap (i * o))).tmod 4294967296).tmod m) = probe h m i := by
  subst ho
  have hr := oddOf_range (h / 4294967296) (by omega) (by omega)
  have hp := probe_range h m i hm0
  have hs := spot_range h i
  unfold probe at hp ⊢
  have h1 : 0 ≤ i * oddOf (h / 4294967296) := Int.mul_nonneg hi0 hr.1
  have h2 : i * oddOf (h / 4294967296) ≤ 16 * 4294967295 := Int.mul_le_mul hi1 hr.2 hr.1 (by omega)
  have e1 : IntKind.u64.wrap (i * oddOf (h / 4294967296)) = i * oddOf (h / 4294967296) := by rw [IntKind.wrap_u64]; omega
  have e2 : IntKind.u64.wrap (h % 4294967296 + i * oddOf (h / 4294967296)) = h % 4294967296 + i * oddOf (h / 4294967296) := by rw [IntKind.wrap_u64]; omega
  have e3 : (h % 4294967296 + i * oddOf (h / 4294967296)).tmod 4294967296 = spot h i := by rw [Int.tmod_eq_emod_of_nonneg (by omega)]; rfl
  rw [e1, e2, e3, Int.tmod_eq_emod_of_nonneg hs.1]
  exact IntWalk.wrap64_in _ ⟨by omega, by omega⟩

theorem probe_any (h m i : Int) (w : World) (hh0 : 0 ≤ h) (hh1 : h ≤ 18446744073709551615) (hm0 : 1 ≤ m) (hm1 : m ≤ 16777216) (hi0 : 0 ≤ i) (hi1 : i ≤ 16) :
    Calls Try.prog 18 #[.int .u64 h, .int .i64 m, .int .i64 i] w fun e w' => e = .returned (.int .i64 (probe h m i)) ∧ w = w' := by
  by_cases ho : h / 4294967296 % 2 = 0
  · go_enter Try.func18, Try.ntmps18
    go_wp2
    go_ret
    exact ⟨ret_int (probe_form h m i _ hh0 hh1 hm0 hm1 hi0 hi1 (by unfold oddOf; rw [if_pos ho])), rfl⟩
  · go_enter Try.func18, Try.ntmps18
    go_wp2
    go_ret
    exact ⟨ret_int (probe_form h m i _ hh0 hh1 hm0 hm1 hi0 hi1 (by unfold oddOf; rw [if_neg ho])), rfl⟩

/-- May there be probes? -/
def mayN (m n : Int) : Prop := 1 ≤ n ∧ n ≤ 16 ∧ 1 ≤ m ∧ m ≤ 16777216

/-- hash.Probes, where nothing may be asked. -/
theorem probes_no (h m n : Int) (w : World) (hn : ¬ mayN m n) :
    Calls Try.prog 10 #[.int .u64 h, .int .i64 m, .int .i64 n] w fun e w' => e = .returned (.slice none 0 0) ∧ w = w' := by
  have hc : n < 1 ∨ (1 ≤ n ∧ 16 < n) ∨ (1 ≤ n ∧ n ≤ 16 ∧ m < 1) ∨ (1 ≤ n ∧ n ≤ 16 ∧ 1 ≤ m ∧ 16777216 < m) := by unfold mayN at hn; omega
  clear hn
  rcases hc with h1 | ⟨h1, h2⟩ | ⟨h1, h2, h3⟩ | ⟨h1, h2, h3, h4⟩ <;>
  · go_enter Try.func10, Try.ntmps10
    go_wp2
    go_ret
    exact ⟨rfl, rfl⟩

set_option maxHeartbeats 400000 in
theorem probes_any (h m : Int) (n : Nat) (w : World) (hh0 : 0 ≤ h) (hh1 : h ≤ 18446744073709551615) (h1 : 1 ≤ n) (h2 : n ≤ 16) (h3 : 1 ≤ m) (h4 : m ≤ 16777216) :
    Calls Try.prog 10 #[.int .u64 h, .int .i64 m, .int .i64 n] w fun e w' => ∃ v, e = .returned v ∧ w'.ownsRow w.heap.size 3 1 v n ((probes h m n).map (Value.int .i64)) ∧ Below w.heap.size w w' := by
  obtain ⟨i0, hi, hz0, hz1, hz2⟩ := info_parts info3
  have hor := or_one (h / 4294967296) (by omega) (by omega)
  obtain ⟨o, ho⟩ : ∃ o, o = oddOf (h / 4294967296) := ⟨_, rfl⟩
  have hor2 := oddOf_range (h / 4294967296) (by omega) (by omega)
  rw [← ho] at hor hor2
  obtain ⟨ho0, ho1⟩ := hor2
  have HO := Lib.hid ho
  clear ho
  go_enter Try.func10, Try.ntmps10
  go_wp2
  go_loopw [7, 9, 31] (fun a l i wr => ∃ k : Nat, k ≤ n ∧ i = .int .i64 k ∧ a = .int .u32 (spot h k) ∧ wr.ownsRow w.heap.size 3 1 l k ((probes h m k).map (Value.int .i64)) ∧ Below w.heap.size w wr)
    (fun _ _ i _ => n - (intOf i).toNat)
  case atStart => exact ⟨0, by omega, rfl, by unfold spot; simp, World.ownsRow_nil _ _ _ _, Below.refl _ _⟩
  case round =>
    obtain ⟨k, hk, rfl, rfl, hown, hbw⟩ := hrel
    have hs := spot_range h k
    obtain ⟨hs0, hs1⟩ := hs
    have hpm := Lib.hid (show spot h k % m = probe h m k from rfl)
    have hss := Lib.hid (spot_succ h k)
    obtain ⟨s, hsd⟩ : ∃ s, s = spot h k := ⟨_, rfl⟩
    rw [← hsd] at hs0 hs1 hpm hss ⊢
    clear hsd
    have hms := Int.emod_nonneg s (show m ≠ 0 by omega)
    have hmt := Int.emod_lt_of_pos s (show 0 < m by omega)
    by_cases hlt : k < n
    · go_wp2_with (at_builtin; refine wpList_append_own _ rfl _ _ 25 rfl w.heap.size 3 i0 (.int .i64 0) 1 8 Try.underlying25 hi hz0 hz1 hz2 rfl (by decide) _ _ _ rfl (hown.alloc _) ⟨wr.heap.size, 0, none⟩ 1 1 [.int .i64 (s % m)] rfl rfl ?c1 ?c2 ?c3 ?c4 ?c5 ?_)
      case c1 =>
        intro j u hj
        match j, hj with
        | 0, hj => simp at hj; subst hj; simp [Addr.add]
      case c2 => intro u hu; simp at hu; subst hu; rfl
      case c3 => unfold maxLen; omega
      case c4 => omega
      case c5 => have := hbw.size; simp; omega
      intro v' w1 hown' hgrow _
      have hb1 : Below w.heap.size w w1 := (hbw.alloc hbw.size _).grown hgrow (by have := hbw.size; simp; omega) (fun g hg => (hown.lt g hg).1)
      have hown2 : w1.ownsRow w.heap.size 3 1 v' (k + 1) ((probes h m (k + 1)).map (Value.int .i64)) := by
        rw [probes_succ, List.map_append, ← hpm.out]; exact hown'
      clear hown' hgrow hown hbw
      go_wp2
      go_roundw
      case rel => exact ⟨k + 1, by omega, by go_num, val_int (by rw [show ((k + 1 : Nat) : Int) = (k : Int) + 1 from rfl, hss.out, ← HO.out]; try rfl), hown2, hb1⟩
      case measure => simp [intOf]; omega
    · obtain rfl : k = n := by omega
      go_wp2
      go_ret
      exact ⟨_, rfl, hown, hbw⟩

/-- icehouseref03.Probes, where nothing may be asked. -/
theorem ref_probes_no (h m n : Int) (w : World) (hn : ¬ mayN m n) :
    Calls Try.prog 11 #[.int .u64 h, .int .i64 m, .int .i64 n] w fun e w' => e = .returned (.slice none 0 0) ∧ w = w' := by
  have hc : 16 < n ∨ (n ≤ 16 ∧ m < 1) ∨ (n ≤ 16 ∧ 1 ≤ m ∧ 16777216 < m) ∨ (n < 1 ∧ 1 ≤ m ∧ m ≤ 16777216) := by unfold mayN at hn; omega
  clear hn
  rcases hc with h1 | ⟨h1, h2⟩ | ⟨h1, h2, h3⟩ | ⟨h1, h2, h3⟩
  · go_enter Try.func11, Try.ntmps11
    go_wp2
    go_ret
    exact ⟨rfl, rfl⟩
  · go_enter Try.func11, Try.ntmps11
    go_wp2
    go_ret
    exact ⟨rfl, rfl⟩
  · go_enter Try.func11, Try.ntmps11
    go_wp2
    go_ret
    exact ⟨rfl, rfl⟩
  · have h4 : n ≤ 16 := by omega
    go_enter Try.func11, Try.ntmps11
    go_wp2
    refine wp_loop_rounds 1 ?_
    rw [rounds_succ]
    go_wp2
    go_ret
    exact ⟨rfl, rfl⟩

set_option maxHeartbeats 400000 in
theorem ref_probes (h m : Int) (n : Nat) (w : World) (hh0 : 0 ≤ h) (hh1 : h ≤ 18446744073709551615) (h1 : 1 ≤ n) (h2 : n ≤ 16) (h3 : 1 ≤ m) (h4 : m ≤ 16777216) :
    Calls Try.prog 11 #[.int .u64 h, .int .i64 m, .int .i64 n] w fun e w' => ∃ v, e = .returned v ∧ w'.ownsRow w.heap.size 3 1 v n ((probes h m n).map (Value.int .i64)) ∧ Below w.heap.size w w' := by
  obtain ⟨i0, hi, hz0, hz1, hz2⟩ := info_parts info3
  go_enter Try.func11, Try.ntmps11
  go_wp2
  go_loopw [7, 8] (fun l i wr => ∃ k : Nat, k ≤ n ∧ i = .int .i64 k ∧ wr.ownsRow w.heap.size 3 1 l k ((probes h m k).map (Value.int .i64)) ∧ Below w.heap.size w wr)
    (fun _ i _ => n - (intOf i).toNat)
  case atStart => exact ⟨0, by omega, rfl, World.ownsRow_nil _ _ _ _, Below.refl _ _⟩
  case round =>
    obtain ⟨k, hk, rfl, hown, hbw⟩ := hrel
    by_cases hlt : k < n
    · go_wp2_with (first | (go_at_call 18; refine (probe_any _ _ _ _ hh0 hh1 h3 h4 (by omega) (by omega)).mono ?_; rintro e w' ⟨rfl, rfl⟩) | (at_builtin; refine wpList_append_own _ rfl _ _ 25 rfl w.heap.size 3 i0 (.int .i64 0) 1 8 Try.underlying25 hi hz0 hz1 hz2 rfl (by decide) _ _ _ rfl (hown.alloc _) ⟨wr.heap.size, 0, none⟩ 1 1 [.int .i64 (probe h m k)] rfl rfl ?c1 ?c2 ?c3 ?c4 ?c5 ?_))
      case c1 =>
        intro j u hj
        match j, hj with
        | 0, hj => simp at hj; subst hj; simp [Addr.add]
      case c2 => intro u hu; simp at hu; subst hu; rfl
      case c3 => unfold maxLen; omega
      case c4 => omega
      case c5 => have := hbw.size; simp; omega
      intro v' w1 hown' hgrow _
      have hb1 : Below w.heap.size w w1 := (hbw.alloc hbw.size _).grown hgrow (by have := hbw.size; simp; omega) (fun g hg => (hown.lt g hg).1)
      have hown2 : w1.ownsRow w.heap.size 3 1 v' (k + 1) ((probes h m (k + 1)).map (Value.int .i64)) := by
        rw [probes_succ, List.map_append]; exact hown'
      clear hown' hgrow hown hbw
      go_wp2
      go_roundw
      case rel => exact ⟨k + 1, by omega, by go_num, hown2, hb1⟩
      case measure => simp [intOf]; omega
    · obtain rfl : k = n := by omega
      go_wp2
      go_ret
      exact ⟨_, rfl, hown, hbw⟩

end Go.Proofs.Ytpmeogbjigkalaa
