/- The statements' own helpers: sameInts of two equal rows is true; wakes is true. -/
import Derived.Test.YtpmeogbjigkalaaProbes
import Derived.Deep.QuietTactic
import Derived.BigQuiet
namespace Go.Proofs.Ytpmeogbjigkalaa
open Go.RowKit
set_option linter.unusedVariables false

theorem row_of_own {w : World} {base c n : Nat} {a : Option Addr} {xs : List Int} (h : w.ownsRow base 3 1 (.slice a n c) n (xs.map (Value.int .i64))) : Row .i64 w a n xs := by
  have hl : xs.length = n := by simpa using h.1
  refine ⟨hl, fun i hi => ?_⟩
  rcases h.2 with ⟨hv, rfl⟩ | ⟨g, cap, cur, hv, _, hg, _⟩
  · omega
  · injection hv with ha _ _
    subst ha
    refine ⟨_, rfl, h.cells (g := g) rfl i _ ?_⟩
    rw [List.getElem?_map, List.getElem?_eq_getElem (by omega)]
    simp [show i < xs.length by omega]

theorem Row.drewN {k : IntKind} {w : World} {a : Option Addr} {n : Nat} {xs : List Int} (h : Row k w a n xs) (q : Nat) : Row k (w.drewN q) a n xs := h

set_option maxHeartbeats 400000 in
theorem same_yes (a b : Option Addr) (n c d : Nat) (xs : List Int) (w : World) (hA : Row .i64 w a n xs) (hB : Row .i64 w b n xs) (hn : n ≤ 65536) :
    Calls Try.prog 9 #[.slice a n c, .slice b n d] w fun e w' => e = .returned (.bool true) ∧ Below w.heap.size w w' := by
  have HA := Lib.hid hA
  have HB := Lib.hid hB
  clear hA hB
  go_enter Try.func9, Try.ntmps9
  go_wp2
  go_loopw [13] (fun i wr => ∃ k q : Nat, k ≤ n ∧ i = .int .i64 k ∧ wr = w.drewN q) (fun i _ => n - (intOf i).toNat)
  case atStart => exact ⟨0, 0, Nat.zero_le _, rfl, rfl⟩
  case round =>
    obtain ⟨k, q, hk, rfl, rfl⟩ := hrel
    by_cases hlt : k < n
    · obtain ⟨ad, rfl, ha⟩ := (HA.out.drewN q).at_ hlt
      obtain ⟨bd, rfl, hb⟩ := (HB.out.drewN q).at_ hlt
      generalize hx : xs.getD k 0 = x at *
      clear hx
      generalize hw0 : w.drewN q = w0 at *
      have HW := Lib.hid hw0
      clear hw0
      go_wp2
      go_quiet (fail)
      rename_i nq
      go_wp2
      go_roundw
      case rel => exact ⟨k + 1, q + nq, by omega, by go_num, by rw [← HW.out, World.drewN_drewN]⟩
      case measure => simp [intOf]; omega
    · go_wp2
      go_ret
      exact ⟨rfl, ⟨rfl, rfl, rfl, Nat.le_refl _, fun _ _ => rfl⟩⟩

theorem fnv_a : fnv fnv0 [97] = 12638187200555641996 := by decide +kernel
theorem fnv_a' : fnv fnv0 ((⟨#[97]⟩ : ByteArray).data.toList.map fun b => (b.toNat : Int)) = 12638187200555641996 := by decide +kernel
theorem finger_a : fingerOf (fnv fnv0 ((⟨#[97]⟩ : ByteArray).data.toList.map fun b => (b.toNat : Int))) = 2942557260 := by decide +kernel

theorem row_new (w : World) (l : List Int) (fr : Nat × Nat) : Row .u8 (w.alloc (.cells (l.map (Value.int .u8)).toArray 5 fr)) (some ⟨w.heap.size, 0, none⟩) l.length l := by
  refine ⟨rfl, fun i hi => ⟨_, rfl, ?_⟩⟩
  have e : (⟨w.heap.size, 0, none⟩ : Addr).add i = ⟨w.heap.size, i, none⟩ := by unfold Addr.add; split <;> simp_all
  rw [e, cell_of_row (w.alloc (.cells (l.map (Value.int .u8)).toArray 5 fr)) w.heap.size i _ 5 fr (heap_alloc_new w _)]
  simp [hi]

/-- wakes answers true. -/
theorem wakes_yes (w : World) : Calls Try.prog 8 #[] w fun e w' => e = .returned (.bool true) ∧ Below w.heap.size w w' := by
  have kc := fun (w : World) (C : Array Value) (n c : Nat) => Lib.run_convert_bytes_const (P := Try.prog) w 28 5 C n c Try.underlying28 Try.underlying5
  go_enter Try.func8, Try.ntmps8
  go_wp2_with (first
    | (go_at_call 12; refine (hash_any _ _ _ [97] _ (row_new w [97] (1, 2)) (by simp)).mono ?_; rw [fnv_a]; rintro e w' ⟨rfl, rfl⟩)
    | (go_at_call 16; refine (finger_any _ _ (by decide)).mono ?_; rw [finger_a]; rintro e w' ⟨rfl, rfl⟩)
    | (go_at_call 10; refine (probes_any 0 10 3 _ (by omega) (by omega) (by omega) (by omega) (by omega) (by omega)).mono ?_; rintro e w' ⟨v, rfl, hown, hb⟩; rcases hown.2 with ⟨_, h0⟩ | ⟨g, cap, cur, rfl, _⟩; omega))
  go_ret
  exact ⟨rfl, ((Below.refl _ _).alloc (Nat.le_refl _) _).trans (hb.mono (by simp))⟩

theorem wf_u64 {x : Int} (h : (Lit.int .u64 x).wf = true) : 0 ≤ x ∧ x ≤ 18446744073709551615 := by
  simpa [Lit.wf, IntKind.min, IntKind.max, IntKind.signed, IntKind.bits] using h

theorem own_form {w : World} {base n : Nat} {v : Value} {xs : List Int} (h : w.ownsRow base 3 1 v n (xs.map (Value.int .i64))) : ∃ a c, v = .slice a n c ∧ n ≤ c ∧ Row .i64 w a n xs := by
  have h2 := h.2
  rcases h2 with ⟨rfl, rfl⟩ | ⟨g, cap, cur, rfl, _, _, hn, _⟩
  · exact ⟨_, _, rfl, Nat.le_refl _, row_of_own h⟩
  · exact ⟨_, _, rfl, hn, row_of_own h⟩

theorem Row.lt {k : IntKind} {w : World} {a : Option Addr} {n : Nat} {xs : List Int} (h : Row k w a n xs) {i : Nat} (hi : i < n) {ad : Addr} (ha : a = some ad) : ad.block < w.heap.size := by
  obtain ⟨ad', h1, h2⟩ := h.2 i hi
  obtain rfl : ad = ad' := by rw [ha] at h1; injection h1
  have hb : (ad.add i).block = ad.block := by unfold Addr.add; split <;> rfl
  rcases Nat.lt_or_ge ad.block w.heap.size with h' | h'
  · exact h'
  · simp [World.cell?, hb, Array.getElem?_eq_none h'] at h2

theorem Row.below {k : IntKind} {w w' : World} {a : Option Addr} {n : Nat} {xs : List Int} (h : Row k w a n xs) (hb : Below w.heap.size w w') : Row k w' a n xs := by
  refine ⟨h.1, fun i hi => ?_⟩
  obtain ⟨ad, rfl, hc⟩ := h.2 i hi
  refine ⟨ad, rfl, ?_⟩
  have hbl : (ad.add i).block = ad.block := by unfold Addr.add; split <;> rfl
  rw [hb.cell (by rw [hbl]; exact h.lt hi rfl), hc]

/-- Two rows of some length that read as the same numbers: sameInts, in one contract. -/
theorem same_own {w : World} {base base' n : Nat} {u v : Value} {xs : List Int} (h : w.ownsRow base 3 1 u n (xs.map (Value.int .i64))) (h' : w.ownsRow base' 3 1 v n (xs.map (Value.int .i64))) (hn : n ≤ 65536) :
    Calls Try.prog 9 #[u, v] w fun e w' => e = .returned (.bool true) ∧ Below w.heap.size w w' := by
  obtain ⟨a, c, rfl, _, hA⟩ := own_form h
  obtain ⟨b, d, rfl, _, hB⟩ := own_form h'
  exact same_yes a b n c d xs w hA hB hn

theorem own_below {w w' : World} {base size : Nat} {e : TypeId} {v : Value} {n : Nat} {xs : List Value} (h : w.ownsRow base e size v n xs) (hb : Below w.heap.size w w') : w'.ownsRow base e size v n xs :=
  h.kept (row := none) ⟨hb.os, hb.tape, hb.output, hb.size, fun k hk _ => hb.block k hk⟩ (by cases hv : v.ownBlock <;> simp)

theorem probes_law (h m n : Int) (w : World) (wh : (Lit.int .u64 h).wf = true) (wm : (Lit.int .i64 m).wf = true) (wn : (Lit.int .i64 n).wf = true) :
    Calls Try.prog 3 #[.int .u64 h, .int .i64 m, .int .i64 n] w fun e w' => e = .returned (.bool true) ∧ Below w.heap.size w w' := by
  obtain ⟨hh0, hh1⟩ := wf_u64 wh
  clear wh wm wn
  by_cases hm : mayN m n
  · obtain ⟨h1, h2, h3, h4⟩ := hm
    obtain ⟨n, rfl⟩ := Int.eq_ofNat_of_zero_le (show 0 ≤ n by omega)
    go_enter Try.func3, Try.ntmps3
    go_wp2_with (go_at_call 8; refine (wakes_yes _).mono ?_; rintro e w1 ⟨rfl, hb1⟩)
    refine (probes_any h m n w1 hh0 hh1 (by omega) (by omega) h3 h4).mono ?_
    rintro e w2 ⟨v, rfl, hown, hb2⟩
    go_wp2_with fail
    refine (ref_probes h m n w2 hh0 hh1 (by omega) (by omega) h3 h4).mono ?_
    rintro e w3 ⟨u, rfl, hown3, hb3⟩
    go_wp2_with fail
    refine (same_own (own_below hown hb3) hown3 (by omega)).mono ?_
    rintro e w4 ⟨rfl, hb4⟩
    go_wp2_with fail
    go_ret
    exact ⟨rfl, hb1.trans ((hb2.mono hb1.size).trans ((hb3.mono (Nat.le_trans hb1.size hb2.size)).trans (hb4.mono (Nat.le_trans (Nat.le_trans hb1.size hb2.size) hb3.size))))⟩
  · go_enter Try.func3, Try.ntmps3
    go_wp2_with (go_at_call 8; refine (wakes_yes _).mono ?_; rintro e w1 ⟨rfl, hb1⟩)
    refine (probes_no h m n _ hm).mono ?_
    rintro e w2 ⟨rfl, rfl⟩
    go_wp2_with fail
    refine (ref_probes_no h m n _ hm).mono ?_
    rintro e w2 ⟨rfl, rfl⟩
    go_wp2_with fail
    refine (same_yes none none 0 0 0 [] w1 ⟨rfl, fun i hi => absurd hi (by omega)⟩ ⟨rfl, fun i hi => absurd hi (by omega)⟩ (by omega)).mono ?_
    rintro e w4 ⟨rfl, hb4⟩
    go_wp2_with fail
    go_ret
    exact ⟨rfl, hb1.trans (hb4.mono hb1.size)⟩

theorem bytes_law (a : Option Addr) (l c : Nat) (zs : List Int) (h : Int) (s : ByteArray) (w : World) (hR : Row .u8 w a l zs) (hl : l ≤ 140737488351232) (hs : s.size ≤ 140737488351232) :
    Calls Try.prog 6 #[.slice a l c, .int .u64 h, .string s] w fun e w' => e = .returned (.bool true) ∧ Below w.heap.size w w' := by
  have HR := Lib.hid hR
  clear hR
  go_enter Try.func6, Try.ntmps6
  go_wp2_with (go_at_call 8; refine (wakes_yes _).mono ?_; rintro e w1 ⟨rfl, hb1⟩)
  have HR1 := Lib.hid (HR.out.below hb1)
  refine (hash_any a l c zs w1 HR1.out (by omega)).mono ?_
  rintro e w2 ⟨rfl, rfl⟩
  go_wp2_with fail
  refine (ref_hash a l c zs w1 HR1.out (by omega)).mono ?_
  rintro e w2 ⟨rfl, rfl⟩
  go_wp2_with fail
  refine (hash_more h a l c zs w1 HR1.out (by omega)).mono ?_
  rintro e w2 ⟨rfl, rfl⟩
  go_wp2_with fail
  refine (ref_more h a l c zs w1 HR1.out (by omega)).mono ?_
  rintro e w2 ⟨rfl, rfl⟩
  go_wp2_with fail
  refine (finger_any s w1 (by unfold maxLen; omega)).mono ?_
  rintro e w2 ⟨rfl, rfl⟩
  go_wp2_with fail
  refine (ref_finger s w1 (by omega)).mono ?_
  rintro e w2 ⟨rfl, hb2⟩
  go_wp2_with fail
  go_ret
  exact ⟨rfl, hb1.trans (hb2.mono hb1.size)⟩


end Go.Proofs.Ytpmeogbjigkalaa
