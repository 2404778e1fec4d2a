/- HashParts: a hash goes on where it stood, for arguments of bounded size. -/
import Derived.Test.YtpmeogbjigkalaaMem
import Derived.Test.YtpmeogbjigkalaaLaws
namespace Go.Proofs.Ytpmeogbjigkalaa
open Go.RowKit
set_option linter.unusedVariables false

theorem info5 : (Try.prog.info? 5).map (fun i => (i.zero, i.size, i.bytes)) = some (some (.int .u8 0), 1, 1) := by kernel_rfl
theorem add0 (g i : Nat) : (⟨g, 0, none⟩ : Addr).add i = ⟨g, i, none⟩ := by unfold Addr.add; split <;> simp_all

theorem row_of_own5 {w : World} {base c n : Nat} {a : Option Addr} {xs : List Int} (h : w.ownsRow base 5 1 (.slice a n c) n (xs.map (Value.int .u8))) : Row .u8 w a n xs := by
  have hl : xs.length = n := by simpa using h.1
  refine ⟨hl, fun i hi => ?_⟩
  rcases h.2 with ⟨hv, rfl⟩ | ⟨g, cap, cur, hv, _, hg, _⟩
  · omega
  · injection hv with ha _ _
    subst ha
    refine ⟨_, rfl, h.cells (g := g) rfl i _ ?_⟩
    rw [List.getElem?_map, List.getElem?_eq_getElem (by omega)]
    simp [show i < xs.length by omega]

theorem own_form5 {w : World} {base n : Nat} {v : Value} {xs : List Int} (h : w.ownsRow base 5 1 v n (xs.map (Value.int .u8))) : ∃ a c, v = .slice a n c ∧ (a = none → c = 0) ∧ Row .u8 w a n xs := by
  rcases h.2 with ⟨rfl, rfl⟩ | ⟨g, cap, cur, rfl, _, _, hn, _⟩
  · exact ⟨_, _, rfl, fun _ => rfl, row_of_own5 h⟩
  · exact ⟨_, _, rfl, fun h => by (cases h), row_of_own5 h⟩

theorem conv_row {w : World} {a : Option Addr} {n c : Nat} {xs : List Int} (h : Row .u8 w a n xs) : (convert 28 9 (.slice a n c)).run Try.prog w = .ok (.string (strOfNums xs)) w := by
  rcases a with _ | ad
  · obtain ⟨rfl, rfl⟩ := row_zero h
    rw [run_convert_bytes_nil w 28 5 Try.underlying28 Try.underlying5 0 c 9 Try.underlying9]
    rfl
  · have hl : (loadCells ad n).run Try.prog w = .ok (xs.map (Value.int .u8)).toArray w := by
      have := run_loadCells_list (P := Try.prog) w ad (xs.map (Value.int .u8)) (row_cells h)
      simpa [h.1] using this
    rw [run_convert_bytes_string w 28 9 5 _ n c Try.underlying28 Try.underlying5 Try.underlying9, run_bytesToString w _ n c xs hl, foldl_push_bytes]
    simp [strOfNums, ByteArray.empty, ByteArray.emptyWithCapacity]
    rfl

theorem wf_u8 {x : Int} (h : (Lit.int .u8 x).wf = true) : 0 ≤ x ∧ x ≤ 255 := by
  simpa [Lit.wf, IntKind.min, IntKind.max, IntKind.signed, IntKind.bits] using h

theorem str_back (xs : List Int) (h : ∀ x ∈ xs, (Lit.int .u8 x).wf = true) : ((strOfNums xs).data.toList.map fun b => (b.toNat : Int)) = xs := by
  rw [strOfNums_data, List.map_map]
  conv => rhs; rw [← List.map_id xs]
  refine List.map_congr_left fun x hx => ?_
  have := wf_u8 (h x hx)
  simp
  omega

set_option maxHeartbeats 400000 in
theorem parts_law (a b : Option Addr) (l c m d : Nat) (xs ys : List Int) (w : World) (hA : Row .u8 w a l xs) (hB : Row .u8 w b m ys) (hl : l ≤ 1048576) (hm : m ≤ 1048576)
    (ha : a = none → c = 0) (hb : b = none → d = 0) (hxs : ∀ x ∈ xs, (Lit.int .u8 x).wf = true) :
    Calls Try.prog 7 #[.slice a l c, .slice b m d] w fun e w' => e = .returned (.bool true) ∧ Below w.heap.size w w' := by
  have HA := Lib.hid hA
  have HB := Lib.hid hB
  have HX := Lib.hid hxs
  have Ha := Lib.hid ha
  have Hb := Lib.hid hb
  clear hA hB hxs ha hb
  obtain ⟨i0, hi, hz0, hz1, hz2⟩ := info_parts info5
  go_enter Try.func7, Try.ntmps7
  go_wp2_with (first
    | (go_at_call 8; refine (wakes_yes _).mono ?_; rintro e w1 ⟨rfl, hb1⟩)
    | (at_builtin; refine wpList_append_row _ rfl (.tmp 8) (.tmp 9) 28 rfl w1.heap.size 5 i0 .u8 1 Try.underlying28 hi hz0 hz1 hz2 _ 0 [] rfl ?own a l c xs rfl ?row Ha.out ?c3 ?c4 ?c5 ?_))
  case own => exact World.ownsRow_lit w1 #[] 0 (Nat.le_refl _) (by unfold maxLen; omega) (by simp)
  case row => exact (HA.out.below hb1).below ((Below.refl _ w1).alloc (Nat.le_refl _) _)
  case c3 => unfold maxLen; omega
  case c4 => omega
  case c5 => simp
  intro v2 w2 hown2 hgrow2
  have hb2 : Below w1.heap.size w1 w2 := ((Below.refl _ w1).alloc (Nat.le_refl _) _).grown hgrow2 (by simp) (fun g hg => by cases hg; exact Nat.le_refl _)
  clear hgrow2
  have hrow2 := (HB.out.below hb1).below hb2
  have HR2 := Lib.hid hrow2
  clear hrow2
  go_wp2_with (at_builtin; refine wpList_append_row _ rfl (.tmp 10) (.tmp 11) 28 rfl w1.heap.size 5 i0 .u8 1 Try.underlying28 hi hz0 hz1 hz2 _ l _ rfl hown2 b m d ys rfl HR2.out Hb.out ?d3 ?d4 ?d5 ?_)
  case d3 => unfold maxLen; omega
  case d4 => omega
  case d5 => exact hb2.size
  intro v3 w3 hown3 hgrow3
  have hb3 : Below w1.heap.size w1 w3 := hb2.grown hgrow3 hb2.size (fun g hg => (hown2.lt g hg).1)
  rw [← List.map_append] at hown3
  obtain ⟨e3, c3, rfl, hc3, hR3⟩ := own_form5 hown3
  have H3 := Lib.hid hR3
  have Hc3 := Lib.hid hc3
  have HA3 := Lib.hid ((HA.out.below hb1).below hb3)
  have HB3 := Lib.hid ((HB.out.below hb1).below hb3)
  have hbw := hb1.trans (hb3.mono hb1.size)
  clear hgrow3 hR3 hown2 hown3 hb3 hb2 HR2 hc3
  go_wp2_with fail
  refine (hash_any a l c xs _ HA3.out (by omega)).mono ?_
  rintro e w4 ⟨rfl, rfl⟩
  go_wp2_with fail
  refine (hash_more _ b m d ys _ HB3.out (by omega)).mono ?_
  rintro e w4 ⟨rfl, rfl⟩
  go_wp2_with fail
  refine (hash_any e3 (l + m) c3 (xs ++ ys) _ H3.out (by omega)).mono ?_
  rw [fnv_append]
  rintro e w4 ⟨rfl, rfl⟩
  go_wp2_with fail
  refine (hash_any e3 (l + m) c3 (xs ++ ys) _ H3.out (by omega)).mono ?_
  rw [fnv_append]
  rintro e w4 ⟨rfl, rfl⟩
  have hrow4 : Row .u8 (w3.alloc (.cells #[] 5)) e3 (l + m) (xs ++ ys) := H3.out.below ((Below.refl _ w3).alloc (Nat.le_refl _) _)
  have HR4 := Lib.hid hrow4
  clear hrow4
  go_wp2_with (at_builtin; refine wpList_append_row _ rfl (.tmp 23) (.tmp 24) 28 rfl w3.heap.size 5 i0 .u8 1 Try.underlying28 hi hz0 hz1 hz2 _ 0 [] rfl ?own4 e3 (l + m) c3 (xs ++ ys) rfl HR4.out Hc3.out ?f3 ?f4 ?f5 ?_)
  case own4 => exact World.ownsRow_lit w3 #[] 0 (Nat.le_refl _) (by unfold maxLen; omega) (by simp)
  case f3 => unfold maxLen; omega
  case f4 => omega
  case f5 => simp
  intro v5 w5 hown5 hgrow5
  have hb5 : Below w3.heap.size w3 w5 := ((Below.refl _ w3).alloc (Nat.le_refl _) _).grown hgrow5 (by simp) (fun g hg => by cases hg; exact Nat.le_refl _)
  obtain ⟨e5, c5, rfl, _, hR5⟩ := own_form5 (n := l + m) (xs := xs ++ ys) (by simpa using hown5)
  have H5 := Lib.hid hR5
  clear hR5 hgrow5 hown5 HR4
  go_wp2_with fail
  refine (hash_any e5 (l + m) c5 (xs ++ ys) _ H5.out (by omega)).mono ?_
  rw [fnv_append]
  rintro e w6 ⟨rfl, rfl⟩
  have HA5 := Lib.hid (HA3.out.below hb5)
  have hconv := conv_row (c := c) HA5.out
  go_wp2_with fail
  refine (finger_any (strOfNums xs) _ (by rw [strOfNums_size, HA5.out.1]; unfold maxLen; omega)).mono ?_
  rw [str_back xs HX.out]
  rintro e w6 ⟨rfl, rfl⟩
  have hrange := fnv_range xs
  obtain ⟨hr0, hr1⟩ := hrange
  go_wp2_with fail
  refine (hash_any a l c xs _ HA5.out (by omega)).mono ?_
  rintro e w6 ⟨rfl, rfl⟩
  have hfin : fingerOf (fnv fnv0 xs) = fnv fnv0 xs / 4294967296 := by unfold fingerOf; omega
  rw [hfin]
  clear hfin
  go_wp2_with fail
  go_ret
  exact ⟨rfl, hbw.trans (hb5.mono hbw.size)⟩
end Go.Proofs.Ytpmeogbjigkalaa
