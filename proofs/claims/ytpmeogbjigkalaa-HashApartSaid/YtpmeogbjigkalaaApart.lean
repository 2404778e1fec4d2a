/- HashApart: bytes of one length that are unlike at one place alone have unlike hashes. -/
import Derived.Test.YtpmeogbjigkalaaLaws
import Derived.Laws.BitsAllLaws
import Derived.Deep.AppendLies
namespace Go.Proofs.Ytpmeogbjigkalaa
open Go.RowKit
set_option linter.unusedVariables false

theorem times_inv (x : Int) (hx0 : 0 ≤ x) (hx1 : x < 18446744073709551616) : ((x * 1099511628211) % 18446744073709551616 * 14886173955864302971) % 18446744073709551616 = x := by
  rw [Int.mul_emod, Int.emod_emod_of_dvd _ (Int.dvd_refl _), ← Int.mul_emod, Int.mul_assoc, show (1099511628211 * 14886173955864302971 : Int) = 1 + 18446744073709551616 * 887285111055 from rfl, Int.mul_add, Int.mul_one, Int.mul_left_comm, Int.add_mul_emod_self_left]
  exact Int.emod_eq_of_lt hx0 hx1
theorem times_inj (x y : Int) (hx0 : 0 ≤ x) (hx1 : x < 18446744073709551616) (hy0 : 0 ≤ y) (hy1 : y < 18446744073709551616)
    (h : (x * 1099511628211) % 18446744073709551616 = (y * 1099511628211) % 18446744073709551616) : x = y := by
  rw [← times_inv x hx0 hx1, ← times_inv y hy0 hy1, h]

theorem xor_lt (h b : Nat) (hh : h < 18446744073709551616) (hb : b < 256) : h ^^^ b < 18446744073709551616 := Nat.xor_lt_two_pow (n := 64) hh (by omega)

theorem nat_inj (m n : Nat) (hm : m < 18446744073709551616) (hn : n < 18446744073709551616) (h : ((m : Int) * 1099511628211) % 18446744073709551616 = ((n : Int) * 1099511628211) % 18446744073709551616) : m = n := by
  have h3 := times_inj m n (Int.natCast_nonneg m) (by clear h; omega) (Int.natCast_nonneg n) (by clear h; omega) h
  exact Int.ofNat.inj h3

/-- One byte of the hash, over natural numbers. -/
theorem step_nat (h b : Nat) (hh : h < 18446744073709551616) (hb : b < 256) : fnvStep (h : Int) (b : Int) = (((h ^^^ b : Nat) : Int) * 1099511628211) % 18446744073709551616 := by
  unfold fnvStep
  have e : IntKind.u64.wrap (b : Int) = (b : Int) := by rw [IntKind.wrap_u64]; omega
  rw [e, u64_xor_nat h b hh (by omega), IntKind.wrap_u64]

theorem step_inj_h (x y b : Int) (hx : 0 ≤ x ∧ x ≤ 18446744073709551615) (hy : 0 ≤ y ∧ y ≤ 18446744073709551615) (hb : 0 ≤ b ∧ b ≤ 255) (h : fnvStep x b = fnvStep y b) : x = y := by
  obtain ⟨x, rfl⟩ := Int.eq_ofNat_of_zero_le hx.1
  obtain ⟨y, rfl⟩ := Int.eq_ofNat_of_zero_le hy.1
  obtain ⟨b, rfl⟩ := Int.eq_ofNat_of_zero_le hb.1
  rw [step_nat x b (by omega) (by omega), step_nat y b (by omega) (by omega)] at h
  have h4 := nat_inj _ _ (xor_lt x b (by clear h; omega) (by clear h; omega)) (xor_lt y b (by clear h; omega) (by clear h; omega)) h
  clear h
  have h5 : (x ^^^ b) ^^^ b = (y ^^^ b) ^^^ b := by rw [h4]
  rw [Nat.xor_assoc, Nat.xor_assoc, Nat.xor_self, Nat.xor_zero, Nat.xor_zero] at h5
  omega

theorem step_inj_b (x b c : Int) (hx : 0 ≤ x ∧ x ≤ 18446744073709551615) (hb : 0 ≤ b ∧ b ≤ 255) (hc : 0 ≤ c ∧ c ≤ 255) (h : fnvStep x b = fnvStep x c) : b = c := by
  obtain ⟨x, rfl⟩ := Int.eq_ofNat_of_zero_le hx.1
  obtain ⟨c, rfl⟩ := Int.eq_ofNat_of_zero_le hc.1
  obtain ⟨b, rfl⟩ := Int.eq_ofNat_of_zero_le hb.1
  rw [step_nat x b (by omega) (by omega), step_nat x c (by omega) (by omega)] at h
  have h4 := nat_inj _ _ (xor_lt x b (by clear h; omega) (by clear h; omega)) (xor_lt x c (by clear h; omega) (by clear h; omega)) h
  clear h
  have h5 : x ^^^ (x ^^^ b) = x ^^^ (x ^^^ c) := by rw [h4]
  rw [← Nat.xor_assoc, ← Nat.xor_assoc, Nat.xor_self, Nat.zero_xor, Nat.zero_xor] at h5
  omega

theorem step_range (x b : Int) : 0 ≤ fnvStep x b ∧ fnvStep x b ≤ 18446744073709551615 := wrap_u64_range _

theorem fnv_inj (l : List Int) (hl : ∀ b ∈ l, 0 ≤ b ∧ b ≤ 255) : ∀ x y : Int, (0 ≤ x ∧ x ≤ 18446744073709551615) → (0 ≤ y ∧ y ≤ 18446744073709551615) → fnv x l = fnv y l → x = y := by
  induction l with
  | nil => intro x y _ _ h; exact h
  | cons b r ih =>
    intro x y hx hy h
    have h1 := ih (fun c hc => hl c (List.mem_cons_of_mem _ hc)) (fnvStep x b) (fnvStep y b) (step_range _ _) (step_range _ _) h
    exact step_inj_h x y b hx hy (hl b (List.mem_cons_self ..)) h1

theorem fnv_apart (l : List Int) (k : Nat) (y : Int) (hk : k < l.length) (hl : ∀ b ∈ l, 0 ≤ b ∧ b ≤ 255) (hy : 0 ≤ y ∧ y ≤ 255) (hne : y ≠ l.getD k 0) : fnv fnv0 l ≠ fnv fnv0 (l.set k y) := by
  intro h
  have e1 : l = l.take k ++ (l[k] :: l.drop (k + 1)) := by simp
  have e2 : l.set k y = l.take k ++ (y :: l.drop (k + 1)) := by rw [List.set_eq_take_append_cons_drop, if_pos hk]
  have hx : l.getD k 0 = l[k] := by simp [hk]
  rw [e2] at h
  conv at h => lhs; rw [e1]
  rw [fnv_append, fnv_append] at h
  have hr := fnv_range (l.take k)
  have h1 := fnv_inj (l.drop (k + 1)) (fun b hb => hl b (List.mem_of_mem_drop hb)) (fnvStep (fnv fnv0 (l.take k)) l[k]) (fnvStep (fnv fnv0 (l.take k)) y) (step_range _ _) (step_range _ _) h
  have h2 := step_inj_b _ _ _ hr (hl _ (List.getElem_mem hk)) hy h1
  exact hne (by rw [hx, ← h2])

theorem turn_ne (x t : Int) (hx : 0 ≤ x ∧ x ≤ 255) (ht : 0 ≤ t ∧ t ≤ 255) (h0 : t ≠ 0) : bits .xor .u8 x t ≠ x ∧ 0 ≤ bits .xor .u8 x t ∧ bits .xor .u8 x t ≤ 255 := by
  rw [u8_xor x t hx.1 (by omega) ht.1 (by omega)]
  have hlt : x.toNat ^^^ t.toNat < 256 := Nat.xor_lt_two_pow (n := 8) (by omega) (by omega)
  refine ⟨fun h => ?_, by omega, by omega⟩
  have h1 : x.toNat ^^^ t.toNat = x.toNat := by omega
  have h2 : x.toNat ^^^ (x.toNat ^^^ t.toNat) = x.toNat ^^^ x.toNat := by rw [h1]
  rw [← Nat.xor_assoc, Nat.xor_self, Nat.zero_xor] at h2
  omega

theorem add0 (g i : Nat) : (⟨g, 0, none⟩ : Addr).add i = ⟨g, i, none⟩ := by unfold Addr.add; split <;> simp_all

theorem info5 : (Try.prog.info? 5).map (fun i => (i.zero, i.size, i.bytes)) = some (some (.int .u8 0), 1, 1) := by kernel_rfl

theorem wf_u8 {x : Int} (h : (Lit.int .u8 x).wf = true) : 0 ≤ x ∧ x ≤ 255 := by
  simpa [Lit.wf, IntKind.min, IntKind.max, IntKind.signed, IntKind.bits] using h

set_option maxHeartbeats 400000 in
theorem apart_law (a : Option Addr) (l c : Nat) (zs : List Int) (at_ turn : Int) (w : World) (hR : Row .u8 w a l zs) (hwf : ∀ x ∈ zs, (Lit.int .u8 x).wf = true) (hl : l ≤ 140737488351232) (hlc : l ≤ c) (ha : (Lit.int .i64 at_).wf = true) (ht : (Lit.int .u8 turn).wf = true) :
    Calls Try.prog 4 #[.slice a l c, .int .i64 at_, .int .u8 turn] w fun e w' => e = .returned (.bool true) ∧ Below w.heap.size w w' := by
  obtain ⟨ht0, ht1⟩ := wf_u8 ht
  have hz : ∀ b ∈ zs, 0 ≤ b ∧ b ≤ 255 := fun b hb => wf_u8 (hwf b hb)
  clear ht hwf
  have HZ := Lib.hid hz
  have HR := Lib.hid hR
  clear hz hR
  by_cases h0 : l = 0
  · have hb0 : ((l : Int) == 0) = true := by simp; exact h0
    clear h0
    go_enter Try.func4, Try.ntmps4
    go_wp2_with (go_at_call 8; refine (wakes_yes _).mono ?_; rintro e w1 ⟨rfl, hb1⟩)
    go_ret
    exact ⟨rfl, hb1⟩
  by_cases h1 : turn = 0
  · have hb0 : ((l : Int) == 0) = false := by simp; exact h0
    subst h1
    clear h0
    go_enter Try.func4, Try.ntmps4
    go_wp2_with (go_at_call 8; refine (wakes_yes _).mono ?_; rintro e w1 ⟨rfl, hb1⟩)
    go_ret
    exact ⟨rfl, hb1⟩
  have hb0 : ((l : Int) == 0) = false := by simp; exact h0
  have hb2 : (turn == 0) = false := by simp; exact h1
  have hl1 : 1 ≤ l := by omega
  have H1 := Lib.hid h1
  clear h0 h1
  obtain ⟨i0, hi, hz0, hz1, hz2⟩ := info_parts info5
  obtain ⟨ad, had, _⟩ := HR.out.at_ (show 0 < l by omega)
  subst had
  obtain ⟨k, hkd⟩ : ∃ k : Nat, k = (max at_ 0).toNat % l := ⟨_, rfl⟩
  have hk : k < l := by rw [hkd]; exact Nat.mod_lt _ (by omega)
  go_enter Try.func4, Try.ntmps4
  go_wp2_with (first
    | (go_at_call 8; refine (wakes_yes _).mono ?_; rintro e w1 ⟨rfl, hb1⟩)
    | (at_builtin; refine wpList_append_own _ rfl (.tmp 17) (.tmp 18) 28 rfl w1.heap.size 5 i0 (.int .u8 0) 1 1 Try.underlying28 hi hz0 hz1 hz2 rfl (by decide) _ 0 [] rfl ?own ad l c (zs.map (Value.int .u8)) rfl ?c0 ?c1 ?c2 ?c3 ?c4 ?c5 ?_))
  case own => exact World.ownsRow_lit w1 #[] 0 (Nat.le_refl _) (by unfold maxLen; omega) (by simp)
  case c0 => simp [HR.out.1]
  case c1 =>
    intro j u hj
    rw [List.getElem?_map, Option.map_eq_some_iff] at hj
    obtain ⟨x, hx, rfl⟩ := hj
    have hjl : j < zs.length := by
      rcases Nat.lt_or_ge j zs.length with h' | h'
      · exact h'
      · rw [List.getElem?_eq_none h'] at hx; cases hx
    obtain ⟨ad', e1, e2⟩ := ((HR.out.below hb1).below ((Below.refl _ w1).alloc (Nat.le_refl _) (.cells #[] 5))).at_ (i := j) (by rw [← HR.out.1]; exact hjl)
    injection e1 with e1
    subst e1
    rw [e2]
    simp [hx]
  case c2 => exact ints_oneCell _ _
  case c3 => unfold maxLen; omega
  case c4 => omega
  case c5 => simp
  intro v2 w2 hown hgrow _
  have hb2' : Below w1.heap.size w1 w2 := ((Below.refl _ w1).alloc (Nat.le_refl _) _).grown hgrow (by simp) (fun g hg => by cases hg; exact Nat.le_refl _)
  obtain ⟨g, cp, rfl, hg1, hg2⟩ := hown.form (by omega)
  have hcellk := hown.cellAt k (by omega)
  have hfz := hown.frozenAt k
  obtain ⟨x, hx⟩ : ∃ x, x = zs.getD k 0 := ⟨_, rfl⟩
  have hxr : 0 ≤ x ∧ x ≤ 255 := HZ.out x (by rw [hx, List.getD_eq_getElem?_getD, List.getElem?_eq_getElem (by rw [HR.out.1]; exact hk)]; exact List.getElem_mem _)
  have hck : w2.cell? ⟨g, k, none⟩ = some (.int .u8 x) := by
    rw [hcellk, List.getElem?_map, List.getElem?_eq_getElem (by rw [HR.out.1]; exact hk), hx, List.getD_eq_getElem?_getD, List.getElem?_eq_getElem (by rw [HR.out.1]; exact hk)]
    rfl
  have HT := Lib.hid (turn_ne x turn hxr ⟨ht0, ht1⟩ H1.out)
  obtain ⟨y, hy⟩ : ∃ y, y = bits .xor .u8 x turn := ⟨_, rfl⟩
  have HY := Lib.hid hy
  have HX := Lib.hid hx
  have hst := hown.stored k (.int .u8 y)
  have HA := Lib.hid (fnv_apart zs k y (by rw [HR.out.1]; exact hk) HZ.out (by rw [hy]; exact HT.out.2) (by rw [hy, ← hx]; exact HT.out.1))
  have hR2 : Row .u8 (w2.setCell ⟨g, k, none⟩ (.int .u8 y)) (some ad) l zs := ((HR.out.below hb1).below (hb2'.trans ((Below.refl _ w2).setCell (p := ⟨g, k, none⟩) hg1 _)))
  have hR3 : Row .u8 (w2.setCell ⟨g, k, none⟩ (.int .u8 y)) (some ⟨g, 0, none⟩) l (zs.set k y) := by
    refine ⟨by rw [List.length_set]; exact HR.out.1, fun i hi => ⟨_, rfl, ?_⟩⟩
    rw [add0, hst.1.cellAt i (by omega), ← List.map_set, List.getElem?_map, List.getElem?_eq_getElem (by rw [List.length_set, HR.out.1]; exact hi), List.getD_eq_getElem?_getD, List.getElem?_eq_getElem (by rw [List.length_set, HR.out.1]; exact hi)]
    rfl
  have HR2 := Lib.hid hR2
  have HR3 := Lib.hid hR3
  have hbw : Below w.heap.size w w2 := hb1.trans (hb2'.mono hb1.size)
  have HB := Lib.hid hbw
  have HW := Lib.hid hb1.size
  clear hbw hb1 hb2' hown hgrow hst hR2 hR3 hcellk hx hxr
  subst hy
  have HN := HA.out
  by_cases hat : 0 ≤ at_
  · obtain ⟨mx, rfl⟩ := Int.eq_ofNat_of_zero_le hat
    have hkk : ((mx : Int) % (l : Int)) = (k : Int) := by
      rw [hkd, show (max (mx : Int) 0).toNat = mx from by omega]; rfl
    clear hkd
    go_wp2_with fail
    refine (hash_any (some ad) l c zs _ HR2.out (by omega)).mono ?_
    rintro e w3 ⟨rfl, rfl⟩
    go_wp2_with fail
    refine (hash_any (some ⟨g, 0, none⟩) l cp _ _ HR3.out (by omega)).mono ?_
    rintro e w3 ⟨rfl, rfl⟩
    go_wp2_with fail
    go_ret
    exact ⟨by simp [HN], HB.out.setCell (p := ⟨g, k, none⟩) (Nat.le_trans (HW.out) hg1) _⟩
  · have hk0 : k = 0 := by rw [hkd, show (max at_ 0).toNat = 0 from by omega]; exact Nat.zero_mod l
    subst hk0
    clear hkd
    have hkk : ((0 : Int) % (l : Int)) = 0 := Int.zero_emod _
    go_wp2_with fail
    refine (hash_any (some ad) l c zs _ HR2.out (by omega)).mono ?_
    rintro e w3 ⟨rfl, rfl⟩
    go_wp2_with fail
    refine (hash_any (some ⟨g, 0, none⟩) l cp _ _ HR3.out (by omega)).mono ?_
    rintro e w3 ⟨rfl, rfl⟩
    go_wp2_with fail
    go_ret
    exact ⟨by simp [HN], HB.out.setCell (p := ⟨g, 0, none⟩) (Nat.le_trans (HW.out) hg1) _⟩
end Go.Proofs.Ytpmeogbjigkalaa
