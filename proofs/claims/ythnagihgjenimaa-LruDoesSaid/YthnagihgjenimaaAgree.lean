/- agree: lists are as the document says. -/
import Derived.Test.YthnagihgjenimaaRef5
import Derived.Test.YthnagihgjenimaaTurns
namespace Go.Proofs.Ythnagihgjenimaa
open Go.RowKit
set_option linter.unusedVariables false

/-- The numbers of list i; none if there is no such list. -/
def atl (n : Nat) (ls : Nat → List Nat) (i : Int) : List Nat := if 0 ≤ i ∧ i < (n : Int) then ls i.toNat else []

theorem atl_in {n : Nat} {ls : Nat → List Nat} {i : Nat} (hi : i < n) : atl n ls i = ls i := by
  unfold atl; rw [if_pos ⟨by omega, by omega⟩]; simp
theorem atl_out {n : Nat} {ls : Nat → List Nat} {i : Int} (hi : listB n i = false) : atl n ls i = [] := by
  unfold atl; unfold listB at hi; simp at hi; rw [if_neg (by omega)]
theorem listB_true {n : Nat} {i : Int} (h : listB n i = true) : ∃ j : Nat, i = j ∧ j < n := by
  unfold listB at h; simp at h; exact ⟨i.toNat, by omega, by omega⟩
theorem ok_iff {k : LK} {i : Int} (hN : 1 ≤ k.N) : okLN k i 0 ↔ listB k.n i = true := by
  unfold okLN listB; simp; omega
theorem ok_iff2 {k : LK} {x : Int} (hn : 1 ≤ k.n) : okLN k 0 x ↔ listB k.N x = true := by
  unfold okLN listB; simp; omega

def RowP (base : Nat) (l : List Nat) (w : World) (e : Ending) (w' : World) : Prop := ∃ rv, e = .returned rv ∧ w'.ownsRow base 3 1 rv l.length (nats l) ∧ Keeps (fun _ => False) w w'

theorem rof_any (base : Nat) (w : World) (v : Value) (N n : Nat) (ls : Nat → List Nat) (h : RefAt base w v N n ls) (hn : 1 ≤ n) (i : Int) :
    Calls Try.prog 38 #[v, .int .i64 i] w (RowP base (atl n ls i) w) := by
  have HR := Lib.hid h
  obtain ⟨g, cap, rfl, hcap, hmx, hg, hrow⟩ := h.form hn
  unfold maxLen at hmx
  have hk0 : Keeps (fun _ => False) w (w.alloc (.cells #[.int .i64 (N : Int), .slice (some ⟨g, 0, none⟩) n cap] 50)) := (Keeps.refl _ w).alloc _
  have HK0 := Lib.hid hk0
  have HRW := Lib.hid hrow
  have b1 := Lib.hid (Blk.new w 50 [.int .i64 (N : Int), .slice (some ⟨g, 0, none⟩) n cap])
  clear h hk0 hrow
  cases hb : listB n i
  · have HA : Hid (atl n ls i = []) := Lib.hid (atl_out hb)
    have HC := Lib.hid (rlist_any base _ _ N n ls (HR.out.quiet HK0.out) hn i)
    rw [hb] at HC
    clear hb
    go_enter Try.func38, Try.ntmps38
    go_wp2_with fail
    refine HC.out.mono ?_
    rintro e w1 ⟨rfl, hk1⟩
    have HK1 := Lib.hid hk1
    clear hk1
    go_wp2_with fail
    go_ret
    exact ⟨_, rfl, by rw [HA.out]; exact World.ownsRow_nil _ _ _ _, HK0.out.trans HK1.out⟩
  · have HC := Lib.hid (rlist_any base _ _ N n ls (HR.out.quiet HK0.out) hn i)
    rw [hb] at HC
    obtain ⟨i, rfl, hi⟩ := listB_true hb
    have HA : Hid (atl n ls i = ls i) := Lib.hid (atl_in hi)
    clear hb
    obtain ⟨rv, hc, hr⟩ := HRW.out i hi
    go_enter Try.func38, Try.ntmps38
    go_wp2_with fail
    refine HC.out.mono ?_
    rintro e w1 ⟨rfl, hk1⟩
    have c1 := (hk1.blk b1.out id).cell (i := 1) rfl
    have c2 := ((hk1.cell (p := ⟨g, i, none⟩) (by simp; omega) id).trans (HK0.out.cell (p := ⟨g, i, none⟩) hg id)).trans hc
    have hr1 := (hk1.own (HK0.out.own hr fun _ _ => id) fun _ _ => id)
    have HR1 := Lib.hid hr1
    have HK1 := Lib.hid hk1
    clear hk1 hr hr1 hc
    go_wp2_with fail
    go_ret
    exact ⟨_, rfl, by rw [HA.out]; exact HR1.out, HK0.out.trans HK1.out⟩

theorem told_at (k : LK) (w : World) (ls : Nat → List Nat) (h : k.Has w ls) (i : Int) :
    Calls Try.prog 20 #[k.ptr, .int .i64 i] w fun e w' => ∃ sv, e = .returned (.tuple #[sv, .bool true]) ∧ w'.ownsRow w.heap.size 3 1 sv (atl k.n ls i).length (nats (atl k.n ls i)) ∧ Keeps (fun _ => False) w w' := by
  cases hb : listB k.n i
  · rw [atl_out hb]
    exact told_bad k w ls h i (fun ho => by rw [ok_iff h.bounds.1, hb] at ho; cases ho)
  · obtain ⟨i, rfl, hi⟩ := listB_true hb
    rw [atl_in hi]
    exact told_of k w ls h i hi

theorem len_at (k : LK) (w : World) (ls : Nat → List Nat) (h : k.Has w ls) (i : Int) :
    Calls Try.prog 12 #[k.ptr, .int .i64 i] w fun e w' => e = .returned (.int .i64 ((atl k.n ls i).length : Int)) ∧ w = w' := by
  cases hb : listB k.n i
  · rw [atl_out hb]
    exact len_bad k w ls h i (fun ho => by rw [ok_iff h.bounds.1, hb] at ho; cases ho)
  · obtain ⟨i, rfl, hi⟩ := listB_true hb
    rw [atl_in hi]
    exact len_ok k w ls h i hi

/-- What is told of a list's end. -/
def NumS (there : Bool) (l : List Nat) (q : Nat) (a e : Int) : Prop :=
  (there = false ∧ a = 0 ∧ e = 2) ∨ (there = true ∧ l = [] ∧ a = 0 ∧ e = 4) ∨ (there = true ∧ q < l.length ∧ a = ((l.getD q 0 : Nat) : Int) ∧ e = 0)
def NumP (there : Bool) (l : List Nat) (q : Nat) (w : World) (e : Ending) (w' : World) : Prop := ∃ a c, e = .returned (two a c) ∧ NumS there l q a c ∧ Keeps (fun _ => False) w w'

theorem oldest_at (k : LK) (w : World) (ls : Nat → List Nat) (h : k.Has w ls) (i : Int) : Calls Try.prog 17 #[k.ptr, .int .i64 i] w (NumP (listB k.n i) (atl k.n ls i) ((atl k.n ls i).length - 1) w) := by
  cases hb : listB k.n i
  · refine (oldest_bad k w ls h i (fun ho => by rw [ok_iff h.bounds.1, hb] at ho; cases ho)).mono ?_
    rintro e w' ⟨rfl, hk⟩
    exact ⟨0, 2, rfl, .inl ⟨rfl, rfl, rfl⟩, hk⟩
  · obtain ⟨i, rfl, hi⟩ := listB_true hb
    rw [atl_in hi]
    by_cases hl : ls i = []
    · refine (oldest_none k w ls h i hi hl).mono ?_
      rintro e w' ⟨rfl, hk⟩
      exact ⟨0, 4, rfl, .inr (.inl ⟨rfl, hl, rfl, rfl⟩), hk⟩
    · have hpos : 0 < (ls i).length := List.length_pos_iff.2 hl
      refine (oldest_ok k w ls h i ((ls i).getD ((ls i).length - 1) 0) hi (by rw [List.getLast?_eq_getElem?, List.getD_eq_getElem?_getD, List.getElem?_eq_getElem (by omega)]; rfl)).mono ?_
      rintro e w' ⟨rfl, hk⟩
      exact ⟨_, 0, rfl, .inr (.inr ⟨rfl, by omega, rfl, rfl⟩), hk⟩

theorem newest_at (k : LK) (w : World) (ls : Nat → List Nat) (h : k.Has w ls) (i : Int) : Calls Try.prog 19 #[k.ptr, .int .i64 i] w (NumP (listB k.n i) (atl k.n ls i) 0 w) := by
  cases hb : listB k.n i
  · refine (newest_bad k w ls h i (fun ho => by rw [ok_iff h.bounds.1, hb] at ho; cases ho)).mono ?_
    rintro e w' ⟨rfl, hk⟩
    exact ⟨0, 2, rfl, .inl ⟨rfl, rfl, rfl⟩, hk⟩
  · obtain ⟨i, rfl, hi⟩ := listB_true hb
    rw [atl_in hi]
    by_cases hl : ls i = []
    · refine (newest_none k w ls h i hi hl).mono ?_
      rintro e w' ⟨rfl, hk⟩
      exact ⟨0, 4, rfl, .inr (.inl ⟨rfl, hl, rfl, rfl⟩), hk⟩
    · have hpos : 0 < (ls i).length := List.length_pos_iff.2 hl
      refine (newest_ok k w ls h i ((ls i).getD 0 0) hi (by rw [List.head?_eq_getElem?, List.getD_eq_getElem?_getD, List.getElem?_eq_getElem hpos]; rfl)).mono ?_
      rintro e w' ⟨rfl, hk⟩
      exact ⟨_, 0, rfl, .inr (.inr ⟨rfl, by omega, rfl, rfl⟩), hk⟩

theorem number_yes (base : Nat) (w : World) (rv : Value) (l : List Nat) (h : w.ownsRow base 3 1 rv l.length (nats l)) (there : Bool) (q : Nat) (at' a c : Int) (hs : NumS there l q a c) (hat : q < l.length → at' = q) (hq : l.length ≤ 65536) :
    Calls Try.prog 40 #[.int .i64 a, .int .i64 c, .bool there, rv, .int .i64 at'] w fun e w' => e = .returned (.bool true) ∧ w = w' := by
  obtain ⟨A, cp, rfl, hcp, hc⟩ := own_nats h
  clear h
  rcases hs with ⟨rfl, rfl, rfl⟩ | ⟨rfl, rfl, rfl, rfl⟩ | ⟨rfl, hq1, rfl, rfl⟩
  · clear hc hat
    go_enter Try.func40, Try.ntmps40
    go_wp2
    go_ret
    exact ⟨rfl, rfl⟩
  · clear hc hat
    go_enter Try.func40, Try.ntmps40
    go_wp2
    go_ret
    exact ⟨rfl, rfl⟩
  · obtain rfl := hat hq1
    obtain ⟨g, rfl, _, hg, hcell⟩ := hc q hq1
    have h0 : ((l.length : Int) == 0) = false := by rw [beq_eq_false_iff_ne]; omega
    have hne : (0 : Nat) < l.length := by omega
    generalize l.getD q 0 = z at *
    clear hc hat
    go_enter Try.func40, Try.ntmps40
    go_wp2
    go_ret
    exact ⟨rfl, rfl⟩

set_option maxHeartbeats 1000000 in
theorem same_yes (base base' : Nat) (w : World) (av bv : Value) (l : List Nat) (ha : w.ownsRow base 3 1 av l.length (nats l)) (hb : w.ownsRow base' 3 1 bv l.length (nats l)) (hq : l.length ≤ 65536) :
    Calls Try.prog 39 #[av, bv] w fun e w' => e = .returned (.bool true) ∧ ∃ q, w' = w.drewN q := by
  obtain ⟨A, cp, rfl, hcp, hca⟩ := own_nats ha
  obtain ⟨B, cq, rfl, hcq, hcb⟩ := own_nats hb
  have HA := Lib.hid hca
  have HB := Lib.hid hcb
  clear ha hb hca hcb
  go_enter Try.func39, Try.ntmps39
  go_wp2
  go_loopw [13] (fun i wr => ∃ t d : Nat, t ≤ l.length ∧ i = .int .i64 t ∧ wr = w.drewN d) (fun i _ => l.length - (intOf i).toNat)
  case atStart => exact ⟨0, 0, Nat.zero_le _, rfl, rfl⟩
  case round =>
    obtain ⟨t, d, ht, rfl, rfl⟩ := hrel
    by_cases hlt : t < l.length
    · obtain ⟨g, rfl, _, hg, h1⟩ := HA.out t hlt
      obtain ⟨g', rfl, _, hg', h2⟩ := HB.out t hlt
      have hw : IntKind.i64.wrap (t : Int) = t := by rw [IntKind.wrap_i64]; omega
      have h0 : (0 : Int) ≤ t := by omega
      have h3 : (t : Int) < l.length := by omega
      go_wp2
      go_quiet (fail)
      go_wp2
      go_roundw
      case rel => exact ⟨t + 1, _, by omega, by go_num, rfl⟩
      case measure => simp [intOf]; omega
    · obtain rfl : t = l.length := by omega
      go_wp2
      go_ret
      exact ⟨rfl, d, rfl⟩

set_option maxRecDepth 100000 in
set_option maxHeartbeats 4000000 in
theorem agree_yes (k : LK) (base : Nat) (w : World) (v : Value) (ls : Nat → List Nat) (hk : k.Has w ls) (h : RefAt base w v k.N k.n ls) (i x : Int) :
    Calls Try.prog 25 #[k.ptr, v, .int .i64 i, .int .i64 x] w fun e w' => e = .returned (.bool true) ∧ Keeps (fun _ => False) w w' := by
  have ho := hk.ok
  have HO := Lib.hid ho
  have hN1 := hk.bounds.1
  have hlen : (atl k.n ls i).length ≤ 65536 := by
    unfold atl
    split
    · rename_i h'
      exact ho.len _ (by omega)
    · simp
  obtain ⟨g, cap, rfl, hcap, hmx, hg, hrow⟩ := h.form ho.n1
  unfold maxLen at hmx
  have hk0 : Keeps (fun _ => False) w (w.alloc (.cells #[.int .i64 (k.N : Int), .slice (some ⟨g, 0, none⟩) k.n cap] 50)) := (Keeps.refl _ w).alloc _
  have b0 := Blk.new w 50 [.int .i64 (k.N : Int), .slice (some ⟨g, 0, none⟩) k.n cap]
  have HH0 := Lib.hid (hk.quiet hk0)
  have HR0 := Lib.hid (h.quiet hk0)
  have HK0 := Lib.hid hk0
  have HB0 := Lib.hid b0
  have hsz : w.heap.size < (w.alloc (.cells #[.int .i64 (k.N : Int), .slice (some ⟨g, 0, none⟩) k.n cap] 50)).heap.size := by simp
  obtain ⟨l, hl⟩ : ∃ l, l = atl k.n ls i := ⟨_, rfl⟩
  have HC := Lib.hid (rof_any base _ _ k.N k.n ls HR0.out ho.n1 i)
  rw [← hl] at HC hlen
  have HL := Lib.hid hl
  clear hl hrow b0 hk0 h hk ho
  unfold LK.ptr at *
  go_enter Try.func25, Try.ntmps25
  go_wp2_with fail
  generalize w.alloc (.cells #[.int .i64 (k.N : Int), .slice (some ⟨g, 0, none⟩) k.n cap] 50) = W0 at HH0 HR0 HK0 HB0 HC hsz ⊢
  refine HC.out.mono ?_
  rintro e w1 ⟨rv, rfl, hrv, hk1⟩
  have HRV1 := Lib.hid hrv
  have HK1 := Lib.hid hk1
  have HH1 := Lib.hid (HH0.out.quiet hk1)
  have HR1 := Lib.hid (HR0.out.quiet hk1)
  have HB1 := Lib.hid (hk1.blk HB0.out id)
  clear hrv hk1 HC
  go_wp2_with fail
  refine (told_at k w1 ls HH1.out i).mono ?_
  rw [← HL.out]
  rintro e w2 ⟨sv, rfl, hsv, hk2⟩
  have HSV2 := Lib.hid hsv
  have HK2 := Lib.hid hk2
  have HH2 := Lib.hid (HH1.out.quiet hk2)
  have HR2 := Lib.hid (HR1.out.quiet hk2)
  have HB2 := Lib.hid (hk2.blk HB1.out id)
  have HRV2 := Lib.hid (hk2.own HRV1.out fun _ _ => id)
  clear hsv hk2
  go_wp2_with fail
  refine (same_yes _ _ w2 sv rv l HSV2.out HRV2.out hlen).mono ?_
  rintro e w2d ⟨rfl, d, rfl⟩
  have hk3 : Keeps (fun _ => False) w2 (w2.drewN d) := (Keeps.refl _ w2).drewN d
  obtain ⟨w3, hw3⟩ : ∃ w3, w3 = w2.drewN d := ⟨_, rfl⟩
  rw [← hw3] at hk3 ⊢
  have HK3 := Lib.hid hk3
  have HH3 := Lib.hid (HH2.out.quiet hk3)
  have HR3 := Lib.hid (HR2.out.quiet hk3)
  have HB3 := Lib.hid (hk3.blk HB2.out id)
  have HRV3 := Lib.hid (hk3.own HRV2.out fun _ _ => id)
  clear hw3 hk3
  have HLA := Lib.hid (len_at k w3 ls HH3.out i)
  rw [← HL.out] at HLA
  obtain ⟨_, ra, rc, hrv, _⟩ := own_read HRV3.out
  subst hrv
  unfold LK.ptr at *
  go_wp2_with fail
  refine HLA.out.mono ?_
  rintro e w4 ⟨rfl, rfl⟩
  have c1 := HB3.out.cell (i := 1) rfl
  go_upto_region 5 with fail
  go_cut [12] (fun s wx => s = .bool (listB k.n i) ∧ w3 = wx)
  case first =>
    cases hb : listB k.n i
    · by_cases h0 : 0 ≤ i
      · have h1 : decide (i < (k.n : Int)) = false := by unfold listB at hb; simp at hb; simp; omega
        have HBB := Lib.hid hb
        clear hb
        go_wp2_with fail
        go_meet
        all_goals exact ⟨by rw [HBB.out], rfl⟩
      · have HBB := Lib.hid hb
        clear hb
        have h0' : decide (0 ≤ i) = false := by simpa using h0
        clear h0
        go_wp2_with fail
        go_meet
        all_goals exact ⟨by rw [HBB.out], rfl⟩
    · obtain ⟨i, rfl, hi⟩ := listB_true hb
      have HBB := Lib.hid hb
      clear hb
      go_wp2_with fail
      go_meet
      all_goals exact ⟨by rw [HBB.out], rfl⟩
  case rest =>
    obtain ⟨rfl, rfl⟩ := hcut
    have HON := Lib.hid (oldest_at k w3 ls HH3.out i)
    rw [← HL.out] at HON
    go_wp2_with fail
    refine HON.out.mono ?_
    rintro e w4 ⟨a1, q1, rfl, hn1, hk4⟩
    unfold two
    have HK4 := Lib.hid hk4
    have HN1 := Lib.hid hn1
    have HH4 := Lib.hid (HH3.out.quiet hk4)
    have HR4 := Lib.hid (HR3.out.quiet hk4)
    have HB4 := Lib.hid (hk4.blk HB3.out id)
    have HRV4 := Lib.hid (hk4.own HRV3.out fun _ _ => id)
    have HNE := Lib.hid (newest_at k w4 ls HH4.out i)
    rw [← HL.out] at HNE
    clear hk4 hn1 c1
    go_wp2_with fail
    refine HNE.out.mono ?_
    rintro e w5 ⟨a2, q2, rfl, hn2, hk5⟩
    unfold two
    have HK5 := Lib.hid hk5
    have HN2 := Lib.hid hn2
    have HH5 := Lib.hid (HH4.out.quiet hk5)
    have HR5 := Lib.hid (HR4.out.quiet hk5)
    have HB5 := Lib.hid (hk5.blk HB4.out id)
    have HRV5 := Lib.hid (hk5.own HRV4.out fun _ _ => id)
    clear hk5 hn2
    obtain ⟨bb, hbb⟩ : ∃ bb, bb = listB k.n i := ⟨_, rfl⟩
    rw [← hbb] at HN1 HN2 ⊢
    clear hbb
    go_wp2_with fail
    refine (number_yes base w5 _ l HRV5.out bb (l.length - 1) _ a1 q1 HN1.out (by omega) hlen).mono ?_
    rintro e w6 ⟨rfl, rfl⟩
    go_wp2_with fail
    refine (number_yes base w5 _ l HRV5.out bb 0 _ a2 q2 HN2.out (fun _ => rfl) hlen).mono ?_
    rintro e w6 ⟨rfl, rfl⟩
    go_wp2_with fail
    have c0 := HB5.out.cell (i := 0) rfl
    have c1 := HB5.out.cell (i := 1) rfl
    have HKK : Hid (Keeps (fun _ => False) w w5) := Lib.hid (((((HK0.out.trans HK1.out).trans HK2.out).trans HK3.out).trans HK4.out).trans HK5.out)
    cases hx : listB k.N x
    · have hno : ¬ okLN k 0 x := fun h => by rw [ok_iff2 HO.out.n1, hx] at h; cases h
      refine (where_bad k w5 ls HH5.out x hno).mono ?_
      unfold two
      rintro e w6 ⟨rfl, rfl⟩
      clear hno
      by_cases h0 : x < 0
      · clear hx
        go_wp2_with fail
        go_ret
        exact ⟨rfl, HKK.out⟩
      · have h1 : (k.N : Int) ≤ x := by unfold listB at hx; simp at hx; omega
        have h0' : decide (x < 0) = false := by simpa using h0
        clear hx h0
        go_wp2_with fail
        go_ret
        exact ⟨rfl, HKK.out⟩
    · obtain ⟨x, rfl, hxN⟩ := listB_true hx
      clear hx
      have h0' : decide ((x : Int) < 0) = false := by simp
      by_cases hm : ∃ j, j < k.n ∧ x ∈ ls j
      · obtain ⟨j, hj, hxj⟩ := hm
        refine (where_in k w5 ls HH5.out x j hj hxj).mono ?_
        unfold two
        rintro e w6 ⟨rfl, rfl⟩
        have HXJ := Lib.hid hxj
        clear hxj
        go_wp2_with fail
        refine (where_any base w5 _ k.N k.n ls HR5.out HO.out.n1 HO.out.n2 HO.out.len x).mono ?_
        rintro e w6 ⟨r, rfl, hr, hk6⟩
        obtain rfl : r = (j : Int) := where_is HO.out hj HXJ.out hr
        have d0 := (hk6.blk HB5.out id).cell (i := 0) rfl
        have d1 := (hk6.blk HB5.out id).cell (i := 1) rfl
        have HK6 := Lib.hid hk6
        have hj0 : decide ((j : Int) < 0) = false := by simp
        clear hr hk6
        go_wp2_with fail
        refine (where_any base w6 _ k.N k.n ls (HR5.out.quiet HK6.out) HO.out.n1 HO.out.n2 HO.out.len x).mono ?_
        rintro e w7 ⟨r, rfl, hr, hk7⟩
        obtain rfl : r = (j : Int) := where_is HO.out hj HXJ.out hr
        have HK7 := Lib.hid hk7
        clear hr hk7
        go_wp2_with fail
        go_ret
        exact ⟨rfl, (HKK.out.trans HK6.out).trans HK7.out⟩
      · have hf : ∀ j, j < k.n → x ∉ ls j := fun j hj hxj => hm ⟨j, hj, hxj⟩
        refine (where_none k w5 ls HH5.out x hxN hf).mono ?_
        unfold two
        rintro e w6 ⟨rfl, rfl⟩
        have HF := Lib.hid hf
        clear hf hm
        go_wp2_with fail
        refine (where_any base w5 _ k.N k.n ls HR5.out HO.out.n1 HO.out.n2 HO.out.len x).mono ?_
        rintro e w6 ⟨r, rfl, hr, hk6⟩
        obtain rfl : r = -1 := by
          rcases hr with ⟨e, _⟩ | ⟨i', _, h1, h2⟩
          · exact e
          · exact absurd h2 (HF.out i' h1)
        have HK6 := Lib.hid hk6
        clear hr hk6
        go_wp2_with fail
        go_ret
        exact ⟨rfl, HKK.out.trans HK6.out⟩
end Go.Proofs.Ythnagihgjenimaa
