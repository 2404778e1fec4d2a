/- icehouseref12: Touch and Remove do what the lists' own calls do. -/
import Derived.Test.YthnagihgjenimaaRef4
import Derived.Deep.RegionWith
namespace Go.Proofs.Ythnagihgjenimaa
open Go.RowKit
set_option linter.unusedVariables false

theorem where_is {k : LK} {ls : Nat → List Nat} {j x : Nat} {r : Int} (ho : LsOk k ls) (hj : j < k.n) (hm : x ∈ ls j) (hr : WhereS k.n ls x r) : r = (j : Int) := by
  rcases hr with ⟨_, hr⟩ | ⟨i', e, h1, h2⟩
  · exact absurd hm (hr j hj)
  · rw [e, ho.apart i' j x h1 hj h2 hm]

set_option maxHeartbeats 2000000 in
theorem rremove_bad (k : LK) (base : Nat) (w : World) (v : Value) (ls : Nat → List Nat) (h : RefAt base w v k.N k.n ls) (ho : LsOk k ls) (hbase : base ≤ w.heap.size) (x : Int) (hno : ¬ okLN k 0 x) :
    Calls Try.prog 24 #[v, .int .i64 x] w (RPost k base 2 ls w) := by
  have HR := Lib.hid h
  have HO := Lib.hid ho
  obtain ⟨g, cap, rfl, hcap, hmx, hg, hrow⟩ := h.form ho.n1
  obtain ⟨t1, t2⟩ := two_new w (.int .i64 (k.N : Int)) (.slice (some ⟨g, 0, none⟩) k.n cap) (.int .i64 0) (.slice none 0 0)
  have hk0 : Keeps (fun _ => False) w ((w.alloc (.cells #[.int .i64 (k.N : Int), .slice (some ⟨g, 0, none⟩) k.n cap] 50)).alloc (.cells #[.int .i64 0, .slice none 0 0] 50)) := ((Keeps.refl _ w).alloc _).alloc _
  have hs : ((w.alloc (.cells #[.int .i64 (k.N : Int), .slice (some ⟨g, 0, none⟩) k.n cap] 50)).alloc (.cells #[.int .i64 0, .slice none 0 0] 50)).heap.size = w.heap.size + 2 := by simp
  have HN : Hid (listB k.N x = false) := Lib.hid (by unfold listB; simp; intro h0; unfold okLN at hno; have := ho.n1; omega)
  clear hrow h ho
  clear hno
  go_enter Try.func24, Try.ntmps24
  go_wp2_with fail
  generalize (w.alloc (.cells #[.int .i64 (k.N : Int), .slice (some ⟨g, 0, none⟩) k.n cap] 50)).alloc (.cells #[.int .i64 0, .slice none 0 0] 50) = W0 at t1 t2 hk0 hs ⊢
  have T1 := Lib.hid t1
  have T2 := Lib.hid t2
  have HK0 := Lib.hid hk0
  have hsz : w.heap.size + 2 ≤ W0.heap.size := by omega
  clear t1 t2 hk0 hs
  refine (rnumber_any base W0 _ k.N k.n ls (HR.out.quiet HK0.out) HO.out.n1 x).mono ?_
  rw [HN.out]
  rintro e w1 ⟨rfl, hk1⟩
  have hs1 := hk1.size
  have HK1 := Lib.hid hk1
  clear hk1
  obtain ⟨c0, c1, r0, r1, f0, f1⟩ := two_of (HK1.out.blk T1.out id) (HK1.out.blk T2.out id)
  go_wp2_with fail
  obtain ⟨z0, z1, hr, hk⟩ := fin2 (k := k) (a := .int .i64 (k.N : Int)) (b := .slice (some ⟨g, 0, none⟩) k.n cap) (Nat.le_refl _) (HK1.out.blk T2.out id) ((HR.out.quiet HK0.out).quiet HK1.out) (HK0.out.trans HK1.out)
  exact bodyPost_ret (v := .tuple #[.agg #[.int .i64 (k.N : Int), .slice (some ⟨g, 0, none⟩) k.n cap], .int .i64 2]) (by simp [results, Try.f24, go_sem, z0, z1]) rfl ⟨_, rfl, hr, hk⟩

set_option maxHeartbeats 2000000 in
theorem rremove_none (k : LK) (base : Nat) (w : World) (v : Value) (ls : Nat → List Nat) (h : RefAt base w v k.N k.n ls) (ho : LsOk k ls) (hbase : base ≤ w.heap.size) (x : Nat) (hx : x < k.N) (hf : ∀ j, j < k.n → x ∉ ls j) :
    Calls Try.prog 24 #[v, .int .i64 x] w (RPost k base 4 ls w) := by
  have HR := Lib.hid h
  have HO := Lib.hid ho
  obtain ⟨g, cap, rfl, hcap, hmx, hg, hrow⟩ := h.form ho.n1
  obtain ⟨t1, t2⟩ := two_new w (.int .i64 (k.N : Int)) (.slice (some ⟨g, 0, none⟩) k.n cap) (.int .i64 0) (.slice none 0 0)
  have hk0 : Keeps (fun _ => False) w ((w.alloc (.cells #[.int .i64 (k.N : Int), .slice (some ⟨g, 0, none⟩) k.n cap] 50)).alloc (.cells #[.int .i64 0, .slice none 0 0] 50)) := ((Keeps.refl _ w).alloc _).alloc _
  have hs : ((w.alloc (.cells #[.int .i64 (k.N : Int), .slice (some ⟨g, 0, none⟩) k.n cap] 50)).alloc (.cells #[.int .i64 0, .slice none 0 0] 50)).heap.size = w.heap.size + 2 := by simp
  have HN : Hid (listB k.N x = true) := Lib.hid (by unfold listB; simp; exact hx)
  clear hrow h ho
  have HF := Lib.hid hf
  clear hf
  go_enter Try.func24, Try.ntmps24
  go_wp2_with fail
  generalize (w.alloc (.cells #[.int .i64 (k.N : Int), .slice (some ⟨g, 0, none⟩) k.n cap] 50)).alloc (.cells #[.int .i64 0, .slice none 0 0] 50) = W0 at t1 t2 hk0 hs ⊢
  have T1 := Lib.hid t1
  have T2 := Lib.hid t2
  have HK0 := Lib.hid hk0
  have hsz : w.heap.size + 2 ≤ W0.heap.size := by omega
  clear t1 t2 hk0 hs
  refine (rnumber_any base W0 _ k.N k.n ls (HR.out.quiet HK0.out) HO.out.n1 x).mono ?_
  rw [HN.out]
  rintro e w1 ⟨rfl, hk1⟩
  have hs1 := hk1.size
  have HK1 := Lib.hid hk1
  clear hk1
  obtain ⟨c0, c1, r0, r1, f0, f1⟩ := two_of (HK1.out.blk T1.out id) (HK1.out.blk T2.out id)
  go_wp2_with fail
  refine (where_any base w1 _ k.N k.n ls ((HR.out.quiet HK0.out).quiet HK1.out) HO.out.n1 HO.out.n2 HO.out.len x).mono ?_
  rintro e w2 ⟨r, rfl, hr, hk2⟩
  have hs2 := hk2.size
  have HK2 := Lib.hid hk2
  clear hk2 c0 c1 r0 r1 f0 f1
  obtain ⟨c0, c1, r0, r1, f0, f1⟩ := two_of (HK2.out.blk (HK1.out.blk T1.out id) id) (HK2.out.blk (HK1.out.blk T2.out id) id)
  obtain rfl : r = -1 := by
    rcases hr with ⟨e, _⟩ | ⟨i', _, h1, h2⟩
    · exact e
    · exact absurd h2 (HF.out i' h1)
  clear hr
  go_wp2_with fail
  obtain ⟨z0, z1, hr, hk⟩ := fin2 (k := k) (a := .int .i64 (k.N : Int)) (b := .slice (some ⟨g, 0, none⟩) k.n cap) (Nat.le_refl _) (HK2.out.blk (HK1.out.blk T2.out id) id) (((HR.out.quiet HK0.out).quiet HK1.out).quiet HK2.out) ((HK0.out.trans HK1.out).trans HK2.out)
  exact bodyPost_ret (v := .tuple #[.agg #[.int .i64 (k.N : Int), .slice (some ⟨g, 0, none⟩) k.n cap], .int .i64 4]) (by simp [results, Try.f24, go_sem, z0, z1]) rfl ⟨_, rfl, hr, hk⟩

set_option maxHeartbeats 2000000 in
theorem rtouch_bad (k : LK) (base : Nat) (w : World) (v : Value) (ls : Nat → List Nat) (h : RefAt base w v k.N k.n ls) (ho : LsOk k ls) (hbase : base ≤ w.heap.size) (x : Int) (hno : ¬ okLN k 0 x) :
    Calls Try.prog 23 #[v, .int .i64 x] w (RPost k base 2 ls w) := by
  have HR := Lib.hid h
  have HO := Lib.hid ho
  obtain ⟨g, cap, rfl, hcap, hmx, hg, hrow⟩ := h.form ho.n1
  obtain ⟨t1, t2⟩ := two_new w (.int .i64 (k.N : Int)) (.slice (some ⟨g, 0, none⟩) k.n cap) (.int .i64 0) (.slice none 0 0)
  have hk0 : Keeps (fun _ => False) w ((w.alloc (.cells #[.int .i64 (k.N : Int), .slice (some ⟨g, 0, none⟩) k.n cap] 50)).alloc (.cells #[.int .i64 0, .slice none 0 0] 50)) := ((Keeps.refl _ w).alloc _).alloc _
  have hs : ((w.alloc (.cells #[.int .i64 (k.N : Int), .slice (some ⟨g, 0, none⟩) k.n cap] 50)).alloc (.cells #[.int .i64 0, .slice none 0 0] 50)).heap.size = w.heap.size + 2 := by simp
  have HN : Hid (listB k.N x = false) := Lib.hid (by unfold listB; simp; intro h0; unfold okLN at hno; have := ho.n1; omega)
  clear hrow h ho
  clear hno
  go_enter Try.func23, Try.ntmps23
  go_wp2_with fail
  generalize (w.alloc (.cells #[.int .i64 (k.N : Int), .slice (some ⟨g, 0, none⟩) k.n cap] 50)).alloc (.cells #[.int .i64 0, .slice none 0 0] 50) = W0 at t1 t2 hk0 hs ⊢
  have T1 := Lib.hid t1
  have T2 := Lib.hid t2
  have HK0 := Lib.hid hk0
  have hsz : w.heap.size + 2 ≤ W0.heap.size := by omega
  clear t1 t2 hk0 hs
  refine (rnumber_any base W0 _ k.N k.n ls (HR.out.quiet HK0.out) HO.out.n1 x).mono ?_
  rw [HN.out]
  rintro e w1 ⟨rfl, hk1⟩
  have hs1 := hk1.size
  have HK1 := Lib.hid hk1
  clear hk1
  obtain ⟨c0, c1, r0, r1, f0, f1⟩ := two_of (HK1.out.blk T1.out id) (HK1.out.blk T2.out id)
  go_wp2_with fail
  obtain ⟨z0, z1, hr, hk⟩ := fin2 (k := k) (a := .int .i64 (k.N : Int)) (b := .slice (some ⟨g, 0, none⟩) k.n cap) (Nat.le_refl _) (HK1.out.blk T2.out id) ((HR.out.quiet HK0.out).quiet HK1.out) (HK0.out.trans HK1.out)
  exact bodyPost_ret (v := .tuple #[.agg #[.int .i64 (k.N : Int), .slice (some ⟨g, 0, none⟩) k.n cap], .int .i64 2]) (by simp [results, Try.f23, go_sem, z0, z1]) rfl ⟨_, rfl, hr, hk⟩

set_option maxHeartbeats 2000000 in
theorem rtouch_none (k : LK) (base : Nat) (w : World) (v : Value) (ls : Nat → List Nat) (h : RefAt base w v k.N k.n ls) (ho : LsOk k ls) (hbase : base ≤ w.heap.size) (x : Nat) (hx : x < k.N) (hf : ∀ j, j < k.n → x ∉ ls j) :
    Calls Try.prog 23 #[v, .int .i64 x] w (RPost k base 4 ls w) := by
  have HR := Lib.hid h
  have HO := Lib.hid ho
  obtain ⟨g, cap, rfl, hcap, hmx, hg, hrow⟩ := h.form ho.n1
  obtain ⟨t1, t2⟩ := two_new w (.int .i64 (k.N : Int)) (.slice (some ⟨g, 0, none⟩) k.n cap) (.int .i64 0) (.slice none 0 0)
  have hk0 : Keeps (fun _ => False) w ((w.alloc (.cells #[.int .i64 (k.N : Int), .slice (some ⟨g, 0, none⟩) k.n cap] 50)).alloc (.cells #[.int .i64 0, .slice none 0 0] 50)) := ((Keeps.refl _ w).alloc _).alloc _
  have hs : ((w.alloc (.cells #[.int .i64 (k.N : Int), .slice (some ⟨g, 0, none⟩) k.n cap] 50)).alloc (.cells #[.int .i64 0, .slice none 0 0] 50)).heap.size = w.heap.size + 2 := by simp
  have HN : Hid (listB k.N x = true) := Lib.hid (by unfold listB; simp; exact hx)
  clear hrow h ho
  have HF := Lib.hid hf
  clear hf
  go_enter Try.func23, Try.ntmps23
  go_wp2_with fail
  generalize (w.alloc (.cells #[.int .i64 (k.N : Int), .slice (some ⟨g, 0, none⟩) k.n cap] 50)).alloc (.cells #[.int .i64 0, .slice none 0 0] 50) = W0 at t1 t2 hk0 hs ⊢
  have T1 := Lib.hid t1
  have T2 := Lib.hid t2
  have HK0 := Lib.hid hk0
  have hsz : w.heap.size + 2 ≤ W0.heap.size := by omega
  clear t1 t2 hk0 hs
  refine (rnumber_any base W0 _ k.N k.n ls (HR.out.quiet HK0.out) HO.out.n1 x).mono ?_
  rw [HN.out]
  rintro e w1 ⟨rfl, hk1⟩
  have hs1 := hk1.size
  have HK1 := Lib.hid hk1
  clear hk1
  obtain ⟨c0, c1, r0, r1, f0, f1⟩ := two_of (HK1.out.blk T1.out id) (HK1.out.blk T2.out id)
  go_wp2_with fail
  refine (where_any base w1 _ k.N k.n ls ((HR.out.quiet HK0.out).quiet HK1.out) HO.out.n1 HO.out.n2 HO.out.len x).mono ?_
  rintro e w2 ⟨r, rfl, hr, hk2⟩
  have hs2 := hk2.size
  have HK2 := Lib.hid hk2
  clear hk2 c0 c1 r0 r1 f0 f1
  obtain ⟨c0, c1, r0, r1, f0, f1⟩ := two_of (HK2.out.blk (HK1.out.blk T1.out id) id) (HK2.out.blk (HK1.out.blk T2.out id) id)
  obtain rfl : r = -1 := by
    rcases hr with ⟨e, _⟩ | ⟨i', _, h1, h2⟩
    · exact e
    · exact absurd h2 (HF.out i' h1)
  clear hr
  go_wp2_with fail
  obtain ⟨z0, z1, hr, hk⟩ := fin2 (k := k) (a := .int .i64 (k.N : Int)) (b := .slice (some ⟨g, 0, none⟩) k.n cap) (Nat.le_refl _) (HK2.out.blk (HK1.out.blk T2.out id) id) (((HR.out.quiet HK0.out).quiet HK1.out).quiet HK2.out) ((HK0.out.trans HK1.out).trans HK2.out)
  exact bodyPost_ret (v := .tuple #[.agg #[.int .i64 (k.N : Int), .slice (some ⟨g, 0, none⟩) k.n cap], .int .i64 4]) (by simp [results, Try.f23, go_sem, z0, z1]) rfl ⟨_, rfl, hr, hk⟩

set_option maxHeartbeats 2000000 in
theorem rremove_ok (k : LK) (base : Nat) (w : World) (v : Value) (ls : Nat → List Nat) (h : RefAt base w v k.N k.n ls) (ho : LsOk k ls) (hbase : base ≤ w.heap.size) (x : Nat) (hx : x < k.N) (j : Nat) (xs ys : List Nat) (hj : j < k.n) (hl : ls j = xs ++ x :: ys) :
    Calls Try.prog 24 #[v, .int .i64 x] w (RPost k base 0 (upd ls j (xs ++ ys)) w) := by
  have HR := Lib.hid h
  have HO := Lib.hid ho
  obtain ⟨g, cap, rfl, hcap, hmx, hg, hrow⟩ := h.form ho.n1
  obtain ⟨t1, t2⟩ := two_new w (.int .i64 (k.N : Int)) (.slice (some ⟨g, 0, none⟩) k.n cap) (.int .i64 0) (.slice none 0 0)
  have hk0 : Keeps (fun _ => False) w ((w.alloc (.cells #[.int .i64 (k.N : Int), .slice (some ⟨g, 0, none⟩) k.n cap] 50)).alloc (.cells #[.int .i64 0, .slice none 0 0] 50)) := ((Keeps.refl _ w).alloc _).alloc _
  have hs : ((w.alloc (.cells #[.int .i64 (k.N : Int), .slice (some ⟨g, 0, none⟩) k.n cap] 50)).alloc (.cells #[.int .i64 0, .slice none 0 0] 50)).heap.size = w.heap.size + 2 := by simp
  have HN : Hid (listB k.N x = true) := Lib.hid (by unfold listB; simp; exact hx)
  clear hrow h ho
  have HS := Lib.hid hl
  clear hl
  go_enter Try.func24, Try.ntmps24
  go_wp2_with fail
  generalize (w.alloc (.cells #[.int .i64 (k.N : Int), .slice (some ⟨g, 0, none⟩) k.n cap] 50)).alloc (.cells #[.int .i64 0, .slice none 0 0] 50) = W0 at t1 t2 hk0 hs ⊢
  have T1 := Lib.hid t1
  have T2 := Lib.hid t2
  have HK0 := Lib.hid hk0
  have hsz : w.heap.size + 2 ≤ W0.heap.size := by omega
  clear t1 t2 hk0 hs
  refine (rnumber_any base W0 _ k.N k.n ls (HR.out.quiet HK0.out) HO.out.n1 x).mono ?_
  rw [HN.out]
  rintro e w1 ⟨rfl, hk1⟩
  have hs1 := hk1.size
  have HK1 := Lib.hid hk1
  clear hk1
  obtain ⟨c0, c1, r0, r1, f0, f1⟩ := two_of (HK1.out.blk T1.out id) (HK1.out.blk T2.out id)
  go_wp2_with fail
  refine (where_any base w1 _ k.N k.n ls ((HR.out.quiet HK0.out).quiet HK1.out) HO.out.n1 HO.out.n2 HO.out.len x).mono ?_
  rintro e w2 ⟨r, rfl, hr, hk2⟩
  have hs2 := hk2.size
  have HK2 := Lib.hid hk2
  clear hk2 c0 c1 r0 r1 f0 f1
  obtain ⟨c0, c1, r0, r1, f0, f1⟩ := two_of (HK2.out.blk (HK1.out.blk T1.out id) id) (HK2.out.blk (HK1.out.blk T2.out id) id)
  have hmem : x ∈ ls j := by rw [HS.out]; simp
  obtain rfl : r = (j : Int) := by
    rcases hr with ⟨_, hr⟩ | ⟨i', e, h1, h2⟩
    · exact absurd hmem (hr j hj)
    · rw [e, HO.out.apart i' j x h1 hj h2 hmem]
  clear hr
  have HMEM := Lib.hid hmem
  clear hmem
  have HW := Lib.hid (without_any base w2 _ k.N k.n ls (((HR.out.quiet HK0.out).quiet HK1.out).quiet HK2.out) HO.out.n1 HO.out.n2 HO.out.len (by omega) x)
  go_wp2_with fail
  refine HW.out.mono ?_
  rintro e w3 ⟨v3, rfl, hr3, hk3⟩
  have hs3 := hk3.size
  have HK3 := Lib.hid hk3
  clear hk3 c0 c1 r0 r1 f0 f1
  obtain ⟨c0, c1, r0, r1, f0, f1⟩ := two_of (HK3.out.blk (HK2.out.blk (HK1.out.blk T1.out id) id) id) (HK3.out.blk (HK2.out.blk (HK1.out.blk T2.out id) id) id)
  have hr5 : RefAt base w3 v3 k.N k.n (upd ls j (xs ++ ys)) := (hr3.base (by omega)).congr fun z hz => by
    by_cases e : z = j
    · subst e; rw [upd_same]; exact wo_split (HO.out.nodup z hz) HS.out
    · rw [upd_ne _ _ e]; exact wo_not fun hm => e (HO.out.apart z j x hz hj hm HMEM.out)
  have HR5 := Lib.hid hr5
  obtain ⟨g4, cap4, rfl, hcap4, hmx4, hg4, hrow4⟩ := hr5.form HO.out.n1
  clear hr3 hr5 hrow4
  go_wp2_with fail
  obtain ⟨z0, z1, hr, hk⟩ := fin2 (k := k) (a := .int .i64 (k.N : Int)) (b := .slice (some ⟨g4, 0, none⟩) k.n cap4) (Nat.le_refl _) (HK3.out.blk (HK2.out.blk (HK1.out.blk T2.out id) id) id) HR5.out (((HK0.out.trans HK1.out).trans HK2.out).trans HK3.out)
  exact bodyPost_ret (v := .tuple #[.agg #[.int .i64 (k.N : Int), .slice (some ⟨g4, 0, none⟩) k.n cap4], .int .i64 0]) (by simp [results, Try.f24, go_sem, z0, z1]) rfl ⟨_, rfl, hr, hk⟩

set_option maxHeartbeats 2000000 in
theorem rtouch_ok (k : LK) (base : Nat) (w : World) (v : Value) (ls : Nat → List Nat) (h : RefAt base w v k.N k.n ls) (ho : LsOk k ls) (hbase : base ≤ w.heap.size) (x : Nat) (hx : x < k.N) (j : Nat) (xs ys : List Nat) (hj : j < k.n) (hl : ls j = xs ++ x :: ys) :
    Calls Try.prog 23 #[v, .int .i64 x] w (RPost k base 0 (upd ls j (x :: (xs ++ ys))) w) := by
  have HR := Lib.hid h
  have HO := Lib.hid ho
  obtain ⟨g, cap, rfl, hcap, hmx, hg, hrow⟩ := h.form ho.n1
  obtain ⟨t1, t2⟩ := two_new w (.int .i64 (k.N : Int)) (.slice (some ⟨g, 0, none⟩) k.n cap) (.int .i64 0) (.slice none 0 0)
  have hk0 : Keeps (fun _ => False) w ((w.alloc (.cells #[.int .i64 (k.N : Int), .slice (some ⟨g, 0, none⟩) k.n cap] 50)).alloc (.cells #[.int .i64 0, .slice none 0 0] 50)) := ((Keeps.refl _ w).alloc _).alloc _
  have hs : ((w.alloc (.cells #[.int .i64 (k.N : Int), .slice (some ⟨g, 0, none⟩) k.n cap] 50)).alloc (.cells #[.int .i64 0, .slice none 0 0] 50)).heap.size = w.heap.size + 2 := by simp
  have HN : Hid (listB k.N x = true) := Lib.hid (by unfold listB; simp; exact hx)
  clear hrow h ho
  have HS := Lib.hid hl
  clear hl
  go_enter Try.func23, Try.ntmps23
  go_wp2_with fail
  generalize (w.alloc (.cells #[.int .i64 (k.N : Int), .slice (some ⟨g, 0, none⟩) k.n cap] 50)).alloc (.cells #[.int .i64 0, .slice none 0 0] 50) = W0 at t1 t2 hk0 hs ⊢
  have T1 := Lib.hid t1
  have T2 := Lib.hid t2
  have HK0 := Lib.hid hk0
  have hsz : w.heap.size + 2 ≤ W0.heap.size := by omega
  clear t1 t2 hk0 hs
  refine (rnumber_any base W0 _ k.N k.n ls (HR.out.quiet HK0.out) HO.out.n1 x).mono ?_
  rw [HN.out]
  rintro e w1 ⟨rfl, hk1⟩
  have hs1 := hk1.size
  have HK1 := Lib.hid hk1
  clear hk1
  obtain ⟨c0, c1, r0, r1, f0, f1⟩ := two_of (HK1.out.blk T1.out id) (HK1.out.blk T2.out id)
  go_wp2_with fail
  refine (where_any base w1 _ k.N k.n ls ((HR.out.quiet HK0.out).quiet HK1.out) HO.out.n1 HO.out.n2 HO.out.len x).mono ?_
  rintro e w2 ⟨r, rfl, hr, hk2⟩
  have hs2 := hk2.size
  have HK2 := Lib.hid hk2
  clear hk2 c0 c1 r0 r1 f0 f1
  obtain ⟨c0, c1, r0, r1, f0, f1⟩ := two_of (HK2.out.blk (HK1.out.blk T1.out id) id) (HK2.out.blk (HK1.out.blk T2.out id) id)
  have hmem : x ∈ ls j := by rw [HS.out]; simp
  obtain rfl : r = (j : Int) := by
    rcases hr with ⟨_, hr⟩ | ⟨i', e, h1, h2⟩
    · exact absurd hmem (hr j hj)
    · rw [e, HO.out.apart i' j x h1 hj h2 hmem]
  clear hr
  have HMEM := Lib.hid hmem
  clear hmem
  go_wp2_with fail
  have hw2 : RefAt base w2 (.agg #[.int .i64 (k.N : Int), .slice (some ⟨g, 0, none⟩) k.n cap]) k.N k.n ls := ((HR.out.quiet HK0.out).quiet HK1.out).quiet HK2.out
  have HW2 := Lib.hid hw2
  clear hw2
  go_region_with (first
    | (go_at_call 35; refine (where_any base _ _ k.N k.n ls ?_ HO.out.n1 HO.out.n2 HO.out.len x).mono ?_; (first | exact HW2.out | exact HW2.out.quiet (Keeps.refl _ _).drew); rintro e w3 ⟨r, rfl, hr, hk3⟩; have hk3' : Keeps (fun _ => False) w2 w3 := (by first | exact hk3 | exact (Keeps.refl (fun _ => False) w2).drew.trans hk3); obtain rfl : r = (j : Int) := where_is HO.out hj HMEM.out hr; have hs3 := hk3'.size; have HK3 := Lib.hid hk3'; obtain ⟨d0, d1, e0, e1, h0, h1⟩ := two_of (hk3'.blk (HK2.out.blk (HK1.out.blk T1.out id) id) id) (hk3'.blk (HK2.out.blk (HK1.out.blk T2.out id) id) id); clear hk3 hk3' hr)
    | (go_at_call 36; refine (ahead_any base _ _ k.N k.n ls ?_ HO.out.n1 HO.out.n2 HO.out.len ?_ j x hj).mono ?_; (first | exact HW2.out.quiet HK3.out | exact HW2.out.quiet HK3.out.drew); (show _ ≤ w3.heap.size; omega); rintro e w4 ⟨v4, rfl, hr4, hk4⟩; have hk4' : Keeps (fun _ => False) w3 w4 := (by first | exact hk4 | exact (Keeps.refl (fun _ => False) w3).drew.trans hk4); have hs4 := hk4'.size; have HK4 := Lib.hid hk4'; obtain ⟨g4, cap4, rfl, hcap4, hmx4, hg4, hrow4⟩ := hr4.form HO.out.n1; have HR4 := Lib.hid hr4; obtain ⟨n0, n1, n2, n3, n4, n5⟩ := two_of (hk4'.blk (HK3.out.blk (HK2.out.blk (HK1.out.blk T1.out id) id) id) id) (hk4'.blk (HK3.out.blk (HK2.out.blk (HK1.out.blk T2.out id) id) id) id); clear hk4 hk4' hr4 hrow4))
  all_goals
    go_wp2_with fail
    have hr5 : RefAt base w4 (.agg #[.int .i64 (k.N : Int), .slice (some ⟨g4, 0, none⟩) k.n cap4]) k.N k.n (upd ls j (x :: (xs ++ ys))) := (HR4.out.base (by omega)).congr fun z hz => by
      by_cases e : z = j
      · subst e; rw [upd_same, upd_same, wo_split (HO.out.nodup z hz) HS.out]
      · rw [upd_ne _ _ e, upd_ne _ _ e]; exact wo_not fun hm => e (HO.out.apart z j x hz hj hm HMEM.out)
    obtain ⟨z0, z1, hr, hk⟩ := fin2 (k := k) (a := .int .i64 (k.N : Int)) (b := .slice (some ⟨g4, 0, none⟩) k.n cap4) (Nat.le_refl _) (HK4.out.blk (HK3.out.blk (HK2.out.blk (HK1.out.blk T2.out id) id) id) id) hr5 ((((HK0.out.trans HK1.out).trans HK2.out).trans HK3.out).trans HK4.out)
    first
      | exact bodyPost_ret (v := .tuple #[.agg #[.int .i64 (k.N : Int), .slice (some ⟨g4, 0, none⟩) k.n cap4], .int .i64 0]) (by simp [results, Try.f23, go_sem, z0, z1]) rfl ⟨_, rfl, hr, hk⟩
      | exact bodyPost_ret (v := .tuple #[.agg #[.int .i64 (k.N : Int), .slice (some ⟨g4, 0, none⟩) k.n cap4], .int .i64 0]) (by simp [results, Try.f23, go_sem, z0, z1]) rfl ⟨_, rfl, hr.quiet (Keeps.refl _ _).drew, hk.drew⟩
end Go.Proofs.Ythnagihgjenimaa
