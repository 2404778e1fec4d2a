/- icehouseref12: new lists; Push, Touch, Remove do what the lists' own calls do. -/
import Derived.Test.YthnagihgjenimaaRef3
import Derived.Test.YthnagihgjenimaaSteps
namespace Go.Proofs.Ythnagihgjenimaa
open Go.RowKit
set_option linter.unusedVariables false

def nils (n : Nat) : List Value := List.replicate n (.slice none 0 0)
theorem made_nils (n : Nat) : madeCells #[.slice none 0 0] n = (nils n).toArray := by
  apply Array.ext'
  rw [toList_madeCells_one]
  simp [nils]

theorem make_nils (n : Nat) (hn : n ≤ 64) (w : World) : (Instr.makeSlice 48 (.int .i64 (n : Int)) (.int .i64 (n : Int))).run Try.prog w = .ok (.slice (some ⟨w.heap.size, 0, none⟩) n n) (w.alloc (.cells (nils n).toArray 43)) := by
  rw [← made_nils]
  exact run_make_row' 48 43 (.slice none 0 0) 24 Try.underlying48 info43 rfl .i64 .i64 n (by omega) (by omega) w

def RNext (base : Nat) (N n : Nat) (ls : Nat → List Nat) (w : World) (e : Ending) (w' : World) : Prop := ∃ v', e = .returned v' ∧ RefAt base w' v' N n ls ∧ Keeps (fun _ => False) w w'

theorem rnew_any (w : World) (N n : Nat) (hn : 1 ≤ n) (hn2 : n ≤ 64) : Calls Try.prog 21 #[.int .i64 N, .int .i64 n] w (RNext w.heap.size N n (fun _ => []) w) := by
  have hmk := make_nils n hn2 (w.alloc (.cells #[.int .i64 0, .slice none 0 0] 50))
  go_enter Try.func21, Try.ntmps21
  go_wp2
  obtain ⟨F, hF⟩ : ∃ F, F = (w.alloc (.cells #[.int .i64 (N : Int), .slice (some ⟨w.heap.size + 1, 0, none⟩) n n] 50)).alloc (.cells (nils n).toArray 43) := ⟨_, rfl⟩
  have hb1 : Blk F w.heap.size 50 [.int .i64 (N : Int), .slice (some ⟨w.heap.size + 1, 0, none⟩) n n] := by subst hF; exact (Blk.new w 50 [.int .i64 (N : Int), .slice (some ⟨w.heap.size + 1, 0, none⟩) n n]).alloc _
  have hb2 : F.heap[w.heap.size + 1]? = some (.cells (nils n).toArray 43 (0, 0)) := by
    subst hF
    have := heap_alloc_new (w.alloc (.cells #[.int .i64 (N : Int), .slice (some ⟨w.heap.size + 1, 0, none⟩) n n] 50)) (.cells (nils n).toArray 43)
    rwa [World.size_alloc] at this
  have hk : Keeps (fun _ => False) w F := by subst hF; exact ((Keeps.refl _ w).alloc _).alloc _
  rw [← hF]
  have e0 := hb1.cell (i := 0) rfl
  have e1 := hb1.cell (i := 1) rfl
  clear hF
  refine bodyPost_ret (v := .agg #[.int .i64 (N : Int), .slice (some ⟨w.heap.size + 1, 0, none⟩) n n]) (by simp [results, Try.f21, go_sem, e0, e1]) rfl ⟨_, rfl, ⟨_, nils n, rfl, ?_, fun i hi => ?_⟩, hk⟩
  · exact ⟨by simp [nils], .inr ⟨w.heap.size + 1, n, (nils n).toArray, rfl, Nat.le_succ _, hb2, Nat.le_refl _, by unfold maxLen; omega, by simp [nils], by simp [nils]⟩⟩
  · exact ⟨.slice none 0 0, by simp [nils, hi], World.ownsRow_nil _ _ _ _⟩

/-- What holds of all lists. -/
structure LsOk (k : LK) (ls : Nat → List Nat) : Prop where
  n1 : 1 ≤ k.n
  n2 : k.n ≤ 64
  N2 : k.N ≤ 65536
  nodup : ∀ i, i < k.n → (ls i).Nodup
  apart : ∀ i j x, i < k.n → j < k.n → x ∈ ls i → x ∈ ls j → i = j
  lt : ∀ i x, i < k.n → x ∈ ls i → x < k.N
  len : ∀ i, i < k.n → (ls i).length ≤ 65536

theorem LK.Has.ok {k : LK} {w : World} {ls : Nat → List Nat} (h : k.Has w ls) : LsOk k ls :=
  ⟨h.bounds.2.2.1, h.bounds.2.2.2, h.bounds.2.1, fun i hi => h.nodup hi, fun i j x hi hj hx hy => h.apart hi hj hx hy, fun i x hi hx => h.mem_lt hi hx, fun i hi => Nat.le_trans (h.len_le hi) h.bounds.2.1⟩

theorem wo_not {ls : Nat → List Nat} {x i : Nat} (h : x ∉ ls i) : wo ls x i = ls i := by
  unfold wo
  rw [List.filter_eq_self]
  intro z hz
  rw [bne_iff_ne]
  rintro rfl
  exact h hz

theorem wo_split {ls : Nat → List Nat} {x i : Nat} {xs ys : List Nat} (hn : (ls i).Nodup) (hl : ls i = xs ++ x :: ys) : wo ls x i = xs ++ ys := by
  rw [hl] at hn
  unfold wo
  rw [hl]
  obtain ⟨h1, h2, h3⟩ := List.nodup_append.1 hn
  have hx : x ∉ xs := fun h => h3 x h x (List.mem_cons_self ..) rfl
  have hy : x ∉ ys := (List.nodup_cons.1 h2).1
  rw [List.filter_append, List.filter_cons]
  simp only [bne_self_eq_false, Bool.false_eq_true, if_false]
  congr 1
  · rw [List.filter_eq_self]; intro z hz; rw [bne_iff_ne]; rintro rfl; exact hx hz
  · rw [List.filter_eq_self]; intro z hz; rw [bne_iff_ne]; rintro rfl; exact hy hz

def RPost (k : LK) (base : Nat) (c : Int) (ls' : Nat → List Nat) (w : World) (e : Ending) (w' : World) : Prop :=
  ∃ v', e = .returned (.tuple #[v', .int .i64 c]) ∧ RefAt base w' v' k.N k.n ls' ∧ Keeps (fun _ => False) w w'

/-- Two boxes: the receiver's and the result's. -/
structure Two (W : World) (B : Nat) (a b c d : Value) : Prop where
  c0 : W.cell? ⟨B, 0, none⟩ = some a
  c1 : W.cell? ⟨B, 1, none⟩ = some b
  r0 : W.cell? ⟨B + 1, 0, none⟩ = some c
  r1 : W.cell? ⟨B + 1, 1, none⟩ = some d
  f0 : W.frozen? ⟨B + 1, 0, none⟩ = false
  f1 : W.frozen? ⟨B + 1, 1, none⟩ = false

theorem two_of {W : World} {B : Nat} {a b c d : Value} (h1 : Blk W B 50 [a, b]) (h2 : Blk W (B + 1) 50 [c, d]) : Two W B a b c d :=
  ⟨h1.cell rfl, h1.cell rfl, h2.cell rfl, h2.cell rfl, h2.free 0, h2.free 1⟩

theorem two_new (w : World) (a b c d : Value) : Blk ((w.alloc (.cells #[a, b] 50)).alloc (.cells #[c, d] 50)) w.heap.size 50 [a, b] ∧ Blk ((w.alloc (.cells #[a, b] 50)).alloc (.cells #[c, d] 50)) (w.heap.size + 1) 50 [c, d] := by
  refine ⟨(Blk.new w 50 [a, b]).alloc _, ?_⟩
  have := Blk.new (w.alloc (.cells #[a, b] 50)) 50 [c, d]
  rwa [World.size_alloc] at this

/-- The result's box is filled. -/
structure Fin2 (base : Nat) (w W F : World) (B : Nat) (a b v : Value) (k : LK) (ls : Nat → List Nat) : Prop where
  c0 : F.cell? ⟨B + 1, 0, none⟩ = some a
  c1 : F.cell? ⟨B + 1, 1, none⟩ = some b
  ref : RefAt base F v k.N k.n ls
  keeps : Keeps (fun _ => False) w F

theorem fin2 {base : Nat} {w W : World} {B : Nat} {a b c d v : Value} {k : LK} {ls : Nat → List Nat} (hB : w.heap.size ≤ B) (h2 : Blk W (B + 1) 50 [c, d]) (hr : RefAt base W v k.N k.n ls) (hk : Keeps (fun _ => False) w W) :
    Fin2 base w W ((W.setCell ⟨B + 1, 0, none⟩ a).setCell ⟨B + 1, 1, none⟩ b) B a b v k ls := by
  have hf := (h2.store 0 a).store 1 b
  have hs : Keeps (fun k => k = B + 1) W ((W.setCell ⟨B + 1, 0, none⟩ a).setCell ⟨B + 1, 1, none⟩ b) :=
    ((Keeps.refl (fun k => k = B + 1) W).store (p := ⟨B + 1, 0, none⟩) (.inl rfl) a).store (p := ⟨B + 1, 1, none⟩) (.inl rfl) b
  refine ⟨hf.cell (i := 0) rfl, hf.cell (i := 1) rfl, hr.keep hs fun g cur t _ ht hc e => ?_, ?_⟩
  · rw [show g = B + 1 from e] at hc
    have := blk_not_own h2 hc
    rcases ht with rfl | rfl <;> cases this
  · exact ((hk.mono (S' := fun k => w.heap.size ≤ k) fun _ _ h => h.elim).trans (hs.mono fun k _ h => by
      have h' : k = B + 1 := h
      show w.heap.size ≤ k
      omega)).mono fun k hk h => absurd h (Nat.not_le.2 hk)

set_option maxHeartbeats 1000000 in
theorem rpush_bad (k : LK) (base : Nat) (w : World) (v : Value) (ls : Nat → List Nat) (h : RefAt base w v k.N k.n ls) (ho : LsOk k ls) (i x : Int) (hno : ¬ okLN k i x) :
    Calls Try.prog 22 #[v, .int .i64 i, .int .i64 x] w (RPost k base 2 ls w) := by
  have HR := Lib.hid h
  have HO := Lib.hid ho
  obtain ⟨g, cap, rfl, hcap, hmx, hg, hrow⟩ := h.form ho.n1
  obtain ⟨t1, t2⟩ := two_new w (.int .i64 (k.N : Int)) (.slice (some ⟨g, 0, none⟩) k.n cap) (.int .i64 0) (.slice none 0 0)
  have hk0 : Keeps (fun _ => False) w ((w.alloc (.cells #[.int .i64 (k.N : Int), .slice (some ⟨g, 0, none⟩) k.n cap] 50)).alloc (.cells #[.int .i64 0, .slice none 0 0] 50)) := ((Keeps.refl _ w).alloc _).alloc _
  have hs : ((w.alloc (.cells #[.int .i64 (k.N : Int), .slice (some ⟨g, 0, none⟩) k.n cap] 50)).alloc (.cells #[.int .i64 0, .slice none 0 0] 50)).heap.size = w.heap.size + 2 := by simp
  clear hrow h ho
  have HNO := Lib.hid hno
  clear hno
  go_enter Try.func22, Try.ntmps22
  go_wp2_with fail
  generalize (w.alloc (.cells #[.int .i64 (k.N : Int), .slice (some ⟨g, 0, none⟩) k.n cap] 50)).alloc (.cells #[.int .i64 0, .slice none 0 0] 50) = W0 at t1 t2 hk0 hs ⊢
  have T1 := Lib.hid t1
  have T2 := Lib.hid t2
  have HK0 := Lib.hid hk0
  have hsz : w.heap.size + 2 ≤ W0.heap.size := by omega
  clear t1 t2 hk0 hs
  refine (rlist_any base W0 _ k.N k.n ls (HR.out.quiet HK0.out) HO.out.n1 i).mono ?_
  rintro e w1 ⟨rfl, hk1⟩
  have hs1 := hk1.size
  have HK1 := Lib.hid hk1
  clear hk1
  obtain ⟨c0, c1, r0, r1, f0, f1⟩ := two_of (HK1.out.blk T1.out id) (HK1.out.blk T2.out id)
  have hlist : listB k.n i = true → listB k.N x = false := by
    intro h
    unfold listB at h ⊢
    simp at h
    simp
    intro h0
    have h1 := HNO.out
    unfold okLN at h1
    omega
  have HLIST := Lib.hid hlist
  clear hlist
  cases hb : listB k.n i
  · clear hb
    go_wp2_with fail
    obtain ⟨z0, z1, hr, hk⟩ := fin2 (k := k) (a := .int .i64 (k.N : Int)) (b := .slice (some ⟨g, 0, none⟩) k.n cap) (Nat.le_refl _) (HK1.out.blk T2.out id) ((HR.out.quiet HK0.out).quiet HK1.out) (HK0.out.trans HK1.out)
    exact bodyPost_ret (v := .tuple #[.agg #[.int .i64 (k.N : Int), .slice (some ⟨g, 0, none⟩) k.n cap], .int .i64 2]) (by simp [results, Try.f22, go_sem, z0, z1]) rfl ⟨_, rfl, hr, hk⟩
  · have HN := Lib.hid (HLIST.out hb)
    clear hb
    go_wp2_with fail
    refine (rnumber_any base w1 _ k.N k.n ls ((HR.out.quiet HK0.out).quiet HK1.out) HO.out.n1 x).mono ?_
    rw [HN.out]
    rintro e w2 ⟨rfl, hk2⟩
    have hs2 := hk2.size
    have HK2 := Lib.hid hk2
    clear hk2 c0 c1 r0 r1 f0 f1
    obtain ⟨c0, c1, r0, r1, f0, f1⟩ := two_of (HK2.out.blk (HK1.out.blk T1.out id) id) (HK2.out.blk (HK1.out.blk T2.out id) id)
    go_wp2_with fail
    obtain ⟨z0, z1, hr, hk⟩ := fin2 (k := k) (a := .int .i64 (k.N : Int)) (b := .slice (some ⟨g, 0, none⟩) k.n cap) (Nat.le_refl _) (HK2.out.blk (HK1.out.blk T2.out id) id) (((HR.out.quiet HK0.out).quiet HK1.out).quiet HK2.out) ((HK0.out.trans HK1.out).trans HK2.out)
    exact bodyPost_ret (v := .tuple #[.agg #[.int .i64 (k.N : Int), .slice (some ⟨g, 0, none⟩) k.n cap], .int .i64 2]) (by simp [results, Try.f22, go_sem, z0, z1]) rfl ⟨_, rfl, hr, hk⟩
set_option maxHeartbeats 1000000 in
theorem rpush_there (k : LK) (base : Nat) (w : World) (v : Value) (ls : Nat → List Nat) (h : RefAt base w v k.N k.n ls) (ho : LsOk k ls) (hbase : base ≤ w.heap.size) (i x : Nat) (hi : i < k.n) (hx : x < k.N) (j : Nat) (hj : j < k.n) (hm : x ∈ ls j) :
    Calls Try.prog 22 #[v, .int .i64 i, .int .i64 x] w (RPost k base 5 ls w) := by
  have HR := Lib.hid h
  have HO := Lib.hid ho
  obtain ⟨g, cap, rfl, hcap, hmx, hg, hrow⟩ := h.form ho.n1
  obtain ⟨t1, t2⟩ := two_new w (.int .i64 (k.N : Int)) (.slice (some ⟨g, 0, none⟩) k.n cap) (.int .i64 0) (.slice none 0 0)
  have hk0 : Keeps (fun _ => False) w ((w.alloc (.cells #[.int .i64 (k.N : Int), .slice (some ⟨g, 0, none⟩) k.n cap] 50)).alloc (.cells #[.int .i64 0, .slice none 0 0] 50)) := ((Keeps.refl _ w).alloc _).alloc _
  have hs : ((w.alloc (.cells #[.int .i64 (k.N : Int), .slice (some ⟨g, 0, none⟩) k.n cap] 50)).alloc (.cells #[.int .i64 0, .slice none 0 0] 50)).heap.size = w.heap.size + 2 := by simp
  have HL : Hid (listB k.n i = true) := Lib.hid (by unfold listB; simp; exact hi)
  have HN : Hid (listB k.N x = true) := Lib.hid (by unfold listB; simp; exact hx)
  clear hrow h ho
  have HM := Lib.hid hm
  clear hm
  go_enter Try.func22, Try.ntmps22
  go_wp2_with fail
  generalize (w.alloc (.cells #[.int .i64 (k.N : Int), .slice (some ⟨g, 0, none⟩) k.n cap] 50)).alloc (.cells #[.int .i64 0, .slice none 0 0] 50) = W0 at t1 t2 hk0 hs ⊢
  have T1 := Lib.hid t1
  have T2 := Lib.hid t2
  have HK0 := Lib.hid hk0
  have hsz : w.heap.size + 2 ≤ W0.heap.size := by omega
  clear t1 t2 hk0 hs
  refine (rlist_any base W0 _ k.N k.n ls (HR.out.quiet HK0.out) HO.out.n1 i).mono ?_
  rw [HL.out]
  rintro e w1 ⟨rfl, hk1⟩
  have hs1 := hk1.size
  have HK1 := Lib.hid hk1
  clear hk1
  obtain ⟨c0, c1, r0, r1, f0, f1⟩ := two_of (HK1.out.blk T1.out id) (HK1.out.blk T2.out id)
  go_wp2_with fail
  refine (rnumber_any base w1 _ k.N k.n ls ((HR.out.quiet HK0.out).quiet HK1.out) HO.out.n1 x).mono ?_
  rw [HN.out]
  rintro e w2 ⟨rfl, hk2⟩
  have hs2 := hk2.size
  have HK2 := Lib.hid hk2
  clear hk2 c0 c1 r0 r1 f0 f1
  obtain ⟨c0, c1, r0, r1, f0, f1⟩ := two_of (HK2.out.blk (HK1.out.blk T1.out id) id) (HK2.out.blk (HK1.out.blk T2.out id) id)
  go_wp2_with fail
  refine (where_any base w2 _ k.N k.n ls (((HR.out.quiet HK0.out).quiet HK1.out).quiet HK2.out) HO.out.n1 HO.out.n2 HO.out.len x).mono ?_
  rintro e w3 ⟨r, rfl, hr, hk3⟩
  have hs3 := hk3.size
  have HK3 := Lib.hid hk3
  clear hk3 c0 c1 r0 r1 f0 f1
  obtain ⟨c0, c1, r0, r1, f0, f1⟩ := two_of (HK3.out.blk (HK2.out.blk (HK1.out.blk T1.out id) id) id) (HK3.out.blk (HK2.out.blk (HK1.out.blk T2.out id) id) id)
  obtain ⟨i', rfl⟩ : ∃ i' : Nat, r = i' := by
    rcases hr with ⟨_, hr⟩ | ⟨i', e, _⟩
    · exact absurd HM.out (hr j hj)
    · exact ⟨i', e⟩
  clear hr
  go_wp2_with fail
  obtain ⟨z0, z1, hr, hk⟩ := fin2 (k := k) (a := .int .i64 (k.N : Int)) (b := .slice (some ⟨g, 0, none⟩) k.n cap) (Nat.le_refl _) (HK3.out.blk (HK2.out.blk (HK1.out.blk T2.out id) id) id) ((((HR.out.quiet HK0.out).quiet HK1.out).quiet HK2.out).quiet HK3.out) (((HK0.out.trans HK1.out).trans HK2.out).trans HK3.out)
  exact bodyPost_ret (v := .tuple #[.agg #[.int .i64 (k.N : Int), .slice (some ⟨g, 0, none⟩) k.n cap], .int .i64 5]) (by simp [results, Try.f22, go_sem, z0, z1]) rfl ⟨_, rfl, hr, hk⟩

set_option maxHeartbeats 1000000 in
theorem rpush_new (k : LK) (base : Nat) (w : World) (v : Value) (ls : Nat → List Nat) (h : RefAt base w v k.N k.n ls) (ho : LsOk k ls) (hbase : base ≤ w.heap.size) (i x : Nat) (hi : i < k.n) (hx : x < k.N) (hf : ∀ j, j < k.n → x ∉ ls j) :
    Calls Try.prog 22 #[v, .int .i64 i, .int .i64 x] w (RPost k base 0 (upd ls i (x :: ls i)) w) := by
  have HR := Lib.hid h
  have HO := Lib.hid ho
  obtain ⟨g, cap, rfl, hcap, hmx, hg, hrow⟩ := h.form ho.n1
  obtain ⟨t1, t2⟩ := two_new w (.int .i64 (k.N : Int)) (.slice (some ⟨g, 0, none⟩) k.n cap) (.int .i64 0) (.slice none 0 0)
  have hk0 : Keeps (fun _ => False) w ((w.alloc (.cells #[.int .i64 (k.N : Int), .slice (some ⟨g, 0, none⟩) k.n cap] 50)).alloc (.cells #[.int .i64 0, .slice none 0 0] 50)) := ((Keeps.refl _ w).alloc _).alloc _
  have hs : ((w.alloc (.cells #[.int .i64 (k.N : Int), .slice (some ⟨g, 0, none⟩) k.n cap] 50)).alloc (.cells #[.int .i64 0, .slice none 0 0] 50)).heap.size = w.heap.size + 2 := by simp
  have HL : Hid (listB k.n i = true) := Lib.hid (by unfold listB; simp; exact hi)
  have HN : Hid (listB k.N x = true) := Lib.hid (by unfold listB; simp; exact hx)
  clear hrow h ho
  have HF := Lib.hid hf
  clear hf
  go_enter Try.func22, Try.ntmps22
  go_wp2_with fail
  generalize (w.alloc (.cells #[.int .i64 (k.N : Int), .slice (some ⟨g, 0, none⟩) k.n cap] 50)).alloc (.cells #[.int .i64 0, .slice none 0 0] 50) = W0 at t1 t2 hk0 hs ⊢
  have T1 := Lib.hid t1
  have T2 := Lib.hid t2
  have HK0 := Lib.hid hk0
  have hsz : w.heap.size + 2 ≤ W0.heap.size := by omega
  clear t1 t2 hk0 hs
  refine (rlist_any base W0 _ k.N k.n ls (HR.out.quiet HK0.out) HO.out.n1 i).mono ?_
  rw [HL.out]
  rintro e w1 ⟨rfl, hk1⟩
  have hs1 := hk1.size
  have HK1 := Lib.hid hk1
  clear hk1
  obtain ⟨c0, c1, r0, r1, f0, f1⟩ := two_of (HK1.out.blk T1.out id) (HK1.out.blk T2.out id)
  go_wp2_with fail
  refine (rnumber_any base w1 _ k.N k.n ls ((HR.out.quiet HK0.out).quiet HK1.out) HO.out.n1 x).mono ?_
  rw [HN.out]
  rintro e w2 ⟨rfl, hk2⟩
  have hs2 := hk2.size
  have HK2 := Lib.hid hk2
  clear hk2 c0 c1 r0 r1 f0 f1
  obtain ⟨c0, c1, r0, r1, f0, f1⟩ := two_of (HK2.out.blk (HK1.out.blk T1.out id) id) (HK2.out.blk (HK1.out.blk T2.out id) id)
  go_wp2_with fail
  refine (where_any base w2 _ k.N k.n ls (((HR.out.quiet HK0.out).quiet HK1.out).quiet HK2.out) HO.out.n1 HO.out.n2 HO.out.len x).mono ?_
  rintro e w3 ⟨r, rfl, hr, hk3⟩
  have hs3 := hk3.size
  have HK3 := Lib.hid hk3
  clear hk3 c0 c1 r0 r1 f0 f1
  obtain ⟨c0, c1, r0, r1, f0, f1⟩ := two_of (HK3.out.blk (HK2.out.blk (HK1.out.blk T1.out id) id) id) (HK3.out.blk (HK2.out.blk (HK1.out.blk T2.out id) id) id)
  obtain rfl : r = -1 := by
    rcases hr with ⟨e, _⟩ | ⟨i', _, h1, h2⟩
    · exact e
    · exact absurd h2 (HF.out i' h1)
  clear hr
  have HA := Lib.hid (ahead_any base w3 _ k.N k.n ls ((((HR.out.quiet HK0.out).quiet HK1.out).quiet HK2.out).quiet HK3.out) HO.out.n1 HO.out.n2 HO.out.len (by omega) i x hi)
  go_wp2_with fail
  refine HA.out.mono ?_
  rintro e w4 ⟨v4, rfl, hr4, hk4⟩
  have hs4 := hk4.size
  have HK4 := Lib.hid hk4
  clear hk4 c0 c1 r0 r1 f0 f1
  obtain ⟨c0, c1, r0, r1, f0, f1⟩ := two_of (HK4.out.blk (HK3.out.blk (HK2.out.blk (HK1.out.blk T1.out id) id) id) id) (HK4.out.blk (HK3.out.blk (HK2.out.blk (HK1.out.blk T2.out id) id) id) id)
  have hr5 : RefAt base w4 v4 k.N k.n (upd ls i (x :: ls i)) := (hr4.base (by omega)).congr fun j hj => by
    by_cases e : j = i
    · subst e; rw [upd_same, upd_same, wo_not (HF.out j hj)]
    · rw [upd_ne _ _ e, upd_ne _ _ e, wo_not (HF.out j hj)]
  have HR5 := Lib.hid hr5
  obtain ⟨g4, cap4, rfl, hcap4, hmx4, hg4, hrow4⟩ := hr5.form HO.out.n1
  clear hr4 hr5 hrow4
  go_wp2_with fail
  obtain ⟨z0, z1, hr, hk⟩ := fin2 (k := k) (a := .int .i64 (k.N : Int)) (b := .slice (some ⟨g4, 0, none⟩) k.n cap4) (Nat.le_refl _) (HK4.out.blk (HK3.out.blk (HK2.out.blk (HK1.out.blk T2.out id) id) id) id) HR5.out ((((HK0.out.trans HK1.out).trans HK2.out).trans HK3.out).trans HK4.out)
  exact bodyPost_ret (v := .tuple #[.agg #[.int .i64 (k.N : Int), .slice (some ⟨g4, 0, none⟩) k.n cap4], .int .i64 0]) (by simp [results, Try.f22, go_sem, z0, z1]) rfl ⟨_, rfl, hr, hk⟩

end Go.Proofs.Ythnagihgjenimaa
