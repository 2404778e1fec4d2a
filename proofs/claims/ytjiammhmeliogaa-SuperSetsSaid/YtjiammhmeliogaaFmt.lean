/- super: Format. -/
import Derived.Test.YtjiammhmeliogaaDr
namespace Go.Proofs.Ytjiammhmeliogaa
open Go.RowKit
set_option linter.unusedVariables false
set_option linter.unusedSimpArgs false
attribute [local go_sem ↓] exec_load27 exec_store27 exec_new27 exec_alloc27 exec_build27 zeroValue27
attribute [local go_sem] padr_some rowAt_drew hasRow_drew mayRow_drew run_cells27

/-- A disk that works. -/
structure Alive (D : DD) : Prop where
  dead : D.dead = false
  armed : D.armed = false
  fails : D.fails = 0
theorem Alive.ready {D : DD} (h : Alive D) {i : Int} (h0 : 0 ≤ i) (h1 : i < (D.n : Int)) : D.ready i = (0, D) := by
  unfold DD.ready
  rw [if_neg (by rw [h.dead]; simp), if_neg (by omega), if_neg (by rw [h.fails]; omega), if_neg (by rw [h.fails]; omega)]
def DD.wrote (D : DD) (i : Int) (b : List Int) : DD := { D with ops := D.ops + 1, p := D.p ++ [(i.toNat, b)] }
def DD.settled (D : DD) : DD := { D with ops := D.ops + 1, f := setl (fun _ => true) 0 D.p D.f, p := [] }
theorem Alive.write {D : DD} (h : Alive D) {i : Int} (h0 : 0 ≤ i) (h1 : i < (D.n : Int)) (b : List Int) : D.write i b = (0, D.wrote i b) := by
  unfold DD.write DD.wrote DD.done
  rw [h.ready h0 h1]
  simp [h.armed]
theorem Alive.sync {D : DD} (h : Alive D) (h1 : 1 ≤ D.n) : D.sync = (0, D.settled) := by
  unfold DD.sync DD.settled DD.synced DD.done
  rw [h.ready (Int.le_refl 0) (by omega)]
  simp [h.armed]
theorem Alive.wrote {D : DD} (h : Alive D) (i : Int) (b : List Int) : Alive (D.wrote i b) := ⟨h.dead, h.armed, h.fails⟩
theorem Alive.settled {D : DD} (h : Alive D) : Alive D.settled := ⟨h.dead, h.armed, h.fails⟩
/-- What New leaves. -/
def SX.first (s c : Int) : SX := ⟨s, c, 0, 0, 0, 0⟩
theorem first_wf (s c : Int) : (SX.first s c).Wf := by
  constructor <;> exact ⟨Int.le_refl 0, show (0 : Int) ≤ 18446744073709551615 by decide⟩
def fmtD (n : Nat) (s c : Int) : DD := (((DD.fresh n).wrote 0 (sup (SX.first s c) 0)).wrote 1 zb).settled
theorem fresh_live (n : Nat) : Alive (DD.fresh n) := ⟨rfl, rfl, rfl⟩
theorem fmt_live (n : Nat) (s c : Int) : Alive (fmtD n s c) := (((fresh_live n).wrote _ _).wrote _ _).settled
def BadP (c : Int) (w : World) (e : Ending) (w' : World) : Prop := e = .returned (.tuple #[.pointer none, .int .i64 c]) ∧ Keeps (fun _ => False) w w'
/-- A store's cells, its disk at B. -/
def stp (x : SX) (t : Int) (B : Nat) : List Value := stc x t ⟨B, undef, undef⟩
theorem u64_0 : u64 0 := ⟨Int.le_refl 0, by decide⟩
theorem fmt_enc (s c : Int) (W : World) : Calls Try.prog 44 #[.agg #[.int .i64 s, .int .i64 c, .int .u64 0, .int .u64 0, .int .u64 0, .int .u64 0], .int .u64 0] W (EncP (SX.first s c) 0 W) :=
  encode_any (SX.first s c) (first_wf s c) 0 u64_0 W
set_option maxHeartbeats 1000000 in
/-- What may not be is refused. -/
theorem format_bad (B : Nat) (s c : Int) (hm : (SX.first s c).mayB = false) (w : World) : Calls Try.prog 39 #[.pointer (some ⟨B, 0, none⟩), .int .i64 s, .int .i64 c] w (BadP 2 w) := by
  have HE := Lib.hid (fmt_enc s c)
  unfold EncP at HE
  simp only [hm, Bool.false_eq_true, if_false] at HE
  have h1 : Keeps (fun _ => False) w (w.alloc (.cells (stp (SX.first s c) 0 B).toArray 114)) := (Keeps.refl _ _).alloc _
  have hb := Blk.new w 114 (stp (SX.first s c) 0 B)
  unfold stp stc SX.first DL.ptr at h1 hb
  simp only at h1 hb
  have x0 := hb.cell (i := 0) rfl
  have x1 := hb.cell (i := 1) rfl
  have x2 := hb.cell (i := 2) rfl
  have x3 := hb.cell (i := 3) rfl
  have x4 := hb.cell (i := 4) rfl
  have x5 := hb.cell (i := 5) rfl
  have H1 := Lib.hid h1
  clear h1 hb
  go_enter Try.func39, Try.ntmps39
  go_wp2_with fail
  refine (HE.out _).mono ?_
  rintro e w2 ⟨rfl, hk2⟩
  have hz64 : (bk zb).toArray.size = 64 := by simp [bk_len, zb_len]
  have hone : oneAll (bk zb).toArray = true := one_bk _
  go_wp2_with fail
  refine bodyPost_ret (v := .tuple #[.pointer none, .int .i64 2]) (by simp [results, Try.f39, go_sem]) rfl ⟨rfl, (H1.out.trans hk2).alloc _⟩
/-- There is no room. -/
theorem format_small {w0 w : World} {R : Nat → Prop} {B : Nat} {D : DD} (h : Dr w0 w R B D) (s c : Int) (hm : (SX.first s c).may) (hn : (D.n : Int) < 2 + s * c) : Calls Try.prog 39 #[.pointer (some ⟨B, 0, none⟩), .int .i64 s, .int .i64 c] w (BadP 170 w) := by
  have HE := Lib.hid (fmt_enc s c)
  unfold EncP at HE
  simp only [(mayB_iff _).2 hm, if_true] at HE
  have h1 : Keeps (fun _ => False) w (w.alloc (.cells (stp (SX.first s c) 0 B).toArray 114)) := (Keeps.refl _ _).alloc _
  have hb := Blk.new w 114 (stp (SX.first s c) 0 B)
  have HRM : Hid (∀ W, Keeps (fun _ => False) w W → Calls Try.prog 69 #[.pointer (some ⟨B, 0, none⟩), .agg #[.int .i64 s, .int .i64 c, .int .u64 0, .int .u64 0, .int .u64 0, .int .u64 0]] W (BoolP false W)) := Lib.hid (fun W hk => by
    have := (h.quiet hk).room (SX.first s c) hm
    rwa [decide_eq_false (show ¬ 2 + (SX.first s c).sg * (SX.first s c).sc ≤ (D.n : Int) from by show ¬ 2 + s * c ≤ (D.n : Int); omega)] at this)
  unfold stp stc SX.first DL.ptr at h1 hb
  simp only at h1 hb
  have x0 := hb.cell (i := 0) rfl
  have x1 := hb.cell (i := 1) rfl
  have x2 := hb.cell (i := 2) rfl
  have x3 := hb.cell (i := 3) rfl
  have x4 := hb.cell (i := 4) rfl
  have x5 := hb.cell (i := 5) rfl
  have H1 := Lib.hid h1
  have HB := Lib.hid hb
  obtain ⟨Z, hZ⟩ : ∃ Z : List Int, Z = sup (SX.first s c) 0 := ⟨_, rfl⟩
  have hZl : Z.length = 64 := by rw [hZ]; exact sup_len _ _
  unfold SX.first at hZ
  unfold SX.first at HE
  rw [← hZ] at HE
  clear h1 hb hZ h hm hn
  go_enter Try.func39, Try.ntmps39
  go_wp2_with fail
  refine (HE.out _).mono ?_
  rintro e w2 ⟨rfl, hk2⟩
  have hz64 : (bk zb).toArray.size = 64 := by simp [bk_len, zb_len]
  have hone : oneAll (bk Z).toArray = true := one_bk _
  have hzz : (bk Z).length = 64 := by rw [bk_len, hZl]
  have k3 : Keeps (fun _ => False) w2 (w2.alloc (.cells (bk Z).toArray 27)) := (Keeps.refl _ _).alloc _
  have hb3 := (hk2.trans k3).blk HB.out id
  have y0 := hb3.cell (i := 0) rfl
  have y1 := hb3.cell (i := 1) rfl
  have y2 := hb3.cell (i := 2) rfl
  have y3 := hb3.cell (i := 3) rfl
  have y4 := hb3.cell (i := 4) rfl
  have y5 := hb3.cell (i := 5) rfl
  have HK3 := Lib.hid ((H1.out.trans hk2).trans k3)
  clear hk2 k3 hb3
  go_wp2_with fail
  refine (HRM.out _ HK3.out).mono ?_
  rintro e w4 ⟨rfl, hk4⟩
  go_wp2_with fail
  refine bodyPost_ret (v := .tuple #[.pointer none, .int .i64 170]) (by simp [results, Try.f39, go_sem]) rfl ⟨rfl, HK3.out.trans hk4⟩
/-- The disk is formatted. -/
def FmtP (w0 : World) (R : Nat → Prop) (B n : Nat) (s c : Int) (w : World) (e : Ending) (w' : World) : Prop := ∃ S, e = .returned (.tuple #[.pointer (some ⟨S, 0, none⟩), .int .i64 0]) ∧ Dr w0 w' (fun k => R k ∨ k = S) B (fmtD n s c) ∧ Blk w' S 114 (stp (SX.first s c) 0 B) ∧ Keeps (fun k => ¬ R k) w w'
theorem format_ok {w0 w : World} {R : Nat → Prop} {B n : Nat} (h : Dr w0 w R B (DD.fresh n)) (s c : Int) (hm : (SX.first s c).may) (hn : 2 + s * c ≤ (n : Int)) : Calls Try.prog 39 #[.pointer (some ⟨B, 0, none⟩), .int .i64 s, .int .i64 c] w (FmtP w0 R B n s c w) := by
  have hn2 : 2 ≤ n := by
    have := Int.mul_nonneg (show 0 ≤ s from by have : 4 ≤ s := hm.1; omega) (show 0 ≤ c from by have : 24 ≤ c := hm.2.2.1; omega)
    omega
  have HE := Lib.hid (fmt_enc s c)
  unfold EncP at HE
  simp only [(mayB_iff _).2 hm, if_true] at HE
  have h1 : Keeps (fun _ => False) w (w.alloc (.cells (stp (SX.first s c) 0 B).toArray 114)) := (Keeps.refl _ _).alloc _
  have hb := Blk.new w 114 (stp (SX.first s c) 0 B)
  have hd1 := h.more h1
  have HRM : Hid (∀ W, Keeps (fun _ => False) w W → Calls Try.prog 69 #[.pointer (some ⟨B, 0, none⟩), .agg #[.int .i64 s, .int .i64 c, .int .u64 0, .int .u64 0, .int .u64 0, .int .u64 0]] W (BoolP true W)) := Lib.hid (fun W hk => by
    have := (h.quiet hk).room (SX.first s c) hm
    rwa [decide_eq_true (show 2 + (SX.first s c).sg * (SX.first s c).sc ≤ ((DD.fresh n).n : Int) from hn)] at this)
  unfold stp stc SX.first DL.ptr at h1 hb hd1
  simp only at h1 hb hd1
  have x0 := hb.cell (i := 0) rfl
  have x1 := hb.cell (i := 1) rfl
  have x2 := hb.cell (i := 2) rfl
  have x3 := hb.cell (i := 3) rfl
  have x4 := hb.cell (i := 4) rfl
  have x5 := hb.cell (i := 5) rfl
  have H1 := Lib.hid h1
  have HB := Lib.hid hb
  obtain ⟨Z, hZ⟩ : ∃ Z : List Int, Z = sup (SX.first s c) 0 := ⟨_, rfl⟩
  have hZl : Z.length = 64 := by rw [hZ]; exact sup_len _ _
  have HZ := Lib.hid hZ
  unfold SX.first at hZ
  unfold SX.first at HE
  rw [← hZ] at HE
  have hd2 := hd1.less (R' := fun k => R k ∨ k = w.heap.size) (fun k hr => hr.imp id fun e => ⟨Nat.le_of_eq e.symm, by rw [e]; simp⟩)
  have HD := Lib.hid hd2
  clear h1 hb hZ h hm hn hd1 hd2
  go_enter Try.func39, Try.ntmps39
  go_wp2_with fail
  refine (HE.out _).mono ?_
  rintro e w2 ⟨rfl, hk2⟩
  have hz64 : (bk zb).toArray.size = 64 := by simp [bk_len, zb_len]
  have hone : oneAll (bk Z).toArray = true := one_bk _
  have hzz : (bk Z).length = 64 := by rw [bk_len, hZl]
  have k3 : Keeps (fun _ => False) w2 (w2.alloc (.cells (bk Z).toArray 27)) := (Keeps.refl _ _).alloc _
  have hb3 := (hk2.trans k3).blk HB.out id
  have y0 := hb3.cell (i := 0) rfl
  have y1 := hb3.cell (i := 1) rfl
  have y2 := hb3.cell (i := 2) rfl
  have y3 := hb3.cell (i := 3) rfl
  have y4 := hb3.cell (i := 4) rfl
  have y5 := hb3.cell (i := 5) rfl
  have HD3 := Lib.hid (HD.out.quiet (hk2.trans k3))
  have HB3 := Lib.hid hb3
  have HBZ := Lib.hid (Blk.new w2 27 (bk Z))
  have HK3 := Lib.hid ((H1.out.trans hk2).trans k3)
  clear hk2 k3 hb3
  go_wp2_with fail
  refine (HRM.out _ HK3.out).mono ?_
  rintro e w4 ⟨rfl, hk4⟩
  obtain ⟨r1, r2, r3⟩ := blkRow (hk4.blk HBZ.out id) (n := 64) hzz
  have HD4 := Lib.hid (HD3.out.quiet hk4)
  have HB4 := Lib.hid (hk4.blk HB3.out id)
  have HK4 := Lib.hid (HK3.out.trans hk4)
  have HW := Lib.hid (HD4.out.write (m := 900) ((fresh_fine n).less (by omega)) 0 Z hZl)
  rw [(fresh_live n).write (Int.le_refl 0) (by show (0 : Int) < (n : Int); omega)] at HW
  clear hk4
  go_wp2_with fail
  refine HW.out.mono ?_
  rintro e w5 ⟨rfl, hd5, hk5⟩
  have HB5 := Lib.hid (hk5.blk HB4.out (fun hn => hn (.inr rfl)))
  have HK5 := Lib.hid ((HK4.out.mono (S' := fun k => ¬ R k) fun _ _ h => h.elim).trans (hk5.mono fun k _ hn hr => hn (.inl hr)))
  have hf5 : Fine 900 ((DD.fresh n).wrote 0 Z) := by
    have := ((fresh_fine n).less (j := 901) (by omega)).write 0 Z
    rwa [(fresh_live n).write (Int.le_refl 0) (by show (0 : Int) < (n : Int); omega)] at this
  have HW2 := Lib.hid (hd5.write (m := 800) (hf5.less (by omega)) 1 zb zb_len)
  rw [((fresh_live n).wrote 0 Z).write (by omega) (by show (1 : Int) < (n : Int); omega)] at HW2
  clear hk5 hd5 HW
  go_wp2_with fail
  refine HW2.out.mono ?_
  rintro e w6 ⟨rfl, hd6, hk6⟩
  have HB6 := Lib.hid (hk6.blk HB5.out (fun hn => hn (.inr rfl)))
  have HK6 := Lib.hid (HK5.out.trans (hk6.mono fun k _ hn hr => hn (.inl hr)))
  have hf6 : Fine 800 (((DD.fresh n).wrote 0 Z).wrote 1 zb) := by
    have := (hf5.less (j := 801) (by omega)).write 1 zb
    rwa [((fresh_live n).wrote 0 Z).write (by omega) (by show (1 : Int) < (n : Int); omega)] at this
  have HS := Lib.hid (hd6.sync (m := 700) (hf6.less (by omega)))
  rw [(((fresh_live n).wrote 0 Z).wrote 1 zb).sync (by show 1 ≤ n; omega)] at HS
  clear hk6 hd6 HW2
  go_wp2_with fail
  refine HS.out.mono ?_
  rintro e w7 ⟨rfl, hd7, hk7⟩
  have hb7 := hk7.blk HB6.out (fun hn => hn (.inr rfl))
  have hkk := HK6.out.trans (hk7.mono (S' := fun k => ¬ R k) fun k _ hn hr => hn (.inl hr))
  go_wp2_with fail
  refine bodyPost_ret (v := .tuple #[.pointer (some ⟨w.heap.size, 0, none⟩), .int .i64 0]) (by simp [results, Try.f39, go_sem]) rfl ⟨w.heap.size, rfl, ?_, hb7, hkk⟩
  unfold fmtD
  rw [← HZ.out]
  exact hd7
end Go.Proofs.Ytjiammhmeliogaa
