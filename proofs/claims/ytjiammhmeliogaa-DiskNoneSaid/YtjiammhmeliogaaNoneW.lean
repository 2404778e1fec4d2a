/- DiskNone, walked: an op on a disk that is not there. -/
import Derived.Test.YtjiammhmeliogaaKeep
namespace Go.Proofs.Ytjiammhmeliogaa
open Go.RowKit
set_option linter.unusedVariables false
set_option linter.unusedSimpArgs false
attribute [local go_sem ↓] exec_load27 exec_store27 exec_build27 exec_alloc27 zeroValue27
attribute [local go_sem] padr_some rowAt_drew hasRow_drew mayRow_drew run_cells27

/-- The answer of a disk that is not there. -/
def NilP (w : World) (e : Ending) (w' : World) : Prop := e = .returned (.tuple #[.agg (bk zb).toArray, .int .i64 1]) ∧ Keeps (fun _ => False) w w'

theorem nil_fin {w W1 W : World} (hk : Keeps (fun _ => False) w W1) (hs : W1.heap.size = w.heap.size + 3) (hb : Blk W1 (w.heap.size + 1) 27 (bk zb)) (hW : Keeps (fun _ => False) W1 W) :
    MayRow W (w.heap.size + 1) 0 64 ∧ Blk (W.setCells (w.heap.size + 1) 0 (bk zb)) (w.heap.size + 1) 27 (bk zb) ∧ Keeps (fun _ => False) w (W.setCells (w.heap.size + 1) 0 (bk zb)) := by
  have hzl : (bk zb).length = 64 := by rw [bk_len, zb_len]
  have hb' := hW.blk hb id
  have hks := setCells_keeps (w.heap.size + 1) (bk zb) 0 W
  refine ⟨fun j hj => ⟨by rw [Nat.zero_add, hb'.cell (List.getElem?_eq_getElem (by omega))]; rfl, by rw [Nat.zero_add]; exact hb'.free j⟩, blk_over hb' rfl, ?_⟩
  refine Keeps.mono (S := fun k => k = w.heap.size + 1) (((hk.trans hW).mono fun _ _ h => h.elim).trans hks) fun k hk' e => ?_
  have e' : k = w.heap.size + 1 := e
  omega

set_option maxHeartbeats 1000000 in
theorem nil_read (w : World) (k a f : Int) (ka : Option Addr) (kn kc : Nat) (hk : opk k = 0) : Calls Try.prog 23 #[.pointer none, .agg (opv k a f (.slice ka kn kc)).toArray] w (NilP w) := by
  obtain ⟨b1, b2, k0, hs0⟩ := does_start w (opv k a f (.slice ka kn kc))
  unfold opv at *
  have HK := Lib.hid (kind_any k a f (.slice ka kn kc))
  rw [hk] at HK
  obtain ⟨W1, hW1⟩ : ∃ W1, W1 = ((w.alloc (.cells #[.int .i64 k, .int .i64 a, .int .u8 f, .slice ka kn kc] 32)).alloc (.cells (bk zb).toArray 27)).alloc (.cells #[.int .i64 k, .int .i64 a, .int .u8 f, .slice ka kn kc] 32) := ⟨_, rfl⟩
  have e1 := b1.cell (i := 1) rfl
  have e3 := b1.cell (i := 3) rfl
  rw [← hW1] at b1 b2 k0 hs0 e1 e3 
  have HB := Lib.hid b1
  have HB2 := Lib.hid b2
  have HK0 := Lib.hid k0
  have HS := Lib.hid hs0
  have HW := Lib.hid hW1
  clear b1 b2 k0 hk hs0 hW1
  go_enter Try.func23, Try.ntmps23
  have hzl : (bk zb).length = 64 := by rw [bk_len, zb_len]
  have hone : oneAll (bk zb).toArray = true := all_oneCell_toArray bk_one
  go_wp2_with fail
  refine (HK.out _).mono ?_
  rintro e w1 ⟨rfl, hw1⟩
  rw [← HW.out] at hw1
  subst hw1
  go_wp2_with fail
  refine (read_nil a _).mono ?_
  rintro e W ⟨rfl, hd⟩
  skip
  obtain ⟨hm, hb, hD⟩ := nil_fin HK0.out HS.out HB2.out hd
  have HF := Lib.hid hb
  have HD := Lib.hid hD
  clear hb hD hd
  go_wp2_with fail
  refine bodyPost_ret (v := .tuple #[.agg (bk zb).toArray, .int .i64 1]) (result27_38 rfl rfl rfl hzl HF.out) rfl ?_
  exact ⟨rfl, HD.out⟩

set_option maxHeartbeats 1000000 in
theorem nil_sync (w : World) (k a f : Int) (ka : Option Addr) (kn kc : Nat) (hk : opk k = 2) : Calls Try.prog 23 #[.pointer none, .agg (opv k a f (.slice ka kn kc)).toArray] w (NilP w) := by
  obtain ⟨b1, b2, k0, hs0⟩ := does_start w (opv k a f (.slice ka kn kc))
  unfold opv at *
  have HK := Lib.hid (kind_any k a f (.slice ka kn kc))
  rw [hk] at HK
  obtain ⟨W1, hW1⟩ : ∃ W1, W1 = ((w.alloc (.cells #[.int .i64 k, .int .i64 a, .int .u8 f, .slice ka kn kc] 32)).alloc (.cells (bk zb).toArray 27)).alloc (.cells #[.int .i64 k, .int .i64 a, .int .u8 f, .slice ka kn kc] 32) := ⟨_, rfl⟩
  have e1 := b1.cell (i := 1) rfl
  have e3 := b1.cell (i := 3) rfl
  rw [← hW1] at b1 b2 k0 hs0 e1 e3 
  have HB := Lib.hid b1
  have HB2 := Lib.hid b2
  have HK0 := Lib.hid k0
  have HS := Lib.hid hs0
  have HW := Lib.hid hW1
  clear b1 b2 k0 hk hs0 hW1
  go_enter Try.func23, Try.ntmps23
  have hzl : (bk zb).length = 64 := by rw [bk_len, zb_len]
  have hone : oneAll (bk zb).toArray = true := all_oneCell_toArray bk_one
  go_wp2_with fail
  refine (HK.out _).mono ?_
  rintro e w1 ⟨rfl, hw1⟩
  rw [← HW.out] at hw1
  subst hw1
  go_wp2_with fail
  refine (sync_nil _).mono ?_
  rintro e W ⟨rfl, hd⟩
  skip
  obtain ⟨hm, hb, hD⟩ := nil_fin HK0.out HS.out HB2.out hd
  have HF := Lib.hid hb
  have HD := Lib.hid hD
  clear hb hD hd
  go_wp2_with fail
  refine bodyPost_ret (v := .tuple #[.agg (bk zb).toArray, .int .i64 1]) (result27_38 rfl rfl rfl hzl HF.out) rfl ?_
  exact ⟨rfl, HD.out⟩

set_option maxHeartbeats 1000000 in
theorem nil_arm (w : World) (k a f : Int) (ka : Option Addr) (kn kc : Nat) (hk : opk k = 3) : Calls Try.prog 23 #[.pointer none, .agg (opv k a f (.slice ka kn kc)).toArray] w (NilP w) := by
  obtain ⟨b1, b2, k0, hs0⟩ := does_start w (opv k a f (.slice ka kn kc))
  unfold opv at *
  have HK := Lib.hid (kind_any k a f (.slice ka kn kc))
  rw [hk] at HK
  obtain ⟨W1, hW1⟩ : ∃ W1, W1 = ((w.alloc (.cells #[.int .i64 k, .int .i64 a, .int .u8 f, .slice ka kn kc] 32)).alloc (.cells (bk zb).toArray 27)).alloc (.cells #[.int .i64 k, .int .i64 a, .int .u8 f, .slice ka kn kc] 32) := ⟨_, rfl⟩
  have e1 := b1.cell (i := 1) rfl
  have e3 := b1.cell (i := 3) rfl
  rw [← hW1] at b1 b2 k0 hs0 e1 e3 
  have HB := Lib.hid b1
  have HB2 := Lib.hid b2
  have HK0 := Lib.hid k0
  have HS := Lib.hid hs0
  have HW := Lib.hid hW1
  clear b1 b2 k0 hk hs0 hW1
  go_enter Try.func23, Try.ntmps23
  have hzl : (bk zb).length = 64 := by rw [bk_len, zb_len]
  have hone : oneAll (bk zb).toArray = true := all_oneCell_toArray bk_one
  go_wp2_with fail
  refine (HK.out _).mono ?_
  rintro e w1 ⟨rfl, hw1⟩
  rw [← HW.out] at hw1
  subst hw1
  go_wp2_with fail
  refine (arm_nil a _).mono ?_
  rintro e W ⟨rfl, hd⟩
  subst hd; have hd : Keeps (fun _ => False) w1 w1 := Keeps.refl _ _
  obtain ⟨hm, hb, hD⟩ := nil_fin HK0.out HS.out HB2.out hd
  have HF := Lib.hid hb
  have HD := Lib.hid hD
  clear hb hD hd
  go_wp2_with fail
  refine bodyPost_ret (v := .tuple #[.agg (bk zb).toArray, .int .i64 1]) (result27_38 rfl rfl rfl hzl HF.out) rfl ?_
  exact ⟨rfl, HD.out⟩

set_option maxHeartbeats 1000000 in
theorem nil_fail (w : World) (k a f : Int) (ka : Option Addr) (kn kc : Nat) (hk : opk k = 5) : Calls Try.prog 23 #[.pointer none, .agg (opv k a f (.slice ka kn kc)).toArray] w (NilP w) := by
  obtain ⟨b1, b2, k0, hs0⟩ := does_start w (opv k a f (.slice ka kn kc))
  unfold opv at *
  have HK := Lib.hid (kind_any k a f (.slice ka kn kc))
  rw [hk] at HK
  obtain ⟨W1, hW1⟩ : ∃ W1, W1 = ((w.alloc (.cells #[.int .i64 k, .int .i64 a, .int .u8 f, .slice ka kn kc] 32)).alloc (.cells (bk zb).toArray 27)).alloc (.cells #[.int .i64 k, .int .i64 a, .int .u8 f, .slice ka kn kc] 32) := ⟨_, rfl⟩
  have e1 := b1.cell (i := 1) rfl
  have e3 := b1.cell (i := 3) rfl
  rw [← hW1] at b1 b2 k0 hs0 e1 e3 
  have HB := Lib.hid b1
  have HB2 := Lib.hid b2
  have HK0 := Lib.hid k0
  have HS := Lib.hid hs0
  have HW := Lib.hid hW1
  clear b1 b2 k0 hk hs0 hW1
  go_enter Try.func23, Try.ntmps23
  have hzl : (bk zb).length = 64 := by rw [bk_len, zb_len]
  have hone : oneAll (bk zb).toArray = true := all_oneCell_toArray bk_one
  go_wp2_with fail
  refine (HK.out _).mono ?_
  rintro e w1 ⟨rfl, hw1⟩
  rw [← HW.out] at hw1
  subst hw1
  go_wp2_with fail
  refine (fail_nil a _).mono ?_
  rintro e W ⟨rfl, hd⟩
  subst hd; have hd : Keeps (fun _ => False) w1 w1 := Keeps.refl _ _
  obtain ⟨hm, hb, hD⟩ := nil_fin HK0.out HS.out HB2.out hd
  have HF := Lib.hid hb
  have HD := Lib.hid hD
  clear hb hD hd
  go_wp2_with fail
  refine bodyPost_ret (v := .tuple #[.agg (bk zb).toArray, .int .i64 1]) (result27_38 rfl rfl rfl hzl HF.out) rfl ?_
  exact ⟨rfl, HD.out⟩

set_option maxHeartbeats 1000000 in
theorem nil_crash (w : World) (k a f : Int) (ka : Option Addr) (kn kc : Nat) (xs : List Bool) (hr : BoolRow w ka kn xs) (hn : kn ≤ 140737488351232) (h0 : ka = none → kc = 0) (hk : opk k = 4) : Calls Try.prog 23 #[.pointer none, .agg (opv k a f (.slice ka kn kc)).toArray] w (NilP w) := by
  obtain ⟨b1, b2, k0, hs0⟩ := does_start w (opv k a f (.slice ka kn kc))
  have HKS := Lib.hid (keeps_any ka kn kc xs _ (hr.keep k0 fun _ _ _ => id) hn h0)
  unfold opv at *
  have HK := Lib.hid (kind_any k a f (.slice ka kn kc))
  rw [hk] at HK
  obtain ⟨W1, hW1⟩ : ∃ W1, W1 = ((w.alloc (.cells #[.int .i64 k, .int .i64 a, .int .u8 f, .slice ka kn kc] 32)).alloc (.cells (bk zb).toArray 27)).alloc (.cells #[.int .i64 k, .int .i64 a, .int .u8 f, .slice ka kn kc] 32) := ⟨_, rfl⟩
  have e1 := b1.cell (i := 1) rfl
  have e3 := b1.cell (i := 3) rfl
  rw [← hW1] at b1 b2 k0 hs0 e1 e3 HKS
  have HB := Lib.hid b1
  have HB2 := Lib.hid b2
  have HK0 := Lib.hid k0
  have HS := Lib.hid hs0
  have HW := Lib.hid hW1
  clear b1 b2 k0 hk hs0 hW1 hr h0
  go_enter Try.func23, Try.ntmps23
  have hzl : (bk zb).length = 64 := by rw [bk_len, zb_len]
  have hone : oneAll (bk zb).toArray = true := all_oneCell_toArray bk_one
  go_wp2_with fail
  refine (HK.out _).mono ?_
  rintro e w1 ⟨rfl, hw1⟩
  rw [← HW.out] at hw1
  subst hw1
  go_wp2_with fail
  refine HKS.out.mono ?_
  rintro e W2 ⟨ra, rc, rfl, hrow, hrb, hk2⟩
  have HK2 := Lib.hid hk2
  clear hrow hrb hk2
  go_wp2_with fail
  refine (crash_nil ra kn rc _).mono ?_
  rintro e W ⟨rfl, hd⟩
  obtain ⟨hm, hb, hD⟩ := nil_fin HK0.out HS.out HB2.out (HK2.out.trans hd)
  have HF := Lib.hid hb
  have HD := Lib.hid hD
  clear hb hD hd
  go_wp2_with fail
  refine bodyPost_ret (v := .tuple #[.agg (bk zb).toArray, .int .i64 1]) (result27_38 rfl rfl rfl hzl HF.out) rfl ?_
  exact ⟨rfl, HD.out⟩

set_option maxHeartbeats 1000000 in
theorem nil_write (w : World) (k a f : Int) (ka : Option Addr) (kn kc : Nat) (hk : opk k = 1) : Calls Try.prog 23 #[.pointer none, .agg (opv k a f (.slice ka kn kc)).toArray] w (NilP w) := by
  obtain ⟨b1, b2, k0, hs0⟩ := does_start w (opv k a f (.slice ka kn kc))
  unfold opv at *
  have HK := Lib.hid (kind_any k a f (.slice ka kn kc))
  rw [hk] at HK
  obtain ⟨W1, hW1⟩ : ∃ W1, W1 = ((w.alloc (.cells #[.int .i64 k, .int .i64 a, .int .u8 f, .slice ka kn kc] 32)).alloc (.cells (bk zb).toArray 27)).alloc (.cells #[.int .i64 k, .int .i64 a, .int .u8 f, .slice ka kn kc] 32) := ⟨_, rfl⟩
  have e1 := b1.cell (i := 1) rfl
  have e3 := b1.cell (i := 3) rfl
  rw [← hW1] at b1 b2 k0 hs0 e1 e3 
  have HB := Lib.hid b1
  have HB2 := Lib.hid b2
  have HK0 := Lib.hid k0
  have HS := Lib.hid hs0
  have HW := Lib.hid hW1
  clear b1 b2 k0 hk hs0 hW1
  go_enter Try.func23, Try.ntmps23
  have hzl : (bk zb).length = 64 := by rw [bk_len, zb_len]
  have hone : oneAll (bk zb).toArray = true := all_oneCell_toArray bk_one
  go_wp2_with fail
  refine (HK.out _).mono ?_
  rintro e w1 ⟨rfl, hw1⟩
  rw [← HW.out] at hw1
  subst hw1
  have e2 := HB.out.cell (i := 2) rfl
  have HB2b := HB2.out.lt
  go_wp2_with fail
  go_region_with (first
    | (go_at_call 19; refine (block_any f _).mono ?_; rintro e w2 ⟨rfl, hk2⟩; have hk2' : Keeps (fun _ => False) w1 w2 := (by first | exact hk2 | exact (Keeps.refl (fun _ => False) w1).drew.trans hk2); have HK2 := Lib.hid hk2'; have u1 := (HK2.out.blk HB.out id).cell (i := 1) rfl; have u2 := (HK2.out.blk HB.out id).cell (i := 2) rfl; clear hk2 hk2')
    | (go_at_call 50; refine (write_nil a (blk f) _).mono ?_; rintro e W ⟨rfl, hd⟩; have hd' : Keeps (fun _ => False) w1 W := (by first | exact HK2.out.trans hd | exact HK2.out.drew.trans hd); obtain ⟨hm, hb, hD⟩ := nil_fin HK0.out HS.out HB2.out hd'; have HF := Lib.hid hb; have HD := Lib.hid hD; clear hb hD hd hd'))
  all_goals
    go_wp2_with fail
    refine bodyPost_ret (v := .tuple #[.agg (bk zb).toArray, .int .i64 1]) (result27_38 rfl rfl rfl hzl HF.out) rfl ?_
    exact ⟨rfl, HD.out⟩

theorem does_nil (w : World) (k a f : Int) (ka : Option Addr) (kn kc : Nat) (xs : List Bool) (hr : BoolRow w ka kn xs) (hn : kn ≤ 140737488351232) (h0 : ka = none → kc = 0) : Calls Try.prog 23 #[.pointer none, .agg #[.int .i64 k, .int .i64 a, .int .u8 f, .slice ka kn kc]] w (NilP w) := by
  have a1 := opk_lo k
  have a2 := opk_hi k
  have h : opk k = 0 ∨ opk k = 1 ∨ opk k = 2 ∨ opk k = 3 ∨ opk k = 4 ∨ opk k = 5 := by omega
  rcases h with h | h | h | h | h | h
  · exact nil_read w k a f ka kn kc h
  · exact nil_write w k a f ka kn kc h
  · exact nil_sync w k a f ka kn kc h
  · exact nil_arm w k a f ka kn kc h
  · exact nil_crash w k a f ka kn kc xs hr hn h0 h
  · exact nil_fail w k a f ka kn kc h

end Go.Proofs.Ytjiammhmeliogaa
