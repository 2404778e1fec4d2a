/- DiskNone, walked. -/
import Derived.Test.YtjiammhmeliogaaNoneW
import Derived.Deep.Cut
namespace Go.Proofs.Ytjiammhmeliogaa
open Go.RowKit
set_option linter.unusedVariables false
set_option linter.unusedSimpArgs false
attribute [local go_sem ↓] exec_load27 exec_new27 exec_build27 exec_alloc27 zeroValue27
attribute [local go_sem] padr_some rowAt_drew hasRow_drew mayRow_drew run_cells27 eq27_self

set_option maxRecDepth 100000 in
set_option maxHeartbeats 1000000 in
theorem none_law (w : World) (k a f : Int) (ka : Option Addr) (kn kc : Nat) (xs : List Bool) (hr : BoolRow w ka kn xs) (hn : kn ≤ 140737488351232) (h0 : ka = none → kc = 0) :
    Calls Try.prog 9 #[.agg #[.int .i64 k, .int .i64 a, .int .u8 f, .slice ka kn kc]] w fun e w' => e = .returned (.bool true) ∧ Keeps (fun _ => False) w w' := by
  have hb0 := Blk.new w 32 [.int .i64 k, .int .i64 a, .int .u8 f, .slice ka kn kc]
  have HB0 := Lib.hid hb0
  have hk0 : Keeps (fun _ => False) w (w.alloc (.cells #[.int .i64 k, .int .i64 a, .int .u8 f, .slice ka kn kc] 32)) := (Keeps.refl _ _).alloc _
  have HK0 := Lib.hid hk0
  have HR := Lib.hid hr
  clear hb0 hk0 hr
  go_enter Try.func9, Try.ntmps9
  go_wp2_with fail
  refine (wakes_any _).mono ?_
  rintro e w1 ⟨rfl, hk1⟩
  have HK1 : Hid (Keeps (fun _ => False) w w1) := Lib.hid (HK0.out.trans hk1)
  have hb1 := hk1.blk HB0.out id
  have c0 := hb1.cell (i := 0) rfl
  have c1 := hb1.cell (i := 1) rfl
  have c2 := hb1.cell (i := 2) rfl
  have c3 := hb1.cell (i := 3) rfl
  have HDN := Lib.hid (does_nil w1 k a f ka kn kc xs (HR.out.keep HK1.out fun _ _ _ => id) hn h0)
  clear hk1 hb1 h0
  go_wp2_with fail
  refine HDN.out.mono ?_
  rintro e w2 ⟨rfl, hk2⟩
  have HK2 := Lib.hid (HK1.out.trans hk2)
  have hzl : (bk zb).length = 64 := by rw [bk_len, zb_len]
  have hz := zb_len
  have hone : oneAll (bk zb).toArray = true := all_oneCell_toArray bk_one
  have hb4 := Blk.new w2 27 (bk zb)
  have hr4 : (w2.alloc (.cells (bk zb).toArray 27)).rangeAt w2.heap.size 0 (bk zb) := fun j v hv => by rw [Nat.zero_add]; exact hb4.cell hv
  have x1 := hasRow_of hr4 hzl
  have x2 := rowAt_of hr4 hzl
  have HK3 : Hid (Keeps (fun _ => False) w (w2.alloc (.cells (bk zb).toArray 27))) := Lib.hid (HK2.out.alloc _)
  clear hk2 hb4 hr4
  obtain ⟨W, hW⟩ : ∃ W, W = w2.alloc (.cells (bk zb).toArray 27) := ⟨_, rfl⟩
  have HW := Lib.hid hW
  rw [← hW] at x1 x2 HK3
  clear hW
  go_upto_region 5 with (fail)
  rw [← HW.out]
  go_wp2_with (first
    | (go_at_call 26; refine (len_nil _).mono ?_; rintro e w' ⟨rfl, rfl⟩)
    | (go_at_call 33; refine (pend_nil _).mono ?_; rintro e w' ⟨rfl, rfl⟩)
    | (go_at_call 30; refine (dead_nil _).mono ?_; rintro e w' ⟨rfl, rfl⟩)
    | (go_at_call 36; refine (ops_nil _).mono ?_; rintro e w' ⟨rfl, rfl⟩)
    | (go_at_call 37; refine (copy_nil _).mono ?_; rintro e w' ⟨rfl, rfl⟩))
  go_ret
  exact ⟨rfl, HK3.out⟩
end Go.Proofs.Ytjiammhmeliogaa
