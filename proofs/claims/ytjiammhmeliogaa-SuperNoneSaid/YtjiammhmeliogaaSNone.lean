/- SuperNone, walked. -/
import Derived.Test.YtjiammhmeliogaaSupW
namespace Go.Proofs.Ytjiammhmeliogaa
open Go.RowKit
set_option linter.unusedVariables false
set_option linter.unusedSimpArgs false
attribute [local go_sem] eq71

set_option maxHeartbeats 2000000 in
theorem snone_law (i : Int) (x : SX) (w : World) : Calls Try.prog 13 #[.int .i64 i, x.val] w fun e w' => e = .returned (.bool true) ∧ Keeps (fun _ => False) w w' := by
  obtain ⟨sg, sc, ge, re, rs, fl⟩ := x
  have hk : Keeps (fun _ => False) w (w.alloc (.cells (SX.cells ⟨sg, sc, ge, re, rs, fl⟩).toArray 71)) := (Keeps.refl _ _).alloc _
  have hb := Blk.new w 71 (SX.cells ⟨sg, sc, ge, re, rs, fl⟩)
  have HK := Lib.hid hk
  have HB := Lib.hid hb
  clear hk hb
  unfold SX.val SX.cells at *
  go_enter Try.func13, Try.ntmps13
  go_wp2_with fail
  refine (swakes_any _).mono ?_
  rintro e w1 ⟨rfl, hk1⟩
  have HK1 := Lib.hid (HK.out.trans hk1)
  have HB1 := Lib.hid (hk1.blk HB.out id)
  clear hk1
  go_wp2_with fail
  refine (format_nil 4 24 _).mono ?_
  rintro e w2 ⟨rfl, rfl⟩
  go_wp2_with fail
  refine (open_nil _).mono ?_
  rintro e w2 ⟨rfl, rfl⟩
  go_wp2_with fail
  refine (base_nil _ _).mono ?_
  rintro e w2 ⟨rfl, rfl⟩
  go_wp2_with fail
  refine (new_dr 97 (by omega) (by omega) _).mono ?_
  rintro e w3 ⟨B, rfl, hd⟩
  have HK3 := Lib.hid (HK1.out.trans hd.keep)
  have HB3 := Lib.hid (hd.keep.blk HB1.out id)
  have HF := Lib.hid (format_small hd 4 24 first4_may (by decide))
  clear hd
  go_wp2_with fail
  refine HF.out.mono ?_
  rintro e w4 ⟨rfl, hk4⟩
  have hb4 := hk4.blk HB3.out id
  have x0 := hb4.cell (i := 0) rfl
  have x1 := hb4.cell (i := 1) rfl
  have x2 := hb4.cell (i := 2) rfl
  have x3 := hb4.cell (i := 3) rfl
  have x4 := hb4.cell (i := 4) rfl
  have x5 := hb4.cell (i := 5) rfl
  have HK4 := Lib.hid (HK3.out.trans hk4)
  have HS := Lib.hid (set_nil ⟨sg, sc, ge, re, rs, fl⟩ w4)
  unfold SX.val SX.cells at HS
  clear hk4 hb4
  go_wp2_with fail
  refine HS.out.mono ?_
  rintro e w5 ⟨rfl, hk5⟩
  have HK5 := Lib.hid (HK4.out.trans hk5)
  have HG := Lib.hid (get_nil w5)
  unfold SXP SX.val SX.zero SX.cells at HG
  clear hk5 x0 x1 x2 x3 x4 x5
  go_wp2_with fail
  refine HG.out.mono ?_
  rintro e w6 ⟨rfl, hk6⟩
  have HK6 := Lib.hid (HK5.out.trans hk6)
  clear hk6
  go_wp2_with fail
  refine (disk_nil _).mono ?_
  rintro e w7 ⟨rfl, rfl⟩
  go_wp2_with fail
  go_ret
  exact ⟨rfl, HK6.out⟩
end Go.Proofs.Ytjiammhmeliogaa
