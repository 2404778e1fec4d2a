/- super: wakes. -/
import Derived.Test.YtjiammhmeliogaaSet
import Derived.Test.YtjiammhmeliogaaEqX
namespace Go.Proofs.Ytjiammhmeliogaa
open Go.RowKit
set_option linter.unusedVariables false
set_option linter.unusedSimpArgs false
theorem field71 (a b c d e f : Int) (w : World) : (Instr.field 71 (.agg #[.int .i64 a, .int .i64 b, .int .u64 c, .int .u64 d, .int .u64 e, .int .u64 f]) 2).run Try.prog w = .ok (.int .u64 c) w := by
  have u69 := Try.underlying69
  have a69 := Try.isAgg69
  have z69 := Try.sizeOf69
  unfold Instr.field
  simp only [Sem.run_bind, run_underlying Try.underlying71, Result.andThen_ok]
  go_simp
  simp [asAgg]
attribute [local go_sem] eq71 field71

def sx3 : SX := ⟨4, 24, 3, 0, 0, 0⟩
theorem sx3_wf : sx3.Wf := ⟨⟨by decide, by decide⟩, ⟨by decide, by decide⟩, ⟨by decide, by decide⟩, ⟨by decide, by decide⟩⟩
theorem first4_may : (SX.first 4 24).may := by unfold SX.first SX.may; decide
theorem sx3_may : sx3.may := by unfold sx3 SX.may; decide
theorem fmt_p (n : Nat) (s c : Int) : (fmtD n s c).p = [] := rfl
theorem fmt_fine (n : Nat) (s c : Int) : Fine 900 (fmtD n s c) := ⟨fun h => by simp [fmtD, DD.settled, DD.wrote, DD.fresh] at h, by simp [fmtD, DD.settled, DD.wrote, DD.fresh], by simp [fmtD, DD.settled, DD.wrote, DD.fresh]⟩
theorem swakes_set : setS (fmtD 98 4 24) (SX.first 4 24) 0 sx3 = (0, ((fmtD 98 4 24).wrote 1 (sup sx3 1)).settled, sx3, 1) :=
  set_live (fmt_live 98 4 24) rfl (by show 2 ≤ 98; omega) _ 0 sx3 sx3_may rfl rfl (by decide)

set_option maxRecDepth 100000 in
set_option maxHeartbeats 1000000 in
theorem swakes_any (w : World) : Calls Try.prog 38 #[] w fun e w' => e = .returned (.bool true) ∧ Keeps (fun _ => False) w w' := by
  have HN := Lib.hid (new_dr 98 (by omega) (by omega) w)
  go_enter Try.func38, Try.ntmps38
  go_wp2_with fail
  refine HN.out.mono ?_
  rintro e w1 ⟨B, rfl, hd⟩
  have HF := Lib.hid (format_ok hd 4 24 first4_may (by decide))
  clear hd
  go_wp2_with fail
  refine HF.out.mono ?_
  rintro e w2 ⟨S, rfl, hd2, hb2, hk2⟩
  have HG := Lib.hid (get_any S (SX.first 4 24) 0 ⟨B, undef, undef⟩ w2 hb2)
  have HD2 := Lib.hid hd2
  have HB2 := Lib.hid hb2
  unfold SXP SX.first SX.val SX.cells at HG
  clear hd2 hb2 hk2
  go_wp2_with fail
  refine HG.out.mono ?_
  rintro e w3 ⟨rfl, hk3⟩
  have HST := Lib.hid (set_any (m := 800) (HD2.out.quiet hk3) (.inr rfl) (SX.first 4 24) 0 (hk3.blk HB2.out id) (first_wf 4 24) (Int.le_refl 0) (by decide) ((fmt_fine 98 4 24).less (by omega)) sx3 sx3_wf)
  rw [swakes_set] at HST
  obtain ⟨D3, hD3⟩ : ∃ D3, D3 = ((fmtD 98 4 24).wrote 1 (sup sx3 1)).settled := ⟨_, rfl⟩
  rw [← hD3] at HST
  clear hD3
  unfold SetP sx3 SX.val SX.cells at HST
  simp only at HST
  clear HD2
  clear hk3
  go_wp2_with fail
  refine HST.out.mono ?_
  rintro e w4 ⟨rfl, hd4, hb4, hk4⟩
  have HG4 := Lib.hid (get_any S ⟨4, 24, 3, 0, 0, 0⟩ 1 ⟨B, undef, undef⟩ w4 hb4)
  have HK4 := Lib.hid hd4.keep
  unfold SXP SX.val SX.cells at HG4
  clear hd4 hb4 hk4
  go_wp2_with fail
  refine HG4.out.mono ?_
  rintro e w5 ⟨rfl, hk5⟩
  clear HST HG HB2 HN HF HG4
  go_wp2_with fail
  go_ret
  exact ⟨rfl, HK4.out.trans hk5⟩
end Go.Proofs.Ytjiammhmeliogaa
