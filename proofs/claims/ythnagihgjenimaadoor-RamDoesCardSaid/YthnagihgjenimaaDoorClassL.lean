/- SlabClasses: the walk. -/
import Derived.Test.YthnagihgjenimaaDoorNoneL
namespace Go.Proofs.YthnagihgjenimaaDoor
open Go.RowKit
set_option linter.unusedVariables false
set_option linter.unusedSimpArgs false

set_option maxHeartbeats 1000000 in
theorem classes_law (n k : Int) (w : World) (hT : Tab w) : Calls Tryd.prog 3 #[.int .i64 n, .int .i64 k] w (TrueP w) := by
  have HW := Lib.hid (wakes_any w hT)
  clear hT
  have HSZ := Lib.hid (fun W => size_any k W)
  have HRZ := Lib.hid (fun W => rsize_any k W)
  have HCK := Lib.hid (fun W => chunks_any k W)
  have HQ := Lib.hid (chunk_quo k)
  have HZ := Lib.hid (chunk_zero k)
  have hle := sizeI_le k
  generalize sizeI k = s at *
  generalize chunkI k = m at *
  go_enter Tryd.func3, Tryd.ntmps3
  go_wp2_with fail
  refine HW.out.mono ?_
  rintro e w1 ⟨rfl, hk⟩
  have HK1 := Lib.hid hk
  clear hk
  go_wp2_with fail
  refine (class_any n _).mono ?_
  rintro e w2 ⟨c, q, rfl, hs, hk⟩
  have HS := Lib.hid hs
  have HK2 := Lib.hid (HK1.out.trans hk)
  clear hk hs
  go_wp2_with fail
  refine (rclass_any n _).mono ?_
  rintro e w3 ⟨c', q', rfl, hs, hk⟩
  have HK3 := Lib.hid (HK2.out.trans hk)
  obtain ⟨rfl, rfl⟩ := classS_one HS.out hs
  clear hk hs
  go_wp2_with fail
  refine (HRZ.out _).mono ?_
  rintro e w4 ⟨rfl, hk⟩
  have HK4 := Lib.hid (HK3.out.trans hk)
  clear hk
  by_cases h0 : s = 0
  · subst h0
    obtain rfl := HZ.out rfl
    go_wp2_with fail
    refine (HSZ.out _).mono ?_
    rintro e w5 ⟨rfl, hk⟩
    have HK5 := Lib.hid (HK4.out.trans hk)
    clear hk
    go_wp2_with fail
    refine (HRZ.out _).mono ?_
    rintro e w6 ⟨rfl, hk⟩
    have HK6 := Lib.hid (HK5.out.trans hk)
    clear hk
    go_wp2_with fail
    refine (HCK.out _).mono ?_
    rintro e w7 ⟨rfl, hk⟩
    have HK7 := Lib.hid (HK6.out.trans hk)
    clear hk
    go_wp2_with fail
    go_ret
    exact ⟨rfl, HK7.out⟩
  · have hs0 : decide ((0 : Int) < (s : Int)) = true := by simp; omega
    have hsz : ((s : Int) == 0) = false := by rw [beq_eq_false_iff_ne]; omega
    have hq := HQ.out (by omega)
    have HQ2 := Lib.hid hq
    have hsp : (0 : Int) < s := by omega
    have hm : m ≤ 1024 := by
      have : (m : Int) ≤ 1024 := by rw [← hq]; exact Int.ediv_le_self _ (by omega)
      omega
    clear hq
    go_wp2_with fail
    refine (HRZ.out _).mono ?_
    rintro e w5 ⟨rfl, hk⟩
    have HK5 := Lib.hid (HK4.out.trans hk)
    clear hk
    go_wp2_with fail
    rw [HQ2.out]
    refine (HSZ.out _).mono ?_
    rintro e w5 ⟨rfl, hk⟩
    have HK5 := Lib.hid (HK5.out.trans hk)
    clear hk
    go_wp2_with fail
    refine (HRZ.out _).mono ?_
    rintro e w6 ⟨rfl, hk⟩
    have HK6 := Lib.hid (HK5.out.trans hk)
    clear hk
    go_wp2_with fail
    refine (HCK.out _).mono ?_
    rintro e w7 ⟨rfl, hk⟩
    have HK7 := Lib.hid (HK6.out.trans hk)
    clear hk
    go_wp2_with fail
    go_ret
    exact ⟨rfl, HK7.out⟩
end Go.Proofs.YthnagihgjenimaaDoor
