/- ram: the layer wakes. -/
import Derived.Test.YthnagihgjenimaaDoorRamV
import Derived.Test.YthnagihgjenimaaDoorRamW
import Derived.Lib.SmallJoins
namespace Go.Proofs.YthnagihgjenimaaDoor
open Go.RowKit
set_option linter.unusedVariables false
set_option linter.unusedSimpArgs false
theorem Less.nil {D D' : AD} {hs' : List HM} {k : List Int} (h : Less D [] k D' hs') : D' = D ∧ hs' = [] := by
  rcases h with ⟨_, rfl, rfl⟩ | ⟨xs, x, ys, e, _⟩
  · exact ⟨rfl, rfl⟩
  · simp at e
theorem Reach.nil {cl : Nat} {D0 D : AD} {hs0 hs gone : List HM} (h : Reach cl D0 hs0 gone D hs) (h0 : hs0 = []) : gone = [] ∧ D = D0 ∧ hs = [] := by
  have hl := h.sub.2.2.2
  subst h0
  simp at hl
  obtain ⟨h1, h2⟩ := hl
  cases h with
  | start => exact ⟨rfl, rfl, rfl⟩
  | next _ _ _ _ => simp at h1
/-- The item of wakes. -/
def wIt : IT := ⟨[97], [120], 0, 0, 1, false⟩
theorem wIt_ok : wIt.Ok := ⟨by decide, by decide, by decide, (fun z hz => by simp [wIt] at hz; omega), (fun z hz => by simp [wIt] at hz; omega), by decide⟩
/-- A literal's row: one byte. -/
def w97 (w : World) (x : Int) : World := w.alloc (.cells #[.int .u8 x] 5 (1, 2))
theorem mark_slb (w : World) (x : Int) : SlB (w97 w x) (.slice (some ⟨w.heap.size, 0, none⟩) 1 1) [x] :=
  ⟨_, 1, rfl, rfl, fun i hi => ⟨_, rfl, by
    obtain rfl : i = 0 := by simpa using hi
    rw [add0]
    exact World.cell?_alloc_mark w _ _ _ _⟩⟩
theorem w97_keep (w : World) (x : Int) : Keeps (fun _ => False) w (w97 w x) := (Keeps.refl _ _).alloc _
theorem w97_size (w : World) (x : Int) : (w97 w x).heap.size = w.heap.size + 1 := by unfold w97; simp
theorem conv97 (w : World) (x : Int) (g : Nat) (hg : g = w.heap.size) : (convert 56 56 (.slice (some ⟨g, 0, none⟩) 1 1)).run Tryd.prog (w.alloc (.cells #[.int .u8 x] 5)) = .ok (.slice (some ⟨g, 0, none⟩) 1 1) (w97 w x) :=
  Go.Joins.run_convert_bytes_const_at w 56 5 #[.int .u8 x] 1 1 g hg Tryd.underlying56 Tryd.underlying5
set_option maxRecDepth 100000 in
set_option maxHeartbeats 4000000 in
theorem rwakes (w : World) (hT : Tab w) (h0 : 0 < w.heap.size) : Calls Tryd.prog 31 #[] w fun e w' => e = .returned (.bool true) ∧ Keeps (fun _ => False) w w' := by
  have HN := Lib.hid (rnew_ok 1 (by omega) (by omega) w)
  have HT := Lib.hid hT
  clear hT
  unfold RNewP RL.ptr at HN
  go_enter Tryd.func31, Tryd.ntmps31
  go_wp2_with fail
  refine HN.out.mono ?_
  rintro e w1 ⟨L, rfl, hr, hlo, hk1⟩
  have HR := Lib.hid hr
  have HLO := Lib.hid hlo
  have HK1 := Lib.hid hk1
  clear hr hlo hk1 HN
  go_upto_region 4 with fail
  have cv1 := conv97 w1 97 w1.heap.size rfl
  have cv2 := conv97 (w97 w1 97) 120 (w1.heap.size + 1) (w97_size _ _).symm
  have sz1 := w97_size w1 97
  obtain ⟨W2, hW2⟩ : ∃ W2, W2 = w97 (w97 w1 97) 120 := ⟨_, rfl⟩
  have hk2 : Keeps (fun _ => False) w1 W2 := by rw [hW2]; exact (w97_keep _ _).trans (w97_keep _ _)
  have hs1 : SlB W2 (.slice (some ⟨w1.heap.size, 0, none⟩) 1 1) [97] := by rw [hW2]; exact (mark_slb w1 97).quiet (w97_keep _ _)
  have hs2 : SlB W2 (.slice (some ⟨w1.heap.size + 1, 0, none⟩) 1 1) [120] := by
    rw [hW2]
    have := mark_slb (w97 w1 97) 120
    rwa [w97_size] at this
  have HW2 := Lib.hid hW2
  have hlt := HR.out.lt.2.2.2
  have HP := Lib.hid (put_any_item L _ [] wIt _ _ W2 (HR.out.quiet hk2) (HT.out.keep (HK1.out.trans hk2) (fun h => h.elim)) wIt_ok ⟨hs1, hs2⟩ (fun k hk e => by
    have := HLO.out k hk
    omega) (fun a n c e _ ho => by
    injection e with e
    injection e with e
    subst e
    have := hlt _ ho
    exact absurd this (Nat.lt_irrefl _)) (fun a n c e _ ho => by
    injection e with e
    injection e with e
    subst e
    have : w1.heap.size + 1 < w1.heap.size := hlt _ ho
    omega))
  unfold wIt IT.agg RL.ptr at HP
  dsimp only at HP
  clear hW2 hlt hs1 hs2
  go_wp2_with fail
  rw [← HW2.out]
  refine HP.out.mono ?_
  rintro e w3 ⟨D1, hs1, s8, rfl, hless, hdone, hk3⟩
  obtain ⟨rfl, rfl⟩ := hless.nil
  obtain ⟨D2, hs2, gone, x, D3, hre, hgs, hxi, hxc, hr3, hrow, _⟩ := hdone
  obtain ⟨rfl, rfl, rfl⟩ := hre.nil rfl
  obtain ⟨sa, sc, rfl⟩ : ∃ sa sc, s8 = .slice sa 0 sc := by
    rcases hrow.2 with ⟨rfl, h0⟩ | ⟨g, cap, cur, rfl, _⟩
    · exact ⟨_, _, rfl⟩
    · exact ⟨_, _, rfl⟩
  have HR3 := Lib.hid hr3
  have HXI := Lib.hid hxi
  have HK3 : Hid (Keeps L.own w1 w3) := Lib.hid ((hk2.mono fun _ _ h => h.elim).trans hk3)
  clear hless hgs hxc hr3 hrow hre hk2 hk3 HP HW2
  go_upto_region 5 with fail
  have cv4 := conv97 w3 97 w3.heap.size rfl
  have hk4 : Keeps (fun _ => False) w3 (w97 w3 97) := w97_keep _ _
  have hxk : x.it.key = [97] := by rw [HXI.out]
  have HG := Lib.hid (get_there L D3 [] [] x (.slice (some ⟨w3.heap.size, 0, none⟩) 1 1) (w97 w3 97) (HR3.out.quiet hk4) (by rw [hxk]; exact mark_slb w3 97))
  unfold GetP at HG
  rw [HXI.out] at HG
  unfold IT.agg RL.ptr at HG
  dsimp only [List.nil_append] at HG
  have HK4 := Lib.hid hk4
  clear hxk hk4
  go_wp2_with fail
  refine HG.out.mono ?_
  rintro e w5 ⟨kv, vv, rfl, hrd, hr5, hk5⟩
  obtain ⟨xa, xc, rfl, _⟩ := own_bytes hrd.k
  obtain ⟨ya, yc, rfl, _⟩ := own_bytes hrd.v
  go_upto_region 6 with fail
  obtain ⟨W6, hW6⟩ : ∃ W6, W6 = w5.alloc (.cells #[.slice xa 1 xc, .slice ya 1 yc, .int .u32 0, .int .u32 0, .int .u64 1, .bool false] 64) := ⟨_, rfl⟩
  have hk6 : Keeps (fun _ => False) w5 W6 := by rw [hW6]; exact (Keeps.refl _ _).alloc _
  have hb6 : Blk W6 w5.heap.size 64 [.slice xa 1 xc, .slice ya 1 yc, .int .u32 0, .int .u32 0, .int .u64 1, .bool false] := by rw [hW6]; exact Blk.new w5 64 _
  have e120 : strOfNums [120] = ⟨#[120]⟩ := by decide
  have cv6 : (convert 56 9 (.slice ya 1 yc)).run Tryd.prog W6 = .ok (.string ⟨#[120]⟩) W6 := by
    rw [← e120]
    exact conv_slb (SlB.of_own hrd.v |>.quiet hk6)
  have HLN := Lib.hid (len_any' L D3 [x] W6 (hr5.quiet hk6))
  have HCH := Lib.hid (charge_all L D3 [x] W6 (hr5.quiet hk6))
  have hsum : sumC [x] = 26 := by unfold sumC; simp [HXI.out, IT.chg]
  rw [hsum] at HCH
  unfold RL.ptr at HLN HCH
  dsimp only [List.length_cons, List.length_nil] at HLN
  have x1 := hb6.cell (i := 1) rfl
  rw [← hW6]
  have HKF : Hid (Keeps (fun _ => False) w W6) := Lib.hid (((HK1.out.mono (S' := L.own) fun _ _ h => h.elim).trans (HK3.out.trans ((HK4.out.mono fun _ _ h => h.elim).trans (hk5.trans (hk6.mono fun _ _ h => h.elim))))).mono fun k hk ho => by
    have := HLO.out k ho
    omega)
  clear hW6 hk6 hb6 hrd hr5 hk5 hsum e120 cv1 cv2 cv4 sz1 HG
  go_wp2_with (first
    | (go_at_call 37; refine HLN.out.mono ?_; rintro e w' ⟨rfl, rfl⟩)
    | (go_at_call 36; refine HCH.out.mono ?_; rintro e w' ⟨rfl, rfl⟩))
  go_ret
  exact ⟨rfl, HKF.out⟩
end Go.Proofs.YthnagihgjenimaaDoor
