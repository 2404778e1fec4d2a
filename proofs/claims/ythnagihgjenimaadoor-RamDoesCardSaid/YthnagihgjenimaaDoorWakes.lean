/- slab laws: wakes. -/
import Derived.Test.YthnagihgjenimaaDoorNil
import Derived.Test.YthnagihgjenimaaDoorGive
namespace Go.Proofs.YthnagihgjenimaaDoor
open Go.RowKit
set_option linter.unusedVariables false
set_option linter.unusedSimpArgs false

theorem wake_one {r q : Int} {D' : AD} (h : GiveS (AD.fresh 2) 0 r q D') : r = 0 ∧ q = 0 ∧ D' = { (AD.fresh 2) with c := updN (AD.fresh 2).c 0 0, g := updN (AD.fresh 2).g 0 1 } := by
  cases h with
  | hit j hj h hb => exact absurd rfl h.1
  | page hn j hj h hb =>
    obtain rfl : j = 0 := by
      rcases Nat.eq_zero_or_pos j with e | e
      · exact e
      · exact absurd rfl (hb 0 e)
    exact ⟨rfl, rfl, rfl⟩
  | full hn h => exact absurd rfl (h 0 (by decide))
def awake : AD := { (AD.fresh 2) with c := updN (AD.fresh 2).c 0 0, g := updN (AD.fresh 2).g 0 1 }
theorem wake_two {r q : Int} {D' : AD} (h : GiveS awake 0 r q D') : r = 1 ∧ q = 0 ∧ D'.used 0 = 2 ∧ D'.free = 1 := by
  have hh : awake.hit 0 0 := by unfold AD.hit; decide
  cases h with
  | hit j hj h hb =>
    obtain rfl : j = 0 := by
      rcases Nat.eq_zero_or_pos j with e | e
      · exact e
      · exact absurd hh (hb 0 e)
    exact ⟨by decide, rfl, by decide, by decide⟩
  | page hn j hj h hb => exact absurd hh (hn 0 (by decide))
  | full hn h => exact absurd hh (hn 0 (by decide))
theorem cls20 : cls 20 = 0 := by decide
def TrueP (w : World) (e : Ending) (w' : World) : Prop := e = .returned (.bool true) ∧ Keeps (fun _ => False) w w'
set_option maxHeartbeats 1000000 in
theorem wakes_any (w : World) (hT : Tab w) : Calls Tryd.prog 12 #[] w (TrueP w) := by
  have HT := Lib.hid hT
  have HN := Lib.hid (anew_ok 2 (by omega) (by omega) w)
  clear hT
  go_enter Tryd.func12, Tryd.ntmps12
  go_wp2_with fail
  refine HN.out.mono ?_
  rintro e w1 ⟨L, rfl, h1, ho, hk1⟩
  have hT1 := HT.out.keep hk1 id
  have hG0 : ¬ (fun k => k = L.G) 0 := fun e => by
    have h0 := ho L.G (.inr rfl)
    have := HT.out.lt
    have e : 0 = L.G := e
    omega
  have HT1 := Lib.hid hT1
  have HG0 := Lib.hid hG0
  have HGI := Lib.hid (give_any L _ w1 h1 hT1 20)
  have HO := Lib.hid ho
  have HK1 := Lib.hid hk1
  clear h1 ho hk1 hT1 hG0
  unfold AL.ptr at *
  go_wp2_with fail
  refine HGI.out.mono ?_
  rintro e w2 ⟨r, q, D1, rfl, hk2, h2, hs⟩
  have hs' : GiveS (AD.fresh 2) 0 r q D1 := by
    rcases hs with hs | ⟨_, _, hs⟩ | hs
    · omega
    · rwa [cls20] at hs
    · omega
  obtain ⟨rfl, rfl, hD⟩ := wake_one hs'
  rw [show D1 = awake from hD] at h2
  have HGJ := Lib.hid (give_any L _ w2 h2 (HT1.out.keep hk2 HG0.out) 20)
  have HK2 := Lib.hid hk2
  clear hk2 h2 hs hs' hD
  unfold AL.ptr at *
  go_wp2_with fail
  refine HGJ.out.mono ?_
  rintro e w3 ⟨r, q, D2, rfl, hk3, h3, hs⟩
  have hs' : GiveS awake 0 r q D2 := by
    rcases hs with hs | ⟨_, _, hs⟩ | hs
    · omega
    · rwa [cls20] at hs
    · omega
  obtain ⟨rfl, rfl, hU, hF⟩ := wake_two hs'
  have HU := Lib.hid (used_any L D2 w3 h3 0)
  have HF := Lib.hid (fun W (hk : Keeps (fun _ => False) w3 W) => free_any L D2 W (h3.quiet hk))
  rw [hU] at HU
  rw [hF] at HF
  have HK3 := Lib.hid hk3
  clear hk3 h3 hs hs' hU hF
  unfold AL.ptr at *
  go_wp2_with fail
  refine HU.out.mono ?_
  rintro e w4 ⟨rfl, hk4⟩
  have HK4 := Lib.hid hk4
  clear hk4
  go_wp2_with fail
  refine (HF.out _ HK4.out).mono ?_
  rintro e w5 ⟨rfl, hk5⟩
  have HK5 := Lib.hid hk5
  clear hk5
  go_wp2_with fail
  go_ret
  have k0 : Keeps (fun k => k = L.G) w w5 := ((((HK1.out.mono fun k _ hf => hf.elim).trans HK2.out).trans HK3.out).trans (HK4.out.mono fun k _ hf => hf.elim)).trans (HK5.out.mono fun k _ hf => hf.elim)
  exact ⟨rfl, k0.mono fun k hk e => by have := HO.out L.G (.inr rfl); have e : k = L.G := e; omega⟩
end Go.Proofs.YthnagihgjenimaaDoor
