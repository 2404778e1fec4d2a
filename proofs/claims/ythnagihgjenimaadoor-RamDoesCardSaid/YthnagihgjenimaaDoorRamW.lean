/- ram: Put of an item that may not be. -/
import Derived.Test.YthnagihgjenimaaDoorRamR
namespace Go.Proofs.YthnagihgjenimaaDoor
open Go.RowKit
set_option linter.unusedVariables false
set_option linter.unusedSimpArgs false
/-- An item that may not be. -/
def IT.Bad (i : IT) : Prop := i.key.length < 1 ∨ 250 < i.key.length ∨ 512 < i.val.length ∨ i.sq = 0
def PutBad (w : World) (e : Ending) (w' : World) : Prop := e = .returned (.tuple #[.slice none 0 0, .int .i64 230]) ∧ Keeps (fun _ => False) w w'
set_option maxRecDepth 100000 in
set_option maxHeartbeats 4000000 in
theorem put_bad (L : RL) (D : AD) (hs : List HM) (i : IT) (kv vv : Value) (w : World) (h : RAt w L D hs) (hb : ItB w i kv vv) (hi : i.Bad) : Calls Tryd.prog 33 #[L.ptr, i.agg kv vv] w (PutBad w) := by
  obtain ⟨⟨a, c, rfl, hra⟩, ⟨b, d, rfl, hrb⟩⟩ := hb
  have h0 := Blk.new w 64 [.slice a i.key.length c, .slice b i.val.length d, .int .u32 i.fg, .int .u32 i.ex, .int .u64 i.sq, .bool i.dt]
  have p0 := h0.cell (i := 0) rfl
  have p1 := h0.cell (i := 1) rfl
  have p4 := h0.cell (i := 4) rfl
  clear h hra hrb h0
  unfold IT.Bad at hi
  obtain ⟨key, val, fg, ex, sq, dt⟩ := i
  dsimp only at hi p0 p1 p4
  unfold RL.ptr IT.agg
  dsimp only
  obtain ⟨n, hn⟩ : ∃ n, n = key.length := ⟨_, rfl⟩
  obtain ⟨m, hm⟩ : ∃ m, m = val.length := ⟨_, rfl⟩
  rw [← hn] at hi p0 ⊢
  rw [← hm] at hi p1 ⊢
  clear hn hm
  by_cases c1 : n < 1
  · have e1 : decide ((n : Int) < 1) = true := by simp; omega
    clear hi c1
    go_enter Tryd.func33, Tryd.ntmps33
    go_wp2_with fail
    go_ret2
    exact ⟨rfl, (Keeps.refl _ _).alloc _⟩
  · have e1 : decide ((n : Int) < 1) = false := by simp; omega
    by_cases c2 : 250 < n
    · have e2 : decide ((n : Int) > 250) = true := by simp; omega
      clear hi c1 c2
      go_enter Tryd.func33, Tryd.ntmps33
      go_wp2_with fail
      go_ret2
      exact ⟨rfl, (Keeps.refl _ _).alloc _⟩
    · have e2 : decide ((n : Int) > 250) = false := by simp; omega
      by_cases c3 : 512 < m
      · have e3 : decide ((m : Int) > 512) = true := by simp; omega
        clear hi c1 c2 c3
        go_enter Tryd.func33, Tryd.ntmps33
        go_wp2_with fail
        go_ret2
        exact ⟨rfl, (Keeps.refl _ _).alloc _⟩
      · have e3 : decide ((m : Int) > 512) = false := by simp; omega
        obtain rfl : sq = 0 := by
          rcases hi with h | h | h | h
          · exact absurd h c1
          · exact absurd h c2
          · exact absurd h c3
          · exact h
        have e4 : ((0 : Int) == 0) = true := rfl
        clear hi c1 c2 c3
        go_enter Tryd.func33, Tryd.ntmps33
        go_wp2_with fail
        go_ret2
        exact ⟨rfl, (Keeps.refl _ _).alloc _⟩
end Go.Proofs.YthnagihgjenimaaDoor
