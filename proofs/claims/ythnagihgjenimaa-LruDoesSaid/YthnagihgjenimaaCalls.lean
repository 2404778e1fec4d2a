/- The lists' calls: what each returns and makes of the lists. -/
import Derived.Test.YthnagihgjenimaaRep
namespace Go.Proofs.Ythnagihgjenimaa
open Go.RowKit
set_option linter.unusedVariables false

/-- Where the lists lie, and how many. -/
structure LK where
  B : Nat
  bn : Nat
  ba : Nat
  bw : Nat
  bl : Nat
  N : Nat
  n : Nat

def LK.full (k : LK) (nx ah : List Nat) (wh : List Int) (ln : List Nat) : LL := ⟨k.B, k.bn, k.ba, k.bw, k.bl, k.N, k.n, nx, ah, wh, ln⟩
def LK.own (k : LK) (b : Nat) : Prop := b = k.bn ∨ b = k.ba ∨ b = k.bw ∨ b = k.bl
def LK.ptr (k : LK) : Value := .pointer (some ⟨k.B, 0, none⟩)
/-- In world w the lists hold ls. -/
def LK.Has (k : LK) (w : World) (ls : Nat → List Nat) : Prop := ∃ nx ah wh ln, (k.full nx ah wh ln).At w ∧ Rep (k.full nx ah wh ln) ls

section
variable {k : LK} {w w' : World} {ls : Nat → List Nat}
theorem LK.Has.keep (h : k.Has w ls) {S : Nat → Prop} (hk : Keeps S w w') (hB : ¬ S k.B) (hn : ¬ S k.bn) (ha : ¬ S k.ba) (hw : ¬ S k.bw) (hl : ¬ S k.bl) : k.Has w' ls := by
  obtain ⟨nx, ah, wh, ln, h1, h2⟩ := h
  exact ⟨nx, ah, wh, ln, ⟨hk.blk h1.obj hB, hk.blk h1.nx hn, hk.blk h1.ah ha, hk.blk h1.wh hw, hk.blk h1.ln hl, h1.na, h1.nw, h1.nl, h1.aw, h1.al, h1.wl, h1.lnx, h1.lah, h1.lwh, h1.lln, h1.N1, h1.N2, h1.n1, h1.n2⟩, h2⟩
theorem LK.Has.quiet (h : k.Has w ls) (hk : Keeps (fun _ => False) w w') : k.Has w' ls := h.keep hk id id id id id
theorem LK.Has.lt (h : k.Has w ls) : k.B < w.heap.size ∧ ∀ b, k.own b → b < w.heap.size := by
  obtain ⟨nx, ah, wh, ln, h1, h2⟩ := h
  refine ⟨h1.obj.lt, fun b hb => ?_⟩
  rcases hb with rfl | rfl | rfl | rfl
  · exact h1.nx.lt
  · exact h1.ah.lt
  · exact h1.wh.lt
  · exact h1.ln.lt
theorem LK.Has.bounds (h : k.Has w ls) : 1 ≤ k.N ∧ k.N ≤ 65536 ∧ 1 ≤ k.n ∧ k.n ≤ 64 := by
  obtain ⟨nx, ah, wh, ln, h1, h2⟩ := h
  exact ⟨h1.N1, h1.N2, h1.n1, h1.n2⟩
theorem LK.Has.mem_lt (h : k.Has w ls) {i x : Nat} (hi : i < k.n) (hx : x ∈ ls i) : x < k.N := by
  obtain ⟨nx, ah, wh, ln, h1, h2⟩ := h
  exact h2.lt i x hi hx
theorem LK.Has.apart (h : k.Has w ls) {i j x : Nat} (hi : i < k.n) (hj : j < k.n) (hx : x ∈ ls i) (hy : x ∈ ls j) : i = j := by
  obtain ⟨nx, ah, wh, ln, h1, h2⟩ := h
  exact h2.apart i j x hi hj hx hy
theorem LK.Has.nodup (h : k.Has w ls) {i : Nat} (hi : i < k.n) : (ls i).Nodup := by
  obtain ⟨nx, ah, wh, ln, h1, h2⟩ := h
  exact h2.nodup i hi
theorem LK.Has.len_le (h : k.Has w ls) {i : Nat} (hi : i < k.n) : (ls i).length ≤ k.N := by
  obtain ⟨nx, ah, wh, ln, h1, h2⟩ := h
  exact h2.len_le hi
end

/-- May there be such a list, such a number? -/
def okLN (k : LK) (i x : Int) : Prop := 0 ≤ i ∧ i < (k.n : Int) ∧ 0 ≤ x ∧ x < (k.N : Int)

theorem ready_ok (k : LK) (w : World) (ls : Nat → List Nat) (h : k.Has w ls) (i x : Int) (ho : okLN k i x) :
    Calls Try.prog 27 #[k.ptr, .int .i64 i, .int .i64 x] w fun e w' => e = .returned (.int .i64 0) ∧ w = w' := by
  obtain ⟨nx, ah, wh, ln, h1, h2⟩ := h
  obtain ⟨o0, o1, o2, o3⟩ := h1.fields
  dsimp only [LK.full] at o0 o1 o2 o3
  obtain ⟨a1, a2, a3, a4⟩ := ho
  clear h1 h2
  unfold LK.ptr
  go_enter Try.func27, Try.ntmps27
  go_wp2
  go_ret
  exact ⟨rfl, rfl⟩

theorem ready_no (k : LK) (w : World) (ls : Nat → List Nat) (h : k.Has w ls) (i x : Int) (ho : ¬ okLN k i x) :
    Calls Try.prog 27 #[k.ptr, .int .i64 i, .int .i64 x] w fun e w' => e = .returned (.int .i64 2) ∧ w = w' := by
  obtain ⟨nx, ah, wh, ln, h1, h2⟩ := h
  obtain ⟨o0, o1, o2, o3⟩ := h1.fields
  dsimp only [LK.full] at o0 o1 o2 o3
  have hc : i < 0 ∨ (0 ≤ i ∧ (k.n : Int) ≤ i) ∨ (0 ≤ i ∧ i < (k.n : Int) ∧ x < 0) ∨ (0 ≤ i ∧ i < (k.n : Int) ∧ 0 ≤ x ∧ (k.N : Int) ≤ x) := by unfold okLN at ho; omega
  clear h1 h2 ho
  unfold LK.ptr
  rcases hc with a1 | ⟨a1, a2⟩ | ⟨a1, a2, a3⟩ | ⟨a1, a2, a3, a4⟩ <;>
  · go_enter Try.func27, Try.ntmps27
    go_wp2
    go_ret
    exact ⟨rfl, rfl⟩

/-- Push of what may not be. -/
theorem push_bad (k : LK) (w : World) (ls : Nat → List Nat) (h : k.Has w ls) (i x : Int) (ho : ¬ okLN k i x) :
    Calls Try.prog 11 #[k.ptr, .int .i64 i, .int .i64 x] w fun e w' => e = .returned (.int .i64 2) ∧ w = w' := by
  have H := Lib.hid h
  have HO := Lib.hid ho
  clear h ho
  go_enter Try.func11, Try.ntmps11
  go_wp2_with (go_at_call 27; refine (ready_no k _ ls H.out i x HO.out).mono ?_; rintro e w' ⟨rfl, rfl⟩)
  go_ret
  exact ⟨rfl, rfl⟩

/-- Push of a number that stands in a list. -/
theorem push_there (k : LK) (w : World) (ls : Nat → List Nat) (h : k.Has w ls) (i x j : Nat) (hi : i < k.n) (hj : j < k.n) (hx : x ∈ ls j) :
    Calls Try.prog 11 #[k.ptr, .int .i64 i, .int .i64 x] w fun e w' => e = .returned (.int .i64 5) ∧ w = w' := by
  have H := Lib.hid h
  have hxN := h.mem_lt hj hx
  have HO : Hid (okLN k i x) := Lib.hid ⟨by omega, by omega, by omega, by omega⟩
  obtain ⟨nx, ah, wh, ln, h1, h2⟩ := h
  obtain ⟨o0, o1, o2, o3⟩ := h1.fields
  have c1 := h1.getWh (i := x) hxN
  have c2 := h2.inn j x hj hx
  dsimp only [LK.full] at o0 o1 o2 o3 c1 c2
  rw [c2] at c1
  have ht : ((j : Int) != -1) = true := by rw [bne_iff_ne]; omega
  clear h1 h2 c2
  unfold LK.ptr at *
  go_enter Try.func11, Try.ntmps11
  go_wp2_with (go_at_call 27; refine (ready_ok k _ ls H.out i x HO.out).mono ?_; rintro e w' ⟨rfl, rfl⟩)
  go_ret
  exact ⟨rfl, rfl⟩

def LK.Next (k : LK) (v : Value) (ls : Nat → List Nat) (w : World) (e : Ending) (w' : World) : Prop := e = .returned v ∧ k.Has w' ls ∧ Keeps k.own w w'

/-- Push. -/
theorem push_ok (k : LK) (w : World) (ls : Nat → List Nat) (h : k.Has w ls) (i x : Nat) (hi : i < k.n) (hx : x < k.N) (hf : ∀ j, j < k.n → x ∉ ls j) :
    Calls Try.prog 11 #[k.ptr, .int .i64 i, .int .i64 x] w (k.Next (.int .i64 0) (upd ls i (x :: ls i)) w) := by
  have H := Lib.hid h
  have HO : Hid (okLN k i x) := Lib.hid ⟨by omega, by omega, by omega, by omega⟩
  obtain ⟨nx, ah, wh, ln, h1, h2⟩ := h
  obtain ⟨o0, o1, o2, o3⟩ := h1.fields
  have c1 := h1.getWh (i := x) hx
  have c2 := h2.out x hx hf
  have hp := rep_put h2 (i := i) hi hx hf
  have hs : nx.getD (k.N + i) 0 < k.N + k.n := by
    have := h2.head_first (i := i) hi
    have e : nx.getD (k.N + i) 0 = (ls i).head?.getD (k.N + i) := this
    rw [e]
    exact headD_lt h2 hi
  have hl : ln.getD i 0 ≤ 65536 := by
    have e : ln.getD i 0 = (ls i).length := h2.ln i hi
    rw [e]
    exact Nat.le_trans (h2.len_le hi) h1.N2
  have HP := Lib.hid (put_any _ w h1 i x hi hx hs hl)
  have HR := Lib.hid hp
  dsimp only [LK.full] at o0 o1 o2 o3 c1 c2
  rw [c2] at c1
  clear h1 h2 c2 hp
  unfold LK.ptr at *
  go_enter Try.func11, Try.ntmps11
  go_wp2_with (first | (go_at_call 27; refine (ready_ok k _ ls H.out i x HO.out).mono ?_; rintro e w' ⟨rfl, rfl⟩) | (go_at_call 28; refine HP.out.mono ?_; rintro e w' ⟨rfl, hat, hkp⟩))
  go_ret
  exact ⟨rfl, ⟨_, _, _, _, hat, HR.out⟩, hkp⟩
end Go.Proofs.Ythnagihgjenimaa
