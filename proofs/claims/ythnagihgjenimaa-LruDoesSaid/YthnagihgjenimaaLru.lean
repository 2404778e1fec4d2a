/- The lists' memory, and what put and out make of it. -/
import Derived.Test.YthnagihgjenimaaBlk
import Derived.Test.YthnagihgjenimaaRows
import Derived.WalkLawsBesides
import Derived.WalkSpells
import Derived.Outline
import Derived.BigRegion
import Derived.BigQuiet
import Derived.Deep.QuietTactic
import Derived.StillTailTactics
namespace Go.Proofs.Ythnagihgjenimaa
open Go.RowKit

def nats (l : List Nat) : List Value := l.map fun n : Nat => Value.int .i64 (n : Int)
def ints (l : List Int) : List Value := l.map (Value.int .i64)

/-- The lists' memory: the object's block B, its four arrays' blocks; how many numbers, how many lists; the four arrays. -/
structure LL where
  B : Nat
  bn : Nat
  ba : Nat
  bw : Nat
  bl : Nat
  N : Nat
  n : Nat
  nx : List Nat
  ah : List Nat
  wh : List Int
  ln : List Nat

def LL.obj (L : LL) : List Value :=
  [.slice (some ⟨L.bn, 0, none⟩) (L.N + L.n) (L.N + L.n), .slice (some ⟨L.ba, 0, none⟩) (L.N + L.n) (L.N + L.n), .slice (some ⟨L.bw, 0, none⟩) L.N L.N, .slice (some ⟨L.bl, 0, none⟩) L.n L.n]

structure LL.At (L : LL) (w : World) : Prop where
  obj : Blk w L.B 62 L.obj
  nx : Blk w L.bn 3 (nats L.nx)
  ah : Blk w L.ba 3 (nats L.ah)
  wh : Blk w L.bw 3 (ints L.wh)
  ln : Blk w L.bl 3 (nats L.ln)
  na : L.bn ≠ L.ba
  nw : L.bn ≠ L.bw
  nl : L.bn ≠ L.bl
  aw : L.ba ≠ L.bw
  al : L.ba ≠ L.bl
  wl : L.bw ≠ L.bl
  lnx : L.nx.length = L.N + L.n
  lah : L.ah.length = L.N + L.n
  lwh : L.wh.length = L.N
  lln : L.ln.length = L.n
  N1 : 1 ≤ L.N
  N2 : L.N ≤ 65536
  n1 : 1 ≤ L.n
  n2 : L.n ≤ 64

theorem nats_get {l : List Nat} {i : Nat} (h : i < l.length) : (nats l)[i]? = some (.int .i64 ((l.getD i 0 : Nat) : Int)) := by simp [nats, h]
theorem ints_get {l : List Int} {i : Nat} (h : i < l.length) : (ints l)[i]? = some (.int .i64 (l.getD i 0)) := by simp [ints, h]

theorem getD_ne {α : Type} (l : List α) {i j : Nat} (v d : α) (h : i ≠ j) : (l.set i v).getD j d = l.getD j d := by
  simp [List.getD_eq_getElem?_getD, List.getElem?_set_ne h]
theorem getD_eq {α : Type} (l : List α) {i : Nat} (v d : α) (h : i < l.length) : (l.set i v).getD i d = v := by
  simp [List.getD_eq_getElem?_getD, h]

/-- lru's head. -/
theorem head_any (L : LL) (w : World) (h : L.At w) (i : Nat) (hi : i < L.n) :
    Calls Try.prog 41 #[.pointer (some ⟨L.B, 0, none⟩), .int .i64 i] w fun e w' => e = .returned (.int .i64 ((L.N + i : Nat) : Int)) ∧ w = w' := by
  have hc := h.obj.cell (i := 2) (v := .slice (some ⟨L.bw, 0, none⟩) L.N L.N) rfl
  have h1 := h.N2
  have h2 := h.n2
  clear h
  go_enter Try.func41, Try.ntmps41
  go_wp2
  go_ret
  exact ⟨rfl, rfl⟩

theorem nats_set (l : List Nat) (i v : Nat) : nats (l.set i v) = (nats l).set i (.int .i64 (v : Int)) := by simp [nats, List.map_set]
theorem ints_set' (l : List Int) (i : Nat) (v : Int) : ints (l.set i v) = (ints l).set i (.int .i64 v) := by simp [ints, List.map_set]

section
variable {L : LL} {w : World}
theorem LL.At.drew (h : L.At w) : L.At w.drew := ⟨h.obj, h.nx, h.ah, h.wh, h.ln, h.na, h.nw, h.nl, h.aw, h.al, h.wl, h.lnx, h.lah, h.lwh, h.lln, h.N1, h.N2, h.n1, h.n2⟩
theorem LL.At.drewN (h : L.At w) (q : Nat) : L.At (w.drewN q) := ⟨h.obj, h.nx, h.ah, h.wh, h.ln, h.na, h.nw, h.nl, h.aw, h.al, h.wl, h.lnx, h.lah, h.lwh, h.lln, h.N1, h.N2, h.n1, h.n2⟩
theorem LL.At.en (h : L.At w) : L.B ≠ L.bn := h.obj.ne h.nx (by decide)
theorem LL.At.ea (h : L.At w) : L.B ≠ L.ba := h.obj.ne h.ah (by decide)
theorem LL.At.ew (h : L.At w) : L.B ≠ L.bw := h.obj.ne h.wh (by decide)
theorem LL.At.el (h : L.At w) : L.B ≠ L.bl := h.obj.ne h.ln (by decide)
theorem LL.At.setNx (h : L.At w) (i v : Nat) : LL.At { L with nx := L.nx.set i v } (w.setCell ⟨L.bn, i, none⟩ (.int .i64 (v : Int))) :=
  ⟨h.obj.other h.en _, by show Blk _ _ _ (nats (L.nx.set i v)); rw [nats_set]; exact h.nx.store i _, h.ah.other h.na.symm _, h.wh.other h.nw.symm _, h.ln.other h.nl.symm _,
    h.na, h.nw, h.nl, h.aw, h.al, h.wl, by simpa using h.lnx, h.lah, h.lwh, h.lln, h.N1, h.N2, h.n1, h.n2⟩
theorem LL.At.setAh (h : L.At w) (i v : Nat) : LL.At { L with ah := L.ah.set i v } (w.setCell ⟨L.ba, i, none⟩ (.int .i64 (v : Int))) :=
  ⟨h.obj.other h.ea _, h.nx.other h.na _, by show Blk _ _ _ (nats (L.ah.set i v)); rw [nats_set]; exact h.ah.store i _, h.wh.other h.aw.symm _, h.ln.other h.al.symm _,
    h.na, h.nw, h.nl, h.aw, h.al, h.wl, h.lnx, by simpa using h.lah, h.lwh, h.lln, h.N1, h.N2, h.n1, h.n2⟩
theorem LL.At.setWh (h : L.At w) (i : Nat) (v : Int) : LL.At { L with wh := L.wh.set i v } (w.setCell ⟨L.bw, i, none⟩ (.int .i64 v)) :=
  ⟨h.obj.other h.ew _, h.nx.other h.nw _, h.ah.other h.aw _, by show Blk _ _ _ (ints (L.wh.set i v)); rw [ints_set']; exact h.wh.store i _, h.ln.other h.wl.symm _,
    h.na, h.nw, h.nl, h.aw, h.al, h.wl, h.lnx, h.lah, by simpa using h.lwh, h.lln, h.N1, h.N2, h.n1, h.n2⟩
theorem LL.At.setLn (h : L.At w) (i v : Nat) : LL.At { L with ln := L.ln.set i v } (w.setCell ⟨L.bl, i, none⟩ (.int .i64 (v : Int))) :=
  ⟨h.obj.other h.el _, h.nx.other h.nl _, h.ah.other h.al _, h.wh.other h.wl _, by show Blk _ _ _ (nats (L.ln.set i v)); rw [nats_set]; exact h.ln.store i _,
    h.na, h.nw, h.nl, h.aw, h.al, h.wl, h.lnx, h.lah, h.lwh, by simpa using h.lln, h.N1, h.N2, h.n1, h.n2⟩

/-- The object's four cells. -/
theorem LL.At.fields (h : L.At w) : w.cell? ⟨L.B, 0, none⟩ = some (.slice (some ⟨L.bn, 0, none⟩) (L.N + L.n) (L.N + L.n)) ∧ w.cell? ⟨L.B, 1, none⟩ = some (.slice (some ⟨L.ba, 0, none⟩) (L.N + L.n) (L.N + L.n)) ∧
    w.cell? ⟨L.B, 2, none⟩ = some (.slice (some ⟨L.bw, 0, none⟩) L.N L.N) ∧ w.cell? ⟨L.B, 3, none⟩ = some (.slice (some ⟨L.bl, 0, none⟩) L.n L.n) := ⟨h.obj.cell rfl, h.obj.cell rfl, h.obj.cell rfl, h.obj.cell rfl⟩
theorem LL.At.getNx (h : L.At w) {i : Nat} (hi : i < L.N + L.n) : w.cell? ⟨L.bn, i, none⟩ = some (.int .i64 ((L.nx.getD i 0 : Nat) : Int)) := h.nx.cell (nats_get (by rw [h.lnx]; exact hi))
theorem LL.At.getAh (h : L.At w) {i : Nat} (hi : i < L.N + L.n) : w.cell? ⟨L.ba, i, none⟩ = some (.int .i64 ((L.ah.getD i 0 : Nat) : Int)) := h.ah.cell (nats_get (by rw [h.lah]; exact hi))
theorem LL.At.getWh (h : L.At w) {i : Nat} (hi : i < L.N) : w.cell? ⟨L.bw, i, none⟩ = some (.int .i64 (L.wh.getD i 0)) := h.wh.cell (ints_get (by rw [h.lwh]; exact hi))
theorem LL.At.getLn (h : L.At w) {i : Nat} (hi : i < L.n) : w.cell? ⟨L.bl, i, none⟩ = some (.int .i64 ((L.ln.getD i 0 : Nat) : Int)) := h.ln.cell (nats_get (by rw [h.lln]; exact hi))
end

/-- The blocks that a call on lists may write. -/
def LL.own (L : LL) (k : Nat) : Prop := k = L.bn ∨ k = L.ba ∨ k = L.bw ∨ k = L.bl

/-- What put makes of the arrays. -/
def LL.put (L : LL) (i x : Nat) : LL :=
  { L with
    nx := (L.nx.set x (L.nx.getD (L.N + i) 0)).set (L.N + i) x
    ah := (L.ah.set x (L.N + i)).set (L.nx.getD (L.N + i) 0) x
    wh := L.wh.set x i
    ln := L.ln.set i (L.ln.getD i 0 + 1) }

def LL.Put (L : LL) (i x : Nat) (w : World) (e : Ending) (w' : World) : Prop := e = .returned (.tuple #[]) ∧ (L.put i x).At w' ∧ Keeps L.own w w'

set_option maxHeartbeats 1000000 in
theorem put_any (L : LL) (w : World) (h : L.At w) (i x : Nat) (hi : i < L.n) (hx : x < L.N) (hs : L.nx.getD (L.N + i) 0 < L.N + L.n) (hln : L.ln.getD i 0 ≤ 65536) :
    Calls Try.prog 28 #[.pointer (some ⟨L.B, 0, none⟩), .int .i64 i, .int .i64 x] w (L.Put i x w) := by
  have HA := Lib.hid h
  obtain ⟨s, hsd⟩ : ∃ s, s = L.nx.getD (L.N + i) 0 := ⟨_, rfl⟩
  have b1 := h.N2
  have b2 := h.n2
  have c1 := h.getNx (i := L.N + i) (by omega)
  have c2 := h.getNx (i := x) (by omega)
  have c3 := h.getAh (i := x) (by omega)
  obtain ⟨o0, o1, o2, o3⟩ := h.fields
  have f2 := h.nx.free x
  have f3 := h.ah.free x
  have d1 := h.na
  have e1 := h.en
  have e2 := h.ea
  have HC := Lib.hid hsd
  rw [← hsd] at c1 hs
  clear h hsd
  go_enter Try.func28, Try.ntmps28
  go_wp2_with (go_at_call 41; refine (head_any L _ HA.out i hi).mono ?_; rintro e w' ⟨rfl, rfl⟩)
  go_region
  go_wp2_with fail
  have A1 := ((HA.out.setNx x s).setAh x (L.N + i)).drew
  have K1 : Keeps L.own w _ := (((Keeps.refl L.own w).store (p := ⟨L.bn, x, none⟩) (.inl (.inl rfl)) (.int .i64 (s : Int))).store (p := ⟨L.ba, x, none⟩) (.inl (.inr (.inl rfl))) (.int .i64 ((L.N + i : Nat) : Int))).drew
  rw [show (((L.N + i : Nat) : Int)) = (L.N : Int) + (i : Int) from rfl] at A1 K1
  generalize (((w.setCell ⟨L.bn, x, none⟩ (.int .i64 (s : Int))).setCell ⟨L.ba, x, none⟩ (.int .i64 ((L.N : Int) + (i : Int)))).drew) = w1 at A1 K1 ⊢
  obtain ⟨p0, p1, p2, p3⟩ := A1.fields
  have g1 := A1.getNx (i := L.N + i) (by dsimp only; omega)
  have g2 := A1.getAh (i := s) (by dsimp only; omega)
  have k1 := A1.ah.free s
  have HA1 := Lib.hid A1
  dsimp only at p0 p1 p2 p3 g1 g2 k1
  rw [getD_ne _ _ _ (by omega)] at g1
  rw [← HC.out] at g1
  clear A1 c1 c2 c3 o0 o1 o2 o3 f2 f3
  go_region
  have A2 := (HA1.out.setAh s x).drew
  have K2 := (K1.store (p := ⟨L.ba, s, none⟩) (Or.inl (.inr (.inl rfl))) (.int .i64 (x : Int))).drew
  dsimp only at A2
  clear p0 p1 p2 p3 g1 g2 k1 K1 HA1
  generalize ((w1.setCell ⟨L.ba, s, none⟩ (.int .i64 (x : Int))).drew) = w2 at A2 K2 ⊢
  obtain ⟨p0, p1, p2, p3⟩ := A2.fields
  have g1 := A2.getNx (i := L.N + i) (by dsimp only; omega)
  have g2 := A2.getWh (i := x) (by dsimp only; omega)
  have g3 := A2.getLn (i := i) (by dsimp only; omega)
  have k1 := A2.nx.free (L.N + i)
  have k2 := A2.wh.free x
  have k3 := A2.ln.free i
  have d2 := A2.nw
  have d3 := A2.nl
  have d4 := A2.wl
  have e3 := A2.ew
  have e4 := A2.el
  dsimp only at p0 p1 p2 p3 g1 g2 g3 k1 k2 k3 d2 d3 d4 e1 e2 e3 e4
  have A3 := ((A2.setNx (L.N + i) x).setWh x i).setLn i (L.ln.getD i 0 + 1)
  have K3 := ((K2.store (p := ⟨L.bn, L.N + i, none⟩) (Or.inl (.inl rfl)) (.int .i64 (x : Int))).store (p := ⟨L.bw, x, none⟩) (Or.inl (.inr (.inr (.inl rfl)))) (.int .i64 (i : Int))).store (p := ⟨L.bl, i, none⟩) (Or.inl (.inr (.inr (.inr rfl)))) (.int .i64 ((L.ln.getD i 0 + 1 : Nat) : Int))
  have HA3 := Lib.hid A3
  have HK3 := Lib.hid K3
  have hlb : L.ln.getD i 0 ≤ 65536 := hln
  generalize hlg : L.ln.getD i 0 = lv at *
  have HLG := Lib.hid hlg
  clear A2 A3 K2 K3 hln hlg
  go_wp2_with fail
  go_end0
  refine ⟨rfl, ?_, HK3.out⟩
  have := HA3.out
  unfold LL.put
  rw [← HC.out, HLG.out]
  exact this

end Go.Proofs.Ythnagihgjenimaa
