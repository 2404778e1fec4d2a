/- Merged of: Lru LruOut Chain Rep Calls Calls2 Ends LNil. -/
import Derived.Test.YthnagihgjenimaaDoorBlk
import Derived.Test.YthnagihgjenimaaDoorRows
import Derived.WalkLawsBesides
import Derived.WalkSpells
import Derived.Outline
import Derived.BigRegion
import Derived.BigQuiet
import Derived.Deep.QuietTactic
import Derived.StillTailTactics
/- The lists' memory, and what put and out make of it. -/
namespace Go.Proofs.YthnagihgjenimaaDoor
open Go.RowKit

def nats (l : List Nat) : List Value := l.map fun n : Nat => Value.int .i64 (n : Int)
def lints (l : List Int) : List Value := l.map (Value.int .i64)

/-- The lists' memory: the object's block B, its four arrays' blocks; how many numbers, how many lists; the four arrays. -/
structure LL where
  B : Nat
  bn : Nat
  ba : Nat
  bw : Nat
  bl : Nat
  N : Nat
  n : Nat
  nx : List Nat
  ah : List Nat
  wh : List Int
  ln : List Nat

def LL.obj (L : LL) : List Value :=
  [.slice (some ⟨L.bn, 0, none⟩) (L.N + L.n) (L.N + L.n), .slice (some ⟨L.ba, 0, none⟩) (L.N + L.n) (L.N + L.n), .slice (some ⟨L.bw, 0, none⟩) L.N L.N, .slice (some ⟨L.bl, 0, none⟩) L.n L.n]

structure LL.At (L : LL) (w : World) : Prop where
  obj : Blk w L.B 130 L.obj
  nx : Blk w L.bn 3 (nats L.nx)
  ah : Blk w L.ba 3 (nats L.ah)
  wh : Blk w L.bw 3 (lints L.wh)
  ln : Blk w L.bl 3 (nats L.ln)
  na : L.bn ≠ L.ba
  nw : L.bn ≠ L.bw
  nl : L.bn ≠ L.bl
  aw : L.ba ≠ L.bw
  al : L.ba ≠ L.bl
  wl : L.bw ≠ L.bl
  lnx : L.nx.length = L.N + L.n
  lah : L.ah.length = L.N + L.n
  lwh : L.wh.length = L.N
  lln : L.ln.length = L.n
  N1 : 1 ≤ L.N
  N2 : L.N ≤ 65536
  n1 : 1 ≤ L.n
  n2 : L.n ≤ 64

theorem nats_get {l : List Nat} {i : Nat} (h : i < l.length) : (nats l)[i]? = some (.int .i64 ((l.getD i 0 : Nat) : Int)) := by simp [nats, h]
theorem lints_get {l : List Int} {i : Nat} (h : i < l.length) : (lints l)[i]? = some (.int .i64 (l.getD i 0)) := by simp [lints, h]

theorem getD_ne {α : Type} (l : List α) {i j : Nat} (v d : α) (h : i ≠ j) : (l.set i v).getD j d = l.getD j d := by
  simp [List.getD_eq_getElem?_getD, List.getElem?_set_ne h]
theorem getD_eq {α : Type} (l : List α) {i : Nat} (v d : α) (h : i < l.length) : (l.set i v).getD i d = v := by
  simp [List.getD_eq_getElem?_getD, h]

/-- lru's head. -/
theorem head_any (L : LL) (w : World) (h : L.At w) (i : Nat) (hi : i < L.n) :
    Calls Tryd.prog 85 #[.pointer (some ⟨L.B, 0, none⟩), .int .i64 i] w fun e w' => e = .returned (.int .i64 ((L.N + i : Nat) : Int)) ∧ w = w' := by
  have hc := h.obj.cell (i := 2) (v := .slice (some ⟨L.bw, 0, none⟩) L.N L.N) rfl
  have h1 := h.N2
  have h2 := h.n2
  clear h
  go_enter Tryd.func85, Tryd.ntmps85
  go_wp2
  go_ret
  exact ⟨rfl, rfl⟩

theorem nats_set (l : List Nat) (i v : Nat) : nats (l.set i v) = (nats l).set i (.int .i64 (v : Int)) := by simp [nats, List.map_set]
theorem ints_set' (l : List Int) (i : Nat) (v : Int) : lints (l.set i v) = (lints l).set i (.int .i64 v) := by simp [lints, List.map_set]

section
variable {L : LL} {w : World}
theorem LL.At.drew (h : L.At w) : L.At w.drew := ⟨h.obj, h.nx, h.ah, h.wh, h.ln, h.na, h.nw, h.nl, h.aw, h.al, h.wl, h.lnx, h.lah, h.lwh, h.lln, h.N1, h.N2, h.n1, h.n2⟩
theorem LL.At.drewN (h : L.At w) (q : Nat) : L.At (w.drewN q) := ⟨h.obj, h.nx, h.ah, h.wh, h.ln, h.na, h.nw, h.nl, h.aw, h.al, h.wl, h.lnx, h.lah, h.lwh, h.lln, h.N1, h.N2, h.n1, h.n2⟩
theorem LL.At.en (h : L.At w) : L.B ≠ L.bn := h.obj.ne h.nx (by decide)
theorem LL.At.ea (h : L.At w) : L.B ≠ L.ba := h.obj.ne h.ah (by decide)
theorem LL.At.ew (h : L.At w) : L.B ≠ L.bw := h.obj.ne h.wh (by decide)
theorem LL.At.el (h : L.At w) : L.B ≠ L.bl := h.obj.ne h.ln (by decide)
theorem LL.At.setNx (h : L.At w) (i v : Nat) : LL.At { L with nx := L.nx.set i v } (w.setCell ⟨L.bn, i, none⟩ (.int .i64 (v : Int))) :=
  ⟨h.obj.other h.en _, by show Blk _ _ _ (nats (L.nx.set i v)); rw [nats_set]; exact h.nx.store i _, h.ah.other h.na.symm _, h.wh.other h.nw.symm _, h.ln.other h.nl.symm _,
    h.na, h.nw, h.nl, h.aw, h.al, h.wl, by simpa using h.lnx, h.lah, h.lwh, h.lln, h.N1, h.N2, h.n1, h.n2⟩
theorem LL.At.setAh (h : L.At w) (i v : Nat) : LL.At { L with ah := L.ah.set i v } (w.setCell ⟨L.ba, i, none⟩ (.int .i64 (v : Int))) :=
  ⟨h.obj.other h.ea _, h.nx.other h.na _, by show Blk _ _ _ (nats (L.ah.set i v)); rw [nats_set]; exact h.ah.store i _, h.wh.other h.aw.symm _, h.ln.other h.al.symm _,
    h.na, h.nw, h.nl, h.aw, h.al, h.wl, h.lnx, by simpa using h.lah, h.lwh, h.lln, h.N1, h.N2, h.n1, h.n2⟩
theorem LL.At.setWh (h : L.At w) (i : Nat) (v : Int) : LL.At { L with wh := L.wh.set i v } (w.setCell ⟨L.bw, i, none⟩ (.int .i64 v)) :=
  ⟨h.obj.other h.ew _, h.nx.other h.nw _, h.ah.other h.aw _, by show Blk _ _ _ (lints (L.wh.set i v)); rw [ints_set']; exact h.wh.store i _, h.ln.other h.wl.symm _,
    h.na, h.nw, h.nl, h.aw, h.al, h.wl, h.lnx, h.lah, by simpa using h.lwh, h.lln, h.N1, h.N2, h.n1, h.n2⟩
theorem LL.At.setLn (h : L.At w) (i v : Nat) : LL.At { L with ln := L.ln.set i v } (w.setCell ⟨L.bl, i, none⟩ (.int .i64 (v : Int))) :=
  ⟨h.obj.other h.el _, h.nx.other h.nl _, h.ah.other h.al _, h.wh.other h.wl _, by show Blk _ _ _ (nats (L.ln.set i v)); rw [nats_set]; exact h.ln.store i _,
    h.na, h.nw, h.nl, h.aw, h.al, h.wl, h.lnx, h.lah, h.lwh, by simpa using h.lln, h.N1, h.N2, h.n1, h.n2⟩

/-- The object's four cells. -/
theorem LL.At.fields (h : L.At w) : w.cell? ⟨L.B, 0, none⟩ = some (.slice (some ⟨L.bn, 0, none⟩) (L.N + L.n) (L.N + L.n)) ∧ w.cell? ⟨L.B, 1, none⟩ = some (.slice (some ⟨L.ba, 0, none⟩) (L.N + L.n) (L.N + L.n)) ∧
    w.cell? ⟨L.B, 2, none⟩ = some (.slice (some ⟨L.bw, 0, none⟩) L.N L.N) ∧ w.cell? ⟨L.B, 3, none⟩ = some (.slice (some ⟨L.bl, 0, none⟩) L.n L.n) := ⟨h.obj.cell rfl, h.obj.cell rfl, h.obj.cell rfl, h.obj.cell rfl⟩
theorem LL.At.getNx (h : L.At w) {i : Nat} (hi : i < L.N + L.n) : w.cell? ⟨L.bn, i, none⟩ = some (.int .i64 ((L.nx.getD i 0 : Nat) : Int)) := h.nx.cell (nats_get (by rw [h.lnx]; exact hi))
theorem LL.At.getAh (h : L.At w) {i : Nat} (hi : i < L.N + L.n) : w.cell? ⟨L.ba, i, none⟩ = some (.int .i64 ((L.ah.getD i 0 : Nat) : Int)) := h.ah.cell (nats_get (by rw [h.lah]; exact hi))
theorem LL.At.getWh (h : L.At w) {i : Nat} (hi : i < L.N) : w.cell? ⟨L.bw, i, none⟩ = some (.int .i64 (L.wh.getD i 0)) := h.wh.cell (lints_get (by rw [h.lwh]; exact hi))
theorem LL.At.getLn (h : L.At w) {i : Nat} (hi : i < L.n) : w.cell? ⟨L.bl, i, none⟩ = some (.int .i64 ((L.ln.getD i 0 : Nat) : Int)) := h.ln.cell (nats_get (by rw [h.lln]; exact hi))
end

/-- The blocks that a call on lists may write. -/
def LL.own (L : LL) (k : Nat) : Prop := k = L.bn ∨ k = L.ba ∨ k = L.bw ∨ k = L.bl

/-- What put makes of the arrays. -/
def LL.put (L : LL) (i x : Nat) : LL :=
  { L with
    nx := (L.nx.set x (L.nx.getD (L.N + i) 0)).set (L.N + i) x
    ah := (L.ah.set x (L.N + i)).set (L.nx.getD (L.N + i) 0) x
    wh := L.wh.set x i
    ln := L.ln.set i (L.ln.getD i 0 + 1) }

def LL.Put (L : LL) (i x : Nat) (w : World) (e : Ending) (w' : World) : Prop := e = .returned (.tuple #[]) ∧ (L.put i x).At w' ∧ Keeps L.own w w'

set_option maxHeartbeats 1000000 in
theorem put_any (L : LL) (w : World) (h : L.At w) (i x : Nat) (hi : i < L.n) (hx : x < L.N) (hs : L.nx.getD (L.N + i) 0 < L.N + L.n) (hln : L.ln.getD i 0 ≤ 65536) :
    Calls Tryd.prog 82 #[.pointer (some ⟨L.B, 0, none⟩), .int .i64 i, .int .i64 x] w (L.Put i x w) := by
  have HA := Lib.hid h
  obtain ⟨s, hsd⟩ : ∃ s, s = L.nx.getD (L.N + i) 0 := ⟨_, rfl⟩
  have b1 := h.N2
  have b2 := h.n2
  have c1 := h.getNx (i := L.N + i) (by omega)
  have c2 := h.getNx (i := x) (by omega)
  have c3 := h.getAh (i := x) (by omega)
  obtain ⟨o0, o1, o2, o3⟩ := h.fields
  have f2 := h.nx.free x
  have f3 := h.ah.free x
  have d1 := h.na
  have e1 := h.en
  have e2 := h.ea
  have HC := Lib.hid hsd
  rw [← hsd] at c1 hs
  clear h hsd
  go_enter Tryd.func82, Tryd.ntmps82
  go_wp2_with (go_at_call 85; refine (head_any L _ HA.out i hi).mono ?_; rintro e w' ⟨rfl, rfl⟩)
  go_region
  go_wp2_with fail
  have A1 := ((HA.out.setNx x s).setAh x (L.N + i)).drew
  have K1 : Keeps L.own w _ := (((Keeps.refl L.own w).store (p := ⟨L.bn, x, none⟩) (.inl (.inl rfl)) (.int .i64 (s : Int))).store (p := ⟨L.ba, x, none⟩) (.inl (.inr (.inl rfl))) (.int .i64 ((L.N + i : Nat) : Int))).drew
  rw [show (((L.N + i : Nat) : Int)) = (L.N : Int) + (i : Int) from rfl] at A1 K1
  generalize (((w.setCell ⟨L.bn, x, none⟩ (.int .i64 (s : Int))).setCell ⟨L.ba, x, none⟩ (.int .i64 ((L.N : Int) + (i : Int)))).drew) = w1 at A1 K1 ⊢
  obtain ⟨p0, p1, p2, p3⟩ := A1.fields
  have g1 := A1.getNx (i := L.N + i) (by dsimp only; omega)
  have g2 := A1.getAh (i := s) (by dsimp only; omega)
  have k1 := A1.ah.free s
  have HA1 := Lib.hid A1
  dsimp only at p0 p1 p2 p3 g1 g2 k1
  rw [getD_ne _ _ _ (by omega)] at g1
  rw [← HC.out] at g1
  clear A1 c1 c2 c3 o0 o1 o2 o3 f2 f3
  go_region
  have A2 := (HA1.out.setAh s x).drew
  have K2 := (K1.store (p := ⟨L.ba, s, none⟩) (Or.inl (.inr (.inl rfl))) (.int .i64 (x : Int))).drew
  dsimp only at A2
  clear p0 p1 p2 p3 g1 g2 k1 K1 HA1
  generalize ((w1.setCell ⟨L.ba, s, none⟩ (.int .i64 (x : Int))).drew) = w2 at A2 K2 ⊢
  obtain ⟨p0, p1, p2, p3⟩ := A2.fields
  have g1 := A2.getNx (i := L.N + i) (by dsimp only; omega)
  have g2 := A2.getWh (i := x) (by dsimp only; omega)
  have g3 := A2.getLn (i := i) (by dsimp only; omega)
  have k1 := A2.nx.free (L.N + i)
  have k2 := A2.wh.free x
  have k3 := A2.ln.free i
  have d2 := A2.nw
  have d3 := A2.nl
  have d4 := A2.wl
  have e3 := A2.ew
  have e4 := A2.el
  dsimp only at p0 p1 p2 p3 g1 g2 g3 k1 k2 k3 d2 d3 d4 e1 e2 e3 e4
  have A3 := ((A2.setNx (L.N + i) x).setWh x i).setLn i (L.ln.getD i 0 + 1)
  have K3 := ((K2.store (p := ⟨L.bn, L.N + i, none⟩) (Or.inl (.inl rfl)) (.int .i64 (x : Int))).store (p := ⟨L.bw, x, none⟩) (Or.inl (.inr (.inr (.inl rfl)))) (.int .i64 (i : Int))).store (p := ⟨L.bl, i, none⟩) (Or.inl (.inr (.inr (.inr rfl)))) (.int .i64 ((L.ln.getD i 0 + 1 : Nat) : Int))
  have HA3 := Lib.hid A3
  have HK3 := Lib.hid K3
  have hlb : L.ln.getD i 0 ≤ 65536 := hln
  generalize hlg : L.ln.getD i 0 = lv at *
  have HLG := Lib.hid hlg
  clear A2 A3 K2 K3 hln hlg
  go_wp2_with fail
  go_end0
  refine ⟨rfl, ?_, HK3.out⟩
  have := HA3.out
  unfold LL.put
  rw [← HC.out, HLG.out]
  exact this

end Go.Proofs.YthnagihgjenimaaDoor

/- What out makes of the lists' memory. -/
namespace Go.Proofs.YthnagihgjenimaaDoor
open Go.RowKit

/-- What out makes of the arrays. -/
def LL.out (L : LL) (i x : Nat) : LL :=
  { L with
    nx := L.nx.set (L.ah.getD x 0) (L.nx.getD x 0)
    ah := L.ah.set (L.nx.getD x 0) (L.ah.getD x 0)
    wh := L.wh.set x (-1)
    ln := L.ln.set i (L.ln.getD i 0 - 1) }

def LL.Out (L : LL) (i x : Nat) (w : World) (e : Ending) (w' : World) : Prop := e = .returned (.int .i64 (i : Int)) ∧ (L.out i x).At w' ∧ Keeps L.own w w'

set_option maxRecDepth 100000 in
set_option maxHeartbeats 2000000 in
theorem out_any (L : LL) (w : World) (h : L.At w) (i x : Nat) (hi : i < L.n) (hx : x < L.N) (hwx : L.wh.getD x 0 = (i : Int)) (hp : L.ah.getD x 0 < L.N + L.n) (hs : L.nx.getD x 0 < L.N + L.n) (hln1 : 1 ≤ L.ln.getD i 0) (hln : L.ln.getD i 0 ≤ 65536) :
    Calls Tryd.prog 84 #[.pointer (some ⟨L.B, 0, none⟩), .int .i64 x] w (L.Out i x w) := by
  have HA := Lib.hid h
  obtain ⟨s, hsd⟩ : ∃ s, s = L.nx.getD x 0 := ⟨_, rfl⟩
  obtain ⟨p, hpd⟩ : ∃ p, p = L.ah.getD x 0 := ⟨_, rfl⟩
  have b1 := h.N2
  have b2 := h.n2
  have c1 := h.getNx (i := x) (by omega)
  have c2 := h.getAh (i := x) (by omega)
  have c3 := h.getNx (i := p) (by omega)
  have c4 := h.getAh (i := s) (by omega)
  have c5 := h.getWh (i := x) (by omega)
  obtain ⟨o0, o1, o2, o3⟩ := h.fields
  have f1 := h.nx.free p
  have f2 := h.ah.free s
  have d1 := h.na
  have e1 := h.en
  have e2 := h.ea
  have HC := Lib.hid hsd
  have HP := Lib.hid hpd
  rw [← hsd] at c1 hs
  rw [← hpd] at c2 hp
  rw [hwx] at c5
  clear h hsd hpd hwx
  go_enter Tryd.func84, Tryd.ntmps84
  go_wp2_with fail
  have q1 : x < L.N + L.n := by omega
  have q2 : (x : Int) < (L.N : Int) + (L.n : Int) := by omega
  have q3 : (0 : Int) ≤ (x : Int) := by omega
  have q4 : (p : Int) < (L.N : Int) + (L.n : Int) := by omega
  have q5 : (s : Int) < (L.N : Int) + (L.n : Int) := by omega
  go_still_tail 36, (by kernel_rfl)
  change wpList _ _ _ _ _ w.drew
  have A1 := HA.out.drew
  have A2 := (((A1.setNx p s).setAh s p).setWh x (-1)).setLn i (L.ln.getD i 0 - 1)
  have K2 : Keeps L.own w _ := (((((Keeps.refl L.own w).drew.store (p := ⟨L.bn, p, none⟩) (Or.inl (.inl rfl)) (.int .i64 (s : Int))).store (p := ⟨L.ba, s, none⟩) (Or.inl (.inr (.inl rfl))) (.int .i64 (p : Int)))).store (p := ⟨L.bw, x, none⟩) (Or.inl (.inr (.inr (.inl rfl)))) (.int .i64 (-1))).store (p := ⟨L.bl, i, none⟩) (Or.inl (.inr (.inr (.inr rfl)))) (.int .i64 ((L.ln.getD i 0 - 1 : Nat) : Int))
  dsimp only at A2
  clear f1 f2 c1 c2 c3 c4 c5 o0 o1 o2 o3
  generalize w.drew = w1 at A1 A2 K2 ⊢
  obtain ⟨p0, p1, p2, p3⟩ := A1.fields
  have g1 := A1.getNx (i := p) (by omega)
  have g2 := A1.getAh (i := s) (by omega)
  have g3 := A1.getWh (i := x) (by omega)
  have g4 := A1.getLn (i := i) (by omega)
  have k1 := A1.nx.free p
  have k2 := A1.ah.free s
  have k3 := A1.wh.free x
  have k4 := A1.ln.free i
  have d2 := A1.nw
  have d3 := A1.nl
  have d4 := A1.wl
  have d5 := A1.aw
  have d6 := A1.al
  have e3 := A1.ew
  have e4 := A1.el
  have HA3 := Lib.hid A2
  have HK3 := Lib.hid K2
  generalize hlg : L.ln.getD i 0 = lv at *
  have hl1 : ((lv - 1 : Nat) : Int) = (lv : Int) - 1 := by omega
  rw [hl1] at HA3 HK3
  have HLG := Lib.hid hlg
  clear A1 A2 K2 hlg hl1
  go_wp2_with fail
  go_ret
  refine ⟨rfl, ?_, HK3.out⟩
  have := HA3.out
  unfold LL.out
  rw [← HC.out, ← HP.out, HLG.out]
  exact this
end Go.Proofs.YthnagihgjenimaaDoor

/- Rings of numbers told by arrays: what a store makes of a chain. Plain lists, no program. -/
namespace Go.Proofs.YthnagihgjenimaaDoor

/-- From a on, f leads through the numbers of the list to b. -/
def Chain (f : List Nat) : Nat → List Nat → Nat → Prop
  | a, [], b => f.getD a 0 = b
  | a, x :: r, b => f.getD a 0 = x ∧ Chain f x r b

theorem gset_ne (l : List Nat) {i j : Nat} (v : Nat) (h : i ≠ j) : (l.set i v).getD j 0 = l.getD j 0 := by
  simp [List.getD_eq_getElem?_getD, List.getElem?_set_ne h]
theorem gset_eq (l : List Nat) {i : Nat} (v : Nat) (h : i < l.length) : (l.set i v).getD i 0 = v := by
  simp [List.getD_eq_getElem?_getD, h]

theorem chain_app (f : List Nat) : ∀ (xs : List Nat) (a y : Nat) (ys : List Nat) (b : Nat), Chain f a (xs ++ y :: ys) b ↔ Chain f a xs y ∧ Chain f y ys b
  | [], a, y, ys, b => by simp [Chain]
  | x :: r, a, y, ys, b => by simp [Chain, chain_app f r x y ys b, and_assoc]

theorem chain_first (f : List Nat) (a : Nat) (xs : List Nat) (b : Nat) (h : Chain f a xs b) : f.getD a 0 = xs.head?.getD b := by
  cases xs with
  | nil => exact h
  | cons x r => exact h.1

theorem chain_set (f : List Nat) (k v : Nat) : ∀ (xs : List Nat) (a b : Nat), a ≠ k → (∀ z ∈ xs, z ≠ k) → Chain f a xs b → Chain (f.set k v) a xs b
  | [], a, b, ha, _, h => by
    show (f.set k v).getD a 0 = b
    rw [gset_ne f v (fun e => ha e.symm)]; exact h
  | x :: r, a, b, ha, hx, h => by
    refine ⟨?_, chain_set f k v r x b (hx x (List.mem_cons_self ..)) (fun z hz => hx z (List.mem_cons_of_mem _ hz)) h.2⟩
    rw [gset_ne f v (fun e => ha e.symm)]; exact h.1

/-- A chain whose first number leads elsewhere is a chain from there: where it began has been put ahead. -/
theorem chain_from (f : List Nat) {a c : Nat} (xs : List Nat) (b : Nat) (h : Chain f a xs b) (hc : f.getD c 0 = f.getD a 0) : Chain f c xs b := by
  cases xs with
  | nil => exact hc.trans h
  | cons x r => exact ⟨hc.trans h.1, h.2⟩

/-- The last one of a and xs. -/
def lastOf (a : Nat) : List Nat → Nat
  | [] => a
  | x :: r => lastOf x r

theorem lastOf_mem (a : Nat) : ∀ xs, lastOf a xs = a ∨ lastOf a xs ∈ xs
  | [] => .inl rfl
  | x :: r => by
    right
    rcases lastOf_mem x r with h | h
    · rw [lastOf, h]; exact List.mem_cons_self ..
    · exact List.mem_cons_of_mem _ h

theorem lastOf_snoc (a x : Nat) : ∀ xs, lastOf a (xs ++ [x]) = x := by
  intro xs
  induction xs generalizing a with
  | nil => rfl
  | cons y r ih => exact ih y

theorem lastOf_reverse (a : Nat) (xs : List Nat) : xs.reverse.head?.getD a = lastOf a xs := by
  induction xs generalizing a with
  | nil => rfl
  | cons x r ih =>
    rw [List.reverse_cons, lastOf, ← ih x]
    cases h : r.reverse with
    | nil => rfl
    | cons y s => rfl

/-- The last link of a chain turned. -/
theorem chain_relink (f : List Nat) (s : Nat) : ∀ (xs : List Nat) (a b : Nat), (a :: xs).Nodup → lastOf a xs < f.length → Chain f a xs b → Chain (f.set (lastOf a xs) s) a xs s
  | [], a, b, _, hl, _ => gset_eq f s hl
  | x :: r, a, b, hn, hl, h => by
    have hn' := List.nodup_cons.1 hn
    refine ⟨?_, chain_relink f s r x b hn'.2 hl h.2⟩
    rw [gset_ne f s (fun e => ?_)]
    · exact h.1
    · have : lastOf a (x :: r) ∈ x :: r := by
        rcases lastOf_mem x r with h' | h'
        · rw [lastOf, h']; exact List.mem_cons_self ..
        · exact List.mem_cons_of_mem _ h'
      rw [e] at this
      exact hn'.1 this

/-- x is taken out of a ring. -/
theorem chain_remove (f : List Nat) (h x : Nat) (xs ys : List Nat) (hn : (h :: (xs ++ x :: ys)).Nodup) (hl : lastOf h xs < f.length) (hc : Chain f h (xs ++ x :: ys) h) :
    Chain (f.set (lastOf h xs) (f.getD x 0)) h (xs ++ ys) h := by
  obtain ⟨h1, h2⟩ := (chain_app f xs h x ys h).1 hc
  have hn1 : (h :: xs).Nodup := hn.sublist (List.Sublist.cons_cons h (List.sublist_append_left xs _))
  have hr := chain_relink f (f.getD x 0) xs h x hn1 hl h1
  cases ys with
  | nil =>
    rw [List.append_nil]
    have : f.getD x 0 = h := h2
    rw [this] at hr ⊢
    exact hr
  | cons y r =>
    obtain ⟨e, h3⟩ := h2
    rw [e] at hr ⊢
    refine (chain_app _ xs h y r h).2 ⟨hr, ?_⟩
    have hd : ∀ z ∈ h :: xs, ∀ u ∈ y :: r, z ≠ u := by
      intro z hz u hu e'
      subst e'
      rw [← List.cons_append, List.nodup_append] at hn
      exact hn.2.2 z hz z (List.mem_cons_of_mem _ hu) rfl
    have hm : lastOf h xs ∈ h :: xs := by
      rcases lastOf_mem h xs with h' | h'
      · rw [h']; exact List.mem_cons_self ..
      · exact List.mem_cons_of_mem _ h'
    exact chain_set f _ _ r y h (fun e' => hd _ hm y (List.mem_cons_self ..) e'.symm) (fun z hz e' => hd _ hm z (List.mem_cons_of_mem _ hz) e'.symm) h3

/-- x is put ahead of all in a ring: the links forward. -/
theorem chain_ahead (f : List Nat) (h x : Nat) (xs : List Nat) (hx : x ≠ h) (hxs : ∀ z ∈ xs, z ≠ x ∧ z ≠ h) (hlx : x < f.length) (hlh : h < f.length) (hc : Chain f h xs h) :
    Chain ((f.set x (f.getD h 0)).set h x) h (x :: xs) h := by
  refine ⟨gset_eq _ _ (by simpa using hlh), ?_⟩
  have h0 : ((f.set x (f.getD h 0)).set h x).getD x 0 = f.getD h 0 := by rw [gset_ne _ _ (fun e => hx e.symm), gset_eq _ _ hlx]
  cases xs with
  | nil => exact h0.trans hc
  | cons y r =>
    refine ⟨h0.trans hc.1, ?_⟩
    have hy := hxs y (List.mem_cons_self ..)
    exact chain_set _ _ _ r y h hy.2 (fun z hz => (hxs z (List.mem_cons_of_mem _ hz)).2) (chain_set _ _ _ r y h hy.1 (fun z hz => (hxs z (List.mem_cons_of_mem _ hz)).1) hc.2)

/-- x is put ahead of all in a ring: the links backward. -/
theorem chain_behind (f : List Nat) (h x : Nat) (xs : List Nat) (hx : x ≠ h) (hxs : ∀ z ∈ xs, z ≠ x ∧ z ≠ h) (hn : xs.Nodup) (hlx : x < f.length) (hs : xs.head?.getD h < f.length) (hc : Chain f h xs.reverse h) :
    Chain ((f.set x h).set (xs.head?.getD h) x) h (xs.reverse ++ [x]) h := by
  refine (chain_app _ xs.reverse h x [] h).2 ⟨?_, ?_⟩
  · cases xs with
    | nil => exact gset_eq _ _ (by simpa using hs)
    | cons y r =>
      have hy := hxs y (List.mem_cons_self ..)
      rw [List.reverse_cons] at hc ⊢
      obtain ⟨h1, _⟩ := (chain_app f r.reverse h y [] h).1 hc
      refine (chain_app _ r.reverse h y [] x).2 ⟨?_, gset_eq _ _ (by simpa using hs)⟩
      have hny := (List.nodup_cons.1 hn).1
      refine chain_set _ _ _ _ _ _ (fun e => hy.2 e.symm) (fun z hz e => ?_) (chain_set _ _ _ _ _ _ (fun e => hx e.symm) (fun z hz e => ?_) h1)
      · exact hny (by have := List.mem_reverse.1 hz; rw [e] at this; exact this)
      · exact (hxs z (List.mem_cons_of_mem _ (List.mem_reverse.1 hz))).1 e
  · show ((f.set x h).set (xs.head?.getD h) x).getD x 0 = h
    rw [gset_ne, gset_eq _ _ hlx]
    intro e
    cases xs with
    | nil => exact hx e.symm
    | cons y r => exact (hxs y (List.mem_cons_self ..)).1 e

end Go.Proofs.YthnagihgjenimaaDoor

/- What the lists' arrays mean: lists of numbers, each number in at most one; put and out keep it. -/
namespace Go.Proofs.YthnagihgjenimaaDoor
open Go.RowKit

/-- The lists' arrays tell the lists ls: list i is ls i, the newest number first. -/
structure Rep (L : LL) (ls : Nat → List Nat) : Prop where
  lnx : L.nx.length = L.N + L.n
  lah : L.ah.length = L.N + L.n
  lwh : L.wh.length = L.N
  lln : L.ln.length = L.n
  lt : ∀ i x, i < L.n → x ∈ ls i → x < L.N
  nodup : ∀ i, i < L.n → (ls i).Nodup
  apart : ∀ i j x, i < L.n → j < L.n → x ∈ ls i → x ∈ ls j → i = j
  fwd : ∀ i, i < L.n → Chain L.nx (L.N + i) (ls i) (L.N + i)
  bwd : ∀ i, i < L.n → Chain L.ah (L.N + i) (ls i).reverse (L.N + i)
  inn : ∀ i x, i < L.n → x ∈ ls i → L.wh.getD x 0 = (i : Int)
  out : ∀ x, x < L.N → (∀ i, i < L.n → x ∉ ls i) → L.wh.getD x 0 = -1
  ln : ∀ i, i < L.n → L.ln.getD i 0 = (ls i).length

/-- Lists with list i turned. -/
def upd (ls : Nat → List Nat) (i : Nat) (l : List Nat) : Nat → List Nat := fun j => if j = i then l else ls j
theorem upd_same (ls : Nat → List Nat) (i : Nat) (l : List Nat) : upd ls i l i = l := by simp [upd]
theorem upd_ne (ls : Nat → List Nat) {i j : Nat} (l : List Nat) (h : j ≠ i) : upd ls i l j = ls j := by simp [upd, h]

/-- Unlike numbers below N are at most N. -/
theorem pigeon : ∀ (N : Nat) (l : List Nat), l.Nodup → (∀ x ∈ l, x < N) → l.length ≤ N
  | 0, l, _, h => by
    cases l with
    | nil => exact Nat.le_refl _
    | cons x r => exact absurd (h x (List.mem_cons_self ..)) (by omega)
  | N + 1, l, hn, h => by
    have h1 := pigeon N (l.erase N) (hn.erase N) (fun x hx => by
      have h2 := h x (List.mem_of_mem_erase hx)
      have h3 : x ≠ N := ((List.Nodup.mem_erase_iff hn).1 hx).1
      omega)
    have h2 := List.length_erase (a := N) (l := l)
    split at h2 <;> omega

theorem Rep.len_le {L : LL} {ls : Nat → List Nat} (h : Rep L ls) {i : Nat} (hi : i < L.n) : (ls i).length ≤ L.N := by
  exact pigeon L.N (ls i) (h.nodup i hi) (fun x hx => h.lt i x hi hx)

theorem Rep.head_first {L : LL} {ls : Nat → List Nat} (h : Rep L ls) {i : Nat} (hi : i < L.n) : L.nx.getD (L.N + i) 0 = (ls i).head?.getD (L.N + i) := chain_first _ _ _ _ (h.fwd i hi)
theorem Rep.head_last {L : LL} {ls : Nat → List Nat} (h : Rep L ls) {i : Nat} (hi : i < L.n) : L.ah.getD (L.N + i) 0 = (ls i).getLast?.getD (L.N + i) := by
  rw [chain_first _ _ _ _ (h.bwd i hi), List.head?_reverse]

theorem headD_lt {L : LL} {ls : Nat → List Nat} (h : Rep L ls) {i : Nat} (hi : i < L.n) : (ls i).head?.getD (L.N + i) < L.N + L.n := by
  cases hl : ls i with
  | nil => simp; omega
  | cons y r =>
    have := h.lt i y hi (by rw [hl]; exact List.mem_cons_self ..)
    simp; omega

theorem gsetI_ne (l : List Int) {i j : Nat} (v : Int) (h : i ≠ j) : (l.set i v).getD j 0 = l.getD j 0 := by
  simp [List.getD_eq_getElem?_getD, List.getElem?_set_ne h]
theorem gsetI_eq (l : List Int) {i : Nat} (v : Int) (h : i < l.length) : (l.set i v).getD i 0 = v := by
  simp [List.getD_eq_getElem?_getD, h]

/-- put makes x the newest of list i. -/
theorem rep_put {L : LL} {ls : Nat → List Nat} (h : Rep L ls) {i x : Nat} (hi : i < L.n) (hx : x < L.N) (hf : ∀ j, j < L.n → x ∉ ls j) : Rep (L.put i x) (upd ls i (x :: ls i)) := by
  have hs := headD_lt h hi
  have hs0 := h.head_first hi
  have hlen := h.lnx
  have hlah := h.lah
  have hne : ∀ j z, j < L.n → z ∈ ls j → z ≠ x := fun j z hj hz e => hf j hj (e ▸ hz)
  have hnh : ∀ j k z, j < L.n → z ∈ ls j → z ≠ L.N + k := fun j k z hj hz e => by have := h.lt j z hj hz; omega
  have hsx : ∀ j, j < L.n → j ≠ i → ∀ z ∈ ls j, z ≠ (ls i).head?.getD (L.N + i) := by
    intro j hj hji z hz e
    cases hl : ls i with
    | nil => rw [hl] at e; exact hnh j i z hj hz e
    | cons y r =>
      rw [hl] at e
      exact hji (h.apart j i z hj hi hz (by rw [hl, show z = y from e]; exact List.mem_cons_self ..))
  refine ⟨?_, ?_, ?_, ?_, ?_, ?_, ?_, ?_, ?_, ?_, ?_, ?_⟩
  · simpa [LL.put] using h.lnx
  · simpa [LL.put] using h.lah
  · simpa [LL.put] using h.lwh
  · simpa [LL.put] using h.lln
  · intro j z hj hz
    by_cases e : j = i
    · subst e
      rw [upd_same] at hz
      rcases List.mem_cons.1 hz with e' | hz
      · rw [e']; exact hx
      · exact h.lt j z hj hz
    · rw [upd_ne _ _ e] at hz; exact h.lt j z hj hz
  · intro j hj
    by_cases e : j = i
    · subst e; rw [upd_same]; exact List.nodup_cons.2 ⟨hf j hj, h.nodup j hj⟩
    · rw [upd_ne _ _ e]; exact h.nodup j hj
  · intro j k z hj hk hzj hzk
    by_cases ej : j = i <;> by_cases ek : k = i
    · rw [ej, ek]
    · subst ej
      rw [upd_same] at hzj
      rw [upd_ne _ _ ek] at hzk
      rcases List.mem_cons.1 hzj with e | hz
      · exact absurd hzk (e ▸ hf k hk)
      · exact h.apart j k z hj hk hz hzk
    · subst ek
      rw [upd_same] at hzk
      rw [upd_ne _ _ ej] at hzj
      rcases List.mem_cons.1 hzk with e | hz
      · exact absurd hzj (e ▸ hf j hj)
      · exact h.apart j k z hj hk hzj hz
    · rw [upd_ne _ _ ej] at hzj
      rw [upd_ne _ _ ek] at hzk
      exact h.apart j k z hj hk hzj hzk
  · intro j hj
    show Chain ((L.nx.set x (L.nx.getD (L.N + i) 0)).set (L.N + i) x) (L.N + j) _ (L.N + j)
    by_cases e : j = i
    · subst e
      rw [upd_same]
      exact chain_ahead L.nx (L.N + j) x (ls j) (by omega) (fun z hz => ⟨hne j z hj hz, hnh j j z hj hz⟩) (by omega) (by omega) (h.fwd j hj)
    · rw [upd_ne _ _ e]
      exact chain_set _ _ _ _ _ _ (by omega) (fun z hz => hnh j i z hj hz) (chain_set _ _ _ _ _ _ (by omega) (fun z hz => hne j z hj hz) (h.fwd j hj))
  · intro j hj
    show Chain ((L.ah.set x (L.N + i)).set (L.nx.getD (L.N + i) 0) x) (L.N + j) _ (L.N + j)
    rw [hs0]
    by_cases e : j = i
    · subst e
      rw [upd_same, List.reverse_cons]
      exact chain_behind L.ah (L.N + j) x (ls j) (by omega) (fun z hz => ⟨hne j z hj hz, hnh j j z hj hz⟩) (h.nodup j hj) (by omega) (by omega) (h.bwd j hj)
    · rw [upd_ne _ _ e]
      refine chain_set _ _ _ _ _ _ (fun e' => ?_) (fun z hz => hsx j hj e z (List.mem_reverse.1 hz)) (chain_set _ _ _ _ _ _ (by omega) (fun z hz => hne j z hj (List.mem_reverse.1 hz)) (h.bwd j hj))
      cases hl : ls i with
      | nil => rw [hl] at e'; simp at e'; omega
      | cons y r => rw [hl] at e'; exact hnh i j y hi (by rw [hl]; exact List.mem_cons_self ..) e'.symm
  · intro j z hj hz
    show (L.wh.set x (i : Int)).getD z 0 = (j : Int)
    by_cases e : j = i
    · subst e
      rw [upd_same] at hz
      rcases List.mem_cons.1 hz with e' | hz
      · rw [e']; exact gsetI_eq _ _ (by rw [h.lwh]; exact hx)
      · rw [gsetI_ne _ _ (fun e' => hne j z hj hz e'.symm)]; exact h.inn j z hj hz
    · rw [upd_ne _ _ e] at hz
      rw [gsetI_ne _ _ (fun e' => hne j z hj hz e'.symm)]; exact h.inn j z hj hz
  · intro z hz hno
    show (L.wh.set x (i : Int)).getD z 0 = -1
    have hzx : x ≠ z := by
      intro e
      have := hno i hi
      rw [upd_same, e] at this
      exact this (List.mem_cons_self ..)
    rw [gsetI_ne _ _ hzx]
    refine h.out z hz fun j hj hm => hno j hj ?_
    by_cases e : j = i
    · subst e; rw [upd_same]; exact List.mem_cons_of_mem _ hm
    · rw [upd_ne _ _ e]; exact hm
  · intro j hj
    show (L.ln.set i (L.ln.getD i 0 + 1)).getD j 0 = _
    by_cases e : j = i
    · subst e; rw [upd_same, gset_eq _ _ (by rw [h.lln]; exact hj), h.ln j hj]; rfl
    · rw [upd_ne _ _ e, gset_ne _ _ (fun e' => e e'.symm)]; exact h.ln j hj

theorem getLastD_lastOf (a : Nat) (xs : List Nat) : xs.getLast?.getD a = lastOf a xs := by
  rw [← List.head?_reverse]; exact lastOf_reverse a xs

/-- Where x stands: the links round it. -/
theorem Rep.links {L : LL} {ls : Nat → List Nat} (h : Rep L ls) {i x : Nat} {xs ys : List Nat} (hi : i < L.n) (hl : ls i = xs ++ x :: ys) :
    L.nx.getD x 0 = ys.head?.getD (L.N + i) ∧ L.ah.getD x 0 = lastOf (L.N + i) xs := by
  have h1 := h.fwd i hi
  have h2 := h.bwd i hi
  rw [hl] at h1 h2
  rw [List.reverse_append, List.reverse_cons, List.append_assoc, List.singleton_append] at h2
  refine ⟨chain_first _ _ _ _ ((chain_app _ _ _ _ _ _).1 h1).2, ?_⟩
  rw [chain_first _ _ _ _ ((chain_app _ _ _ _ _ _).1 h2).2, lastOf_reverse]

theorem Rep.links_lt {L : LL} {ls : Nat → List Nat} (h : Rep L ls) {i x : Nat} {xs ys : List Nat} (hi : i < L.n) (hl : ls i = xs ++ x :: ys) :
    ys.head?.getD (L.N + i) < L.N + L.n ∧ lastOf (L.N + i) xs < L.N + L.n := by
  constructor
  · cases ys with
    | nil => simp; omega
    | cons y r => have := h.lt i y hi (by rw [hl]; simp); simp; omega
  · rcases lastOf_mem (L.N + i) xs with e | hm
    · rw [e]; omega
    · have := h.lt i _ hi (by rw [hl]; exact List.mem_append_left _ hm)
      omega

/-- out takes x from list i. -/
theorem rep_out {L : LL} {ls : Nat → List Nat} (h : Rep L ls) {i x : Nat} {xs ys : List Nat} (hi : i < L.n) (hl : ls i = xs ++ x :: ys) : Rep (L.out i x) (upd ls i (xs ++ ys)) := by
  obtain ⟨l1, l2⟩ := h.links hi hl
  obtain ⟨b1, b2⟩ := h.links_lt hi hl
  have hlen := h.lnx
  have hlah := h.lah
  have hxi : x ∈ ls i := by rw [hl]; simp
  have hx := h.lt i x hi hxi
  have hnd := h.nodup i hi
  rw [hl] at hnd
  have hsub : ∀ z, z ∈ xs ++ ys → z ∈ ls i := fun z hz => by
    rw [hl]
    rcases List.mem_append.1 hz with h' | h'
    · exact List.mem_append_left _ h'
    · exact List.mem_append_right _ (List.mem_cons_of_mem _ h')
  have hxno : x ∉ xs ++ ys := by
    intro hm
    rw [List.nodup_append] at hnd
    rcases List.mem_append.1 hm with h' | h'
    · exact hnd.2.2 x h' x (List.mem_cons_self ..) rfl
    · exact (List.nodup_cons.1 hnd.2.1).1 h'
  have hnh : ∀ j k z, j < L.n → z ∈ ls j → z ≠ L.N + k := fun j k z hj hz e => by have := h.lt j z hj hz; omega
  have hfull : ((L.N + i) :: (xs ++ x :: ys)).Nodup := List.nodup_cons.2 ⟨fun hm => hnh i i _ hi (hl ▸ hm) rfl, hnd⟩
  have hother : ∀ j, j < L.n → j ≠ i → ∀ z, z ∈ (L.N + j) :: ls j → z ≠ ys.head?.getD (L.N + i) ∧ z ≠ lastOf (L.N + i) xs := by
    intro j hj hji z hz
    have key : ∀ u, u = L.N + i ∨ u ∈ ls i → z ≠ u := by
      intro u hu e
      subst e
      rcases List.mem_cons.1 hz with e | hz
      · rcases hu with e' | hu
        · omega
        · exact hnh i j z hi hu e
      · rcases hu with e' | hu
        · exact hnh j i z hj hz e'
        · exact hji (h.apart j i z hj hi hz hu)
    refine ⟨key _ ?_, key _ ?_⟩
    · cases ys with
      | nil => exact .inl rfl
      | cons y r => exact .inr (by rw [hl]; simp)
    · rcases lastOf_mem (L.N + i) xs with e | hm
      · exact .inl e
      · exact .inr (by rw [hl]; exact List.mem_append_left _ hm)
  refine ⟨?_, ?_, ?_, ?_, ?_, ?_, ?_, ?_, ?_, ?_, ?_, ?_⟩
  · simpa [LL.out] using h.lnx
  · simpa [LL.out] using h.lah
  · simpa [LL.out] using h.lwh
  · simpa [LL.out] using h.lln
  · intro j z hj hz
    by_cases e : j = i
    · subst e; rw [upd_same] at hz; exact h.lt j z hj (hsub z hz)
    · rw [upd_ne _ _ e] at hz; exact h.lt j z hj hz
  · intro j hj
    by_cases e : j = i
    · subst e
      rw [upd_same]
      exact hnd.sublist (List.Sublist.append (List.Sublist.refl xs) (List.sublist_cons_self x ys))
    · rw [upd_ne _ _ e]; exact h.nodup j hj
  · intro j k z hj hk hzj hzk
    refine h.apart j k z hj hk ?_ ?_
    · by_cases e : j = i
      · subst e; rw [upd_same] at hzj; exact hsub z hzj
      · rw [upd_ne _ _ e] at hzj; exact hzj
    · by_cases e : k = i
      · subst e; rw [upd_same] at hzk; exact hsub z hzk
      · rw [upd_ne _ _ e] at hzk; exact hzk
  · intro j hj
    show Chain (L.nx.set (L.ah.getD x 0) (L.nx.getD x 0)) (L.N + j) _ (L.N + j)
    rw [l2]
    by_cases e : j = i
    · subst e
      rw [upd_same]
      exact chain_remove L.nx (L.N + j) x xs ys hfull (by omega) (hl ▸ h.fwd j hj)
    · rw [upd_ne _ _ e]
      have ho := hother j hj e
      exact chain_set _ _ _ _ _ _ (ho _ (List.mem_cons_self ..)).2 (fun z hz => (ho z (List.mem_cons_of_mem _ hz)).2) (h.fwd j hj)
  · intro j hj
    show Chain (L.ah.set (L.nx.getD x 0) (L.ah.getD x 0)) (L.N + j) _ (L.N + j)
    rw [l1]
    by_cases e : j = i
    · subst e
      rw [upd_same, List.reverse_append]
      have hb := h.bwd j hj
      rw [hl, List.reverse_append, List.reverse_cons, List.append_assoc, List.singleton_append] at hb
      have hlast : lastOf (L.N + j) ys.reverse = ys.head?.getD (L.N + j) := by rw [← lastOf_reverse, List.reverse_reverse]
      have hfr : ((L.N + j) :: (ys.reverse ++ x :: xs.reverse)).Nodup := by
        have : (ys.reverse ++ x :: xs.reverse) = (xs ++ x :: ys).reverse := by simp
        rw [this]
        have h2 := List.nodup_cons.1 hfull
        exact List.nodup_cons.2 ⟨fun hm => h2.1 (List.mem_reverse.1 hm), List.pairwise_reverse.2 (h2.2.imp fun hab => hab.symm)⟩
      have := chain_remove L.ah (L.N + j) x ys.reverse xs.reverse hfr (by rw [hlast]; omega) hb
      rw [hlast] at this
      exact this
    · rw [upd_ne _ _ e]
      have ho := hother j hj e
      exact chain_set _ _ _ _ _ _ (ho _ (List.mem_cons_self ..)).1 (fun z hz => (ho z (List.mem_cons_of_mem _ (List.mem_reverse.1 hz))).1) (h.bwd j hj)
  · intro j z hj hz
    show (L.wh.set x (-1)).getD z 0 = (j : Int)
    have hzx : x ≠ z := by
      intro e'
      by_cases e : j = i
      · subst e; rw [upd_same, ← e'] at hz; exact hxno hz
      · rw [upd_ne _ _ e, ← e'] at hz; exact e (h.apart j i x hj hi hz hxi)
    rw [gsetI_ne _ _ hzx]
    by_cases e : j = i
    · subst e; rw [upd_same] at hz; exact h.inn j z hj (hsub z hz)
    · rw [upd_ne _ _ e] at hz; exact h.inn j z hj hz
  · intro z hz hno
    show (L.wh.set x (-1)).getD z 0 = -1
    by_cases hzx : x = z
    · subst hzx; exact gsetI_eq _ _ (by rw [h.lwh]; exact hz)
    · rw [gsetI_ne _ _ hzx]
      refine h.out z hz fun j hj hm => hno j hj ?_
      by_cases e : j = i
      · subst e
        rw [upd_same]
        rw [hl] at hm
        rcases List.mem_append.1 hm with h' | h'
        · exact List.mem_append_left _ h'
        · rcases List.mem_cons.1 h' with e' | h'
          · exact absurd e'.symm hzx
          · exact List.mem_append_right _ h'
      · rw [upd_ne _ _ e]; exact hm
  · intro j hj
    show (L.ln.set i (L.ln.getD i 0 - 1)).getD j 0 = _
    by_cases e : j = i
    · subst e; rw [upd_same, gset_eq _ _ (by rw [h.lln]; exact hj), h.ln j hj, hl]; simp
    · rw [upd_ne _ _ e, gset_ne _ _ (fun e' => e e'.symm)]; exact h.ln j hj

end Go.Proofs.YthnagihgjenimaaDoor

/- The lists' calls: what each returns and makes of the lists. -/
namespace Go.Proofs.YthnagihgjenimaaDoor
open Go.RowKit
set_option linter.unusedVariables false

/-- Where the lists lie, and how many. -/
structure LK where
  B : Nat
  bn : Nat
  ba : Nat
  bw : Nat
  bl : Nat
  N : Nat
  n : Nat

def LK.full (k : LK) (nx ah : List Nat) (wh : List Int) (ln : List Nat) : LL := ⟨k.B, k.bn, k.ba, k.bw, k.bl, k.N, k.n, nx, ah, wh, ln⟩
def LK.own (k : LK) (b : Nat) : Prop := b = k.bn ∨ b = k.ba ∨ b = k.bw ∨ b = k.bl
def LK.ptr (k : LK) : Value := .pointer (some ⟨k.B, 0, none⟩)
/-- In world w the lists hold ls. -/
def LK.Has (k : LK) (w : World) (ls : Nat → List Nat) : Prop := ∃ nx ah wh ln, (k.full nx ah wh ln).At w ∧ Rep (k.full nx ah wh ln) ls

section
variable {k : LK} {w w' : World} {ls : Nat → List Nat}
theorem LK.Has.keep (h : k.Has w ls) {S : Nat → Prop} (hk : Keeps S w w') (hB : ¬ S k.B) (hn : ¬ S k.bn) (ha : ¬ S k.ba) (hw : ¬ S k.bw) (hl : ¬ S k.bl) : k.Has w' ls := by
  obtain ⟨nx, ah, wh, ln, h1, h2⟩ := h
  exact ⟨nx, ah, wh, ln, ⟨hk.blk h1.obj hB, hk.blk h1.nx hn, hk.blk h1.ah ha, hk.blk h1.wh hw, hk.blk h1.ln hl, h1.na, h1.nw, h1.nl, h1.aw, h1.al, h1.wl, h1.lnx, h1.lah, h1.lwh, h1.lln, h1.N1, h1.N2, h1.n1, h1.n2⟩, h2⟩
theorem LK.Has.quiet (h : k.Has w ls) (hk : Keeps (fun _ => False) w w') : k.Has w' ls := h.keep hk id id id id id
theorem LK.Has.lt (h : k.Has w ls) : k.B < w.heap.size ∧ ∀ b, k.own b → b < w.heap.size := by
  obtain ⟨nx, ah, wh, ln, h1, h2⟩ := h
  refine ⟨h1.obj.lt, fun b hb => ?_⟩
  rcases hb with rfl | rfl | rfl | rfl
  · exact h1.nx.lt
  · exact h1.ah.lt
  · exact h1.wh.lt
  · exact h1.ln.lt
theorem LK.Has.bounds (h : k.Has w ls) : 1 ≤ k.N ∧ k.N ≤ 65536 ∧ 1 ≤ k.n ∧ k.n ≤ 64 := by
  obtain ⟨nx, ah, wh, ln, h1, h2⟩ := h
  exact ⟨h1.N1, h1.N2, h1.n1, h1.n2⟩
theorem LK.Has.mem_lt (h : k.Has w ls) {i x : Nat} (hi : i < k.n) (hx : x ∈ ls i) : x < k.N := by
  obtain ⟨nx, ah, wh, ln, h1, h2⟩ := h
  exact h2.lt i x hi hx
theorem LK.Has.apart (h : k.Has w ls) {i j x : Nat} (hi : i < k.n) (hj : j < k.n) (hx : x ∈ ls i) (hy : x ∈ ls j) : i = j := by
  obtain ⟨nx, ah, wh, ln, h1, h2⟩ := h
  exact h2.apart i j x hi hj hx hy
theorem LK.Has.nodup (h : k.Has w ls) {i : Nat} (hi : i < k.n) : (ls i).Nodup := by
  obtain ⟨nx, ah, wh, ln, h1, h2⟩ := h
  exact h2.nodup i hi
theorem LK.Has.len_le (h : k.Has w ls) {i : Nat} (hi : i < k.n) : (ls i).length ≤ k.N := by
  obtain ⟨nx, ah, wh, ln, h1, h2⟩ := h
  exact h2.len_le hi
end

/-- May there be such a list, such a number? -/
def okLN (k : LK) (i x : Int) : Prop := 0 ≤ i ∧ i < (k.n : Int) ∧ 0 ≤ x ∧ x < (k.N : Int)

theorem ready_ok (k : LK) (w : World) (ls : Nat → List Nat) (h : k.Has w ls) (i x : Int) (ho : okLN k i x) :
    Calls Tryd.prog 81 #[k.ptr, .int .i64 i, .int .i64 x] w fun e w' => e = .returned (.int .i64 0) ∧ w = w' := by
  obtain ⟨nx, ah, wh, ln, h1, h2⟩ := h
  obtain ⟨o0, o1, o2, o3⟩ := h1.fields
  dsimp only [LK.full] at o0 o1 o2 o3
  obtain ⟨a1, a2, a3, a4⟩ := ho
  clear h1 h2
  unfold LK.ptr
  go_enter Tryd.func81, Tryd.ntmps81
  go_wp2
  go_ret
  exact ⟨rfl, rfl⟩

theorem ready_no (k : LK) (w : World) (ls : Nat → List Nat) (h : k.Has w ls) (i x : Int) (ho : ¬ okLN k i x) :
    Calls Tryd.prog 81 #[k.ptr, .int .i64 i, .int .i64 x] w fun e w' => e = .returned (.int .i64 2) ∧ w = w' := by
  obtain ⟨nx, ah, wh, ln, h1, h2⟩ := h
  obtain ⟨o0, o1, o2, o3⟩ := h1.fields
  dsimp only [LK.full] at o0 o1 o2 o3
  have hc : i < 0 ∨ (0 ≤ i ∧ (k.n : Int) ≤ i) ∨ (0 ≤ i ∧ i < (k.n : Int) ∧ x < 0) ∨ (0 ≤ i ∧ i < (k.n : Int) ∧ 0 ≤ x ∧ (k.N : Int) ≤ x) := by unfold okLN at ho; omega
  clear h1 h2 ho
  unfold LK.ptr
  rcases hc with a1 | ⟨a1, a2⟩ | ⟨a1, a2, a3⟩ | ⟨a1, a2, a3, a4⟩ <;>
  · go_enter Tryd.func81, Tryd.ntmps81
    go_wp2
    go_ret
    exact ⟨rfl, rfl⟩

/-- Push of what may not be. -/
theorem push_bad (k : LK) (w : World) (ls : Nat → List Nat) (h : k.Has w ls) (i x : Int) (ho : ¬ okLN k i x) :
    Calls Tryd.prog 67 #[k.ptr, .int .i64 i, .int .i64 x] w fun e w' => e = .returned (.int .i64 2) ∧ w = w' := by
  have H := Lib.hid h
  have HO := Lib.hid ho
  clear h ho
  go_enter Tryd.func67, Tryd.ntmps67
  go_wp2_with (go_at_call 81; refine (ready_no k _ ls H.out i x HO.out).mono ?_; rintro e w' ⟨rfl, rfl⟩)
  go_ret
  exact ⟨rfl, rfl⟩

/-- Push of a number that stands in a list. -/
theorem push_there (k : LK) (w : World) (ls : Nat → List Nat) (h : k.Has w ls) (i x j : Nat) (hi : i < k.n) (hj : j < k.n) (hx : x ∈ ls j) :
    Calls Tryd.prog 67 #[k.ptr, .int .i64 i, .int .i64 x] w fun e w' => e = .returned (.int .i64 5) ∧ w = w' := by
  have H := Lib.hid h
  have hxN := h.mem_lt hj hx
  have HO : Hid (okLN k i x) := Lib.hid ⟨by omega, by omega, by omega, by omega⟩
  obtain ⟨nx, ah, wh, ln, h1, h2⟩ := h
  obtain ⟨o0, o1, o2, o3⟩ := h1.fields
  have c1 := h1.getWh (i := x) hxN
  have c2 := h2.inn j x hj hx
  dsimp only [LK.full] at o0 o1 o2 o3 c1 c2
  rw [c2] at c1
  have ht : ((j : Int) != -1) = true := by rw [bne_iff_ne]; omega
  clear h1 h2 c2
  unfold LK.ptr at *
  go_enter Tryd.func67, Tryd.ntmps67
  go_wp2_with (go_at_call 81; refine (ready_ok k _ ls H.out i x HO.out).mono ?_; rintro e w' ⟨rfl, rfl⟩)
  go_ret
  exact ⟨rfl, rfl⟩

def LK.Next (k : LK) (v : Value) (ls : Nat → List Nat) (w : World) (e : Ending) (w' : World) : Prop := e = .returned v ∧ k.Has w' ls ∧ Keeps k.own w w'

/-- Push. -/
theorem push_ok (k : LK) (w : World) (ls : Nat → List Nat) (h : k.Has w ls) (i x : Nat) (hi : i < k.n) (hx : x < k.N) (hf : ∀ j, j < k.n → x ∉ ls j) :
    Calls Tryd.prog 67 #[k.ptr, .int .i64 i, .int .i64 x] w (k.Next (.int .i64 0) (upd ls i (x :: ls i)) w) := by
  have H := Lib.hid h
  have HO : Hid (okLN k i x) := Lib.hid ⟨by omega, by omega, by omega, by omega⟩
  obtain ⟨nx, ah, wh, ln, h1, h2⟩ := h
  obtain ⟨o0, o1, o2, o3⟩ := h1.fields
  have c1 := h1.getWh (i := x) hx
  have c2 := h2.out x hx hf
  have hp := rep_put h2 (i := i) hi hx hf
  have hs : nx.getD (k.N + i) 0 < k.N + k.n := by
    have := h2.head_first (i := i) hi
    have e : nx.getD (k.N + i) 0 = (ls i).head?.getD (k.N + i) := this
    rw [e]
    exact headD_lt h2 hi
  have hl : ln.getD i 0 ≤ 65536 := by
    have e : ln.getD i 0 = (ls i).length := h2.ln i hi
    rw [e]
    exact Nat.le_trans (h2.len_le hi) h1.N2
  have HP := Lib.hid (put_any _ w h1 i x hi hx hs hl)
  have HR := Lib.hid hp
  dsimp only [LK.full] at o0 o1 o2 o3 c1 c2
  rw [c2] at c1
  clear h1 h2 c2 hp
  unfold LK.ptr at *
  go_enter Tryd.func67, Tryd.ntmps67
  go_wp2_with (first | (go_at_call 81; refine (ready_ok k _ ls H.out i x HO.out).mono ?_; rintro e w' ⟨rfl, rfl⟩) | (go_at_call 82; refine HP.out.mono ?_; rintro e w' ⟨rfl, hat, hkp⟩))
  go_ret
  exact ⟨rfl, ⟨_, _, _, _, hat, HR.out⟩, hkp⟩
end Go.Proofs.YthnagihgjenimaaDoor

/- The lists' calls: Where, Touch, Remove, Len. -/
namespace Go.Proofs.YthnagihgjenimaaDoor
open Go.RowKit
set_option linter.unusedVariables false

/-- What Where answers. -/
def two (a e : Int) : Value := .tuple #[.int .i64 a, .int .i64 e]

theorem where_bad (k : LK) (w : World) (ls : Nat → List Nat) (h : k.Has w ls) (x : Int) (ho : ¬ okLN k 0 x) :
    Calls Tryd.prog 83 #[k.ptr, .int .i64 x] w fun e w' => e = .returned (two 0 2) ∧ w = w' := by
  have H := Lib.hid h
  have HO := Lib.hid ho
  clear h ho
  go_enter Tryd.func83, Tryd.ntmps83
  go_wp2_with (go_at_call 81; refine (ready_no k _ ls H.out 0 x HO.out).mono ?_; rintro e w' ⟨rfl, rfl⟩)
  go_ret2
  exact ⟨rfl, rfl⟩

theorem where_none (k : LK) (w : World) (ls : Nat → List Nat) (h : k.Has w ls) (x : Nat) (hx : x < k.N) (hf : ∀ j, j < k.n → x ∉ ls j) :
    Calls Tryd.prog 83 #[k.ptr, .int .i64 x] w fun e w' => e = .returned (two 0 4) ∧ w = w' := by
  have H := Lib.hid h
  have HO : Hid (okLN k 0 x) := Lib.hid ⟨by omega, by have := h.bounds; omega, by omega, by omega⟩
  obtain ⟨nx, ah, wh, ln, h1, h2⟩ := h
  obtain ⟨o0, o1, o2, o3⟩ := h1.fields
  have c1 := h1.getWh (i := x) hx
  have c2 := h2.out x hx hf
  dsimp only [LK.full] at o0 o1 o2 o3 c1 c2
  rw [c2] at c1
  clear h1 h2 c2 hf
  unfold LK.ptr at *
  go_enter Tryd.func83, Tryd.ntmps83
  go_wp2_with (go_at_call 81; refine (ready_ok k _ ls H.out 0 x HO.out).mono ?_; rintro e w' ⟨rfl, rfl⟩)
  go_ret2
  exact ⟨rfl, rfl⟩

theorem where_in (k : LK) (w : World) (ls : Nat → List Nat) (h : k.Has w ls) (x j : Nat) (hj : j < k.n) (hxj : x ∈ ls j) :
    Calls Tryd.prog 83 #[k.ptr, .int .i64 x] w fun e w' => e = .returned (two j 0) ∧ w = w' := by
  have H := Lib.hid h
  have hx := h.mem_lt hj hxj
  have HO : Hid (okLN k 0 x) := Lib.hid ⟨by omega, by have := h.bounds; omega, by omega, by omega⟩
  obtain ⟨nx, ah, wh, ln, h1, h2⟩ := h
  obtain ⟨o0, o1, o2, o3⟩ := h1.fields
  have c1 := h1.getWh (i := x) hx
  have c2 := h2.inn j x hj hxj
  dsimp only [LK.full] at o0 o1 o2 o3 c1 c2
  rw [c2] at c1
  have ht : ((j : Int) == -1) = false := by rw [beq_eq_false_iff_ne]; omega
  clear h1 h2 c2 hxj
  unfold LK.ptr at *
  go_enter Tryd.func83, Tryd.ntmps83
  go_wp2_with (go_at_call 81; refine (ready_ok k _ ls H.out 0 x HO.out).mono ?_; rintro e w' ⟨rfl, rfl⟩)
  go_ret2
  exact ⟨rfl, rfl⟩

theorem touch_bad (k : LK) (w : World) (ls : Nat → List Nat) (h : k.Has w ls) (x : Int) (ho : ¬ okLN k 0 x) :
    Calls Tryd.prog 68 #[k.ptr, .int .i64 x] w fun e w' => e = .returned (.int .i64 2) ∧ w = w' := by
  have H := Lib.hid h
  have HO := Lib.hid ho
  clear h ho
  go_enter Tryd.func68, Tryd.ntmps68
  go_wp2_with (go_at_call 83; refine (where_bad k _ ls H.out x HO.out).mono ?_; unfold two; rintro e w' ⟨rfl, rfl⟩)
  go_ret
  exact ⟨rfl, rfl⟩

theorem touch_none (k : LK) (w : World) (ls : Nat → List Nat) (h : k.Has w ls) (x : Nat) (hx : x < k.N) (hf : ∀ j, j < k.n → x ∉ ls j) :
    Calls Tryd.prog 68 #[k.ptr, .int .i64 x] w fun e w' => e = .returned (.int .i64 4) ∧ w = w' := by
  have H := Lib.hid h
  have HF := Lib.hid hf
  clear h hf
  go_enter Tryd.func68, Tryd.ntmps68
  go_wp2_with (go_at_call 83; refine (where_none k _ ls H.out x hx HF.out).mono ?_; unfold two; rintro e w' ⟨rfl, rfl⟩)
  go_ret
  exact ⟨rfl, rfl⟩

theorem remove_bad (k : LK) (w : World) (ls : Nat → List Nat) (h : k.Has w ls) (x : Int) (ho : ¬ okLN k 0 x) :
    Calls Tryd.prog 78 #[k.ptr, .int .i64 x] w fun e w' => e = .returned (.int .i64 2) ∧ w = w' := by
  have H := Lib.hid h
  have HO := Lib.hid ho
  clear h ho
  go_enter Tryd.func78, Tryd.ntmps78
  go_wp2_with (go_at_call 83; refine (where_bad k _ ls H.out x HO.out).mono ?_; unfold two; rintro e w' ⟨rfl, rfl⟩)
  go_ret
  exact ⟨rfl, rfl⟩

theorem remove_none (k : LK) (w : World) (ls : Nat → List Nat) (h : k.Has w ls) (x : Nat) (hx : x < k.N) (hf : ∀ j, j < k.n → x ∉ ls j) :
    Calls Tryd.prog 78 #[k.ptr, .int .i64 x] w fun e w' => e = .returned (.int .i64 4) ∧ w = w' := by
  have H := Lib.hid h
  have HF := Lib.hid hf
  clear h hf
  go_enter Tryd.func78, Tryd.ntmps78
  go_wp2_with (go_at_call 83; refine (where_none k _ ls H.out x hx HF.out).mono ?_; unfold two; rintro e w' ⟨rfl, rfl⟩)
  go_ret
  exact ⟨rfl, rfl⟩

/-- Taking x out of list j, in words of lists. -/
theorem out_call (k : LK) (w : World) (ls : Nat → List Nat) (h : k.Has w ls) (x j : Nat) (xs ys : List Nat) (hj : j < k.n) (hl : ls j = xs ++ x :: ys) :
    Calls Tryd.prog 84 #[k.ptr, .int .i64 x] w (k.Next (.int .i64 (j : Int)) (upd ls j (xs ++ ys)) w) := by
  have hx : x ∈ ls j := by rw [hl]; simp
  obtain ⟨nx, ah, wh, ln, h1, h2⟩ := h
  have hln : ln.getD j 0 = (ls j).length := h2.ln j hj
  have hle := h2.len_le hj
  have hN := h1.N2
  obtain ⟨l1, l2⟩ := h2.links hj hl
  obtain ⟨b1, b2⟩ := h2.links_lt hj hl
  refine (out_any _ w h1 j x hj (h2.lt j x hj hx) (h2.inn j x hj hx) (by rw [l2]; exact b2) (by rw [l1]; exact b1) ?_ ?_).mono ?_
  · show 1 ≤ ln.getD j 0
    rw [hln, hl]; simp; omega
  · show ln.getD j 0 ≤ 65536
    rw [hln]; exact Nat.le_trans hle hN
  · rintro e w' ⟨rfl, hat, hk⟩
    exact ⟨rfl, ⟨_, _, _, _, hat, rep_out h2 hj hl⟩, hk⟩

theorem remove_ok (k : LK) (w : World) (ls : Nat → List Nat) (h : k.Has w ls) (x j : Nat) (xs ys : List Nat) (hj : j < k.n) (hl : ls j = xs ++ x :: ys) :
    Calls Tryd.prog 78 #[k.ptr, .int .i64 x] w (k.Next (.int .i64 0) (upd ls j (xs ++ ys)) w) := by
  have H := Lib.hid h
  have HL := Lib.hid hl
  have HX : Hid (x ∈ ls j) := Lib.hid (by rw [hl]; simp)
  clear h hl
  go_enter Tryd.func78, Tryd.ntmps78
  go_wp2_with (first | (go_at_call 83; refine (where_in k _ ls H.out x j hj HX.out).mono ?_; unfold two; rintro e w' ⟨rfl, rfl⟩) | (go_at_call 84; refine (out_call k _ ls H.out x j xs ys hj HL.out).mono ?_; rintro e w' ⟨rfl, hat, hkp⟩))
  go_ret
  exact ⟨rfl, hat, hkp⟩

theorem put_call (k : LK) (w : World) (ls : Nat → List Nat) (h : k.Has w ls) (i x : Nat) (hi : i < k.n) (hx : x < k.N) (hf : ∀ j, j < k.n → x ∉ ls j) :
    Calls Tryd.prog 82 #[k.ptr, .int .i64 i, .int .i64 x] w (k.Next (.tuple #[]) (upd ls i (x :: ls i)) w) := by
  obtain ⟨nx, ah, wh, ln, h1, h2⟩ := h
  have hs : nx.getD (k.N + i) 0 < k.N + k.n := by
    have e : nx.getD (k.N + i) 0 = (ls i).head?.getD (k.N + i) := h2.head_first (i := i) hi
    rw [e]
    exact headD_lt h2 hi
  have hl : ln.getD i 0 ≤ 65536 := by
    have e : ln.getD i 0 = (ls i).length := h2.ln i hi
    rw [e]
    exact Nat.le_trans (h2.len_le hi) h1.N2
  refine (put_any _ w h1 i x hi hx hs hl).mono ?_
  rintro e w' ⟨rfl, hat, hkp⟩
  exact ⟨rfl, ⟨_, _, _, _, hat, rep_put h2 hi hx hf⟩, hkp⟩

theorem upd_upd (ls : Nat → List Nat) (i : Nat) (a b : List Nat) : upd (upd ls i a) i b = upd ls i b := by
  funext j; unfold upd; split <;> simp_all

theorem not_in_upd {k : LK} {w : World} {ls : Nat → List Nat} (h : k.Has w ls) {x j : Nat} {xs ys : List Nat} (hj : j < k.n) (hl : ls j = xs ++ x :: ys) :
    ∀ i, i < k.n → x ∉ upd ls j (xs ++ ys) i := by
  intro i hi hm
  have hx : x ∈ ls j := by rw [hl]; simp
  by_cases e : i = j
  · subst e
    rw [upd_same] at hm
    have hnd := h.nodup hj
    rw [hl, List.nodup_append] at hnd
    rcases List.mem_append.1 hm with h' | h'
    · exact hnd.2.2 x h' x (List.mem_cons_self ..) rfl
    · exact (List.nodup_cons.1 hnd.2.1).1 h'
  · rw [upd_ne _ _ e] at hm
    exact e (h.apart hi hj hm hx)

theorem touch_ok (k : LK) (w : World) (ls : Nat → List Nat) (h : k.Has w ls) (x j : Nat) (xs ys : List Nat) (hj : j < k.n) (hl : ls j = xs ++ x :: ys) :
    Calls Tryd.prog 68 #[k.ptr, .int .i64 x] w (k.Next (.int .i64 0) (upd ls j (x :: (xs ++ ys))) w) := by
  have H := Lib.hid h
  have HL := Lib.hid hl
  have hxm : x ∈ ls j := by rw [hl]; simp
  have hxN := h.mem_lt hj hxm
  have HX := Lib.hid hxm
  have HF := Lib.hid (not_in_upd h hj hl)
  clear h hl hxm
  go_enter Tryd.func68, Tryd.ntmps68
  go_wp2_with (go_at_call 83; refine (where_in k _ ls H.out x j hj HX.out).mono ?_; unfold two; rintro e w' ⟨rfl, rfl⟩)
  refine (out_call k _ ls H.out x j xs ys hj HL.out).mono ?_
  rintro e w1 ⟨rfl, hat, hkp⟩
  have HA := Lib.hid hat
  have HK := Lib.hid hkp
  clear hat hkp
  go_wp2_with fail
  refine (put_call k _ _ HA.out j x hj hxN HF.out).mono ?_
  rintro e w2 ⟨rfl, hat, hkp⟩
  go_wp2_with fail
  go_ret
  rw [upd_upd, upd_same] at hat
  exact ⟨rfl, hat, HK.out.trans hkp⟩

end Go.Proofs.YthnagihgjenimaaDoor

/- Oldest and Newest. -/
namespace Go.Proofs.YthnagihgjenimaaDoor
open Go.RowKit
set_option linter.unusedVariables false

def LK.adr (k : LK) : Addr := ⟨k.B, 0, none⟩

theorem head_call (k : LK) (w : World) (ls : Nat → List Nat) (h : k.Has w ls) (i : Nat) (hi : i < k.n) :
    Calls Tryd.prog 85 #[.pointer (some ⟨k.B, 0, none⟩), .int .i64 i] w fun e w' => e = .returned (.int .i64 ((k.N + i : Nat) : Int)) ∧ w = w' := by
  obtain ⟨nx, ah, wh, ln, h1, h2⟩ := h
  exact head_any _ _ h1 i hi

theorem oldest_fn (k : LK) (w : World) (ls : Nat → List Nat) (h : k.Has w ls) (b : Addr) (hb : w.cell? b = some (.pointer (some ⟨k.B, 0, none⟩))) :
    Calls Tryd.prog 88 #[.pointer (some b)] w fun e w' => e = .returned (.slice (some ⟨k.ba, 0, none⟩) (k.N + k.n) (k.N + k.n)) ∧ w = w' := by
  obtain ⟨nx, ah, wh, ln, h1, h2⟩ := h
  obtain ⟨o0, o1, o2, o3⟩ := h1.fields
  dsimp only [LK.full] at o0 o1 o2 o3
  clear h1 h2
  go_enter Tryd.func88, Tryd.ntmps88
  go_wp2
  go_ret
  exact ⟨rfl, rfl⟩

theorem end_bad (k : LK) (w : World) (ls : Nat → List Nat) (h : k.Has w ls) (i : Int) (f : Value) (ho : ¬ okLN k i 0) :
    Calls Tryd.prog 87 #[k.ptr, .int .i64 i, f] w fun e w' => e = .returned (two 0 2) ∧ w = w' := by
  have H := Lib.hid h
  have HO := Lib.hid ho
  clear h ho
  go_enter Tryd.func87, Tryd.ntmps87
  go_wp2_with (go_at_call 81; refine (ready_no k _ ls H.out i 0 HO.out).mono ?_; rintro e w' ⟨rfl, rfl⟩)
  go_ret2
  exact ⟨rfl, rfl⟩

theorem end_none (k : LK) (w : World) (ls : Nat → List Nat) (h : k.Has w ls) (i : Nat) (f : Value) (hi : i < k.n) (hl : ls i = []) :
    Calls Tryd.prog 87 #[k.ptr, .int .i64 i, f] w fun e w' => e = .returned (two 0 4) ∧ w = w' := by
  have H := Lib.hid h
  have HO : Hid (okLN k i 0) := Lib.hid ⟨by omega, by omega, by omega, by have := h.bounds; omega⟩
  obtain ⟨nx, ah, wh, ln, h1, h2⟩ := h
  obtain ⟨o0, o1, o2, o3⟩ := h1.fields
  have c1 := h1.getLn (i := i) hi
  have c2 := h2.ln i hi
  dsimp only [LK.full] at o0 o1 o2 o3 c1 c2
  rw [c2, hl] at c1
  have c3 : w.cell? ⟨k.bl, i, none⟩ = some (.int .i64 0) := c1
  clear h1 h2 c2 c1 hl
  unfold LK.ptr at *
  go_enter Tryd.func87, Tryd.ntmps87
  go_wp2_with (go_at_call 81; refine (ready_ok k _ ls H.out i 0 HO.out).mono ?_; rintro e w' ⟨rfl, rfl⟩)
  go_ret2
  exact ⟨rfl, rfl⟩

theorem end_oldest (k : LK) (w : World) (ls : Nat → List Nat) (h : k.Has w ls) (i x : Nat) (b : Addr) (hb : w.cell? b = some (.pointer (some ⟨k.B, 0, none⟩))) (hi : i < k.n) (hl : (ls i).getLast? = some x) :
    Calls Tryd.prog 87 #[k.ptr, .int .i64 i, .func (.func 88) #[] #[.pointer (some b)]] w fun e w' => e = .returned (two x 0) ∧ w = w' := by
  have H := Lib.hid h
  have HB := Lib.hid hb
  have HO : Hid (okLN k i 0) := Lib.hid ⟨by omega, by omega, by omega, by have := h.bounds; omega⟩
  have hN := h.bounds
  obtain ⟨nx, ah, wh, ln, h1, h2⟩ := h
  obtain ⟨o0, o1, o2, o3⟩ := h1.fields
  have c1 := h1.getLn (i := i) hi
  have c2 := h2.ln i hi
  have hne : ls i ≠ [] := by intro e; rw [e] at hl; cases hl
  have hpos : 0 < (ls i).length := List.length_pos_iff.2 hne
  have c3 := h1.getAh (i := k.N + i) (by show _ < k.N + k.n; omega)
  have c4 := h2.head_last (i := i) hi
  dsimp only [LK.full] at o0 o1 o2 o3 c1 c2 c3 c4
  rw [c4, hl] at c3
  rw [c2] at c1
  have ht : (((ls i).length : Int) == 0) = false := by rw [beq_eq_false_iff_ne]; omega
  have c5 : w.cell? ⟨k.ba, k.N + i, none⟩ = some (.int .i64 (x : Int)) := c3
  clear h1 h2 c2 c3 c4 hl hne hb
  unfold LK.ptr at *
  go_enter Tryd.func87, Tryd.ntmps87
  go_wp2_with (first
    | (go_at_call 81; refine (ready_ok k _ ls H.out i 0 HO.out).mono ?_; rintro e w' ⟨rfl, rfl⟩)
    | (go_at_call 88; refine (oldest_fn k _ ls H.out b HB.out).mono ?_; rintro e w' ⟨rfl, rfl⟩)
    | (go_at_call 85; refine (head_call k _ ls H.out i hi).mono ?_; rintro e w' ⟨rfl, rfl⟩))
  go_ret2
  exact ⟨rfl, rfl⟩

/-- What Oldest and Newest come to: w' is w with new blocks alone. -/
def Told (v : Value) (w : World) (e : Ending) (w' : World) : Prop := e = .returned v ∧ Keeps (fun _ => False) w w'

theorem box_cell (w : World) (k : LK) : (w.alloc (.cells #[.pointer (some ⟨k.B, 0, none⟩)] 107)).cell? ⟨w.heap.size, 0, none⟩ = some (.pointer (some ⟨k.B, 0, none⟩)) := by
  exact (Blk.new w 107 [.pointer (some ⟨k.B, 0, none⟩)]).cell rfl

theorem oldest_bad (k : LK) (w : World) (ls : Nat → List Nat) (h : k.Has w ls) (i : Int) (ho : ¬ okLN k i 0) :
    Calls Tryd.prog 79 #[k.ptr, .int .i64 i] w (Told (two 0 2) w) := by
  have hk := (Keeps.refl (fun _ => False) w).alloc (.cells #[.pointer (some ⟨k.B, 0, none⟩)] 107)
  have HE := Lib.hid (fun f => end_bad k _ ls (h.quiet hk) i f ho)
  have HK := Lib.hid hk
  clear h ho hk
  unfold LK.ptr at *
  go_enter Tryd.func79, Tryd.ntmps79
  go_wp2_with (go_at_call 87; refine (HE.out _).mono ?_; unfold two; rintro e w' ⟨rfl, rfl⟩)
  go_ret2
  exact ⟨rfl, HK.out⟩

theorem oldest_none (k : LK) (w : World) (ls : Nat → List Nat) (h : k.Has w ls) (i : Nat) (hi : i < k.n) (hl : ls i = []) :
    Calls Tryd.prog 79 #[k.ptr, .int .i64 i] w (Told (two 0 4) w) := by
  have hk := (Keeps.refl (fun _ => False) w).alloc (.cells #[.pointer (some ⟨k.B, 0, none⟩)] 107)
  have HE := Lib.hid (fun f => end_none k _ ls (h.quiet hk) i f hi hl)
  have HK := Lib.hid hk
  clear h hk hl
  unfold LK.ptr at *
  go_enter Tryd.func79, Tryd.ntmps79
  go_wp2_with (go_at_call 87; refine (HE.out _).mono ?_; unfold two; rintro e w' ⟨rfl, rfl⟩)
  go_ret2
  exact ⟨rfl, HK.out⟩

theorem oldest_ok (k : LK) (w : World) (ls : Nat → List Nat) (h : k.Has w ls) (i x : Nat) (hi : i < k.n) (hl : (ls i).getLast? = some x) :
    Calls Tryd.prog 79 #[k.ptr, .int .i64 i] w (Told (two x 0) w) := by
  have hk := (Keeps.refl (fun _ => False) w).alloc (.cells #[.pointer (some ⟨k.B, 0, none⟩)] 107)
  have HE := Lib.hid (end_oldest k _ ls (h.quiet hk) i x _ (box_cell w k) hi hl)
  have HK := Lib.hid hk
  clear h hk hl
  unfold LK.ptr at *
  go_enter Tryd.func79, Tryd.ntmps79
  go_wp2_with (go_at_call 87; refine HE.out.mono ?_; unfold two; rintro e w' ⟨rfl, rfl⟩)
  go_ret2
  exact ⟨rfl, HK.out⟩

end Go.Proofs.YthnagihgjenimaaDoor

/- The calls of nil lists. -/
namespace Go.Proofs.YthnagihgjenimaaDoor
open Go.RowKit
set_option linter.unusedVariables false

theorem ready_nil (i x : Int) (w : World) : Calls Tryd.prog 81 #[.pointer none, .int .i64 i, .int .i64 x] w fun e w' => e = .returned (.int .i64 1) ∧ w = w' := by
  go_enter Tryd.func81, Tryd.ntmps81
  go_wp2
  go_ret
  exact ⟨rfl, rfl⟩

theorem lwhere_nil (x : Int) (w : World) : Calls Tryd.prog 83 #[.pointer none, .int .i64 x] w fun e w' => e = .returned (two 0 1) ∧ w = w' := by
  go_enter Tryd.func83, Tryd.ntmps83
  go_wp2_with (go_at_call 81; refine (ready_nil 0 x _).mono ?_; rintro e w' ⟨rfl, rfl⟩)
  go_ret2
  exact ⟨rfl, rfl⟩

theorem touch_nil (x : Int) (w : World) : Calls Tryd.prog 68 #[.pointer none, .int .i64 x] w fun e w' => e = .returned (.int .i64 1) ∧ w = w' := by
  go_enter Tryd.func68, Tryd.ntmps68
  go_wp2_with (go_at_call 83; refine (lwhere_nil x _).mono ?_; unfold two; rintro e w' ⟨rfl, rfl⟩)
  go_ret
  exact ⟨rfl, rfl⟩

theorem remove_nil (x : Int) (w : World) : Calls Tryd.prog 78 #[.pointer none, .int .i64 x] w fun e w' => e = .returned (.int .i64 1) ∧ w = w' := by
  go_enter Tryd.func78, Tryd.ntmps78
  go_wp2_with (go_at_call 83; refine (lwhere_nil x _).mono ?_; unfold two; rintro e w' ⟨rfl, rfl⟩)
  go_ret
  exact ⟨rfl, rfl⟩

theorem push_nil (i x : Int) (w : World) : Calls Tryd.prog 67 #[.pointer none, .int .i64 i, .int .i64 x] w fun e w' => e = .returned (.int .i64 1) ∧ w = w' := by
  go_enter Tryd.func67, Tryd.ntmps67
  go_wp2_with (go_at_call 81; refine (ready_nil i x _).mono ?_; rintro e w' ⟨rfl, rfl⟩)
  go_ret
  exact ⟨rfl, rfl⟩

theorem end_nil (i : Int) (f : Value) (w : World) : Calls Tryd.prog 87 #[.pointer none, .int .i64 i, f] w fun e w' => e = .returned (two 0 1) ∧ w = w' := by
  go_enter Tryd.func87, Tryd.ntmps87
  go_wp2_with (go_at_call 81; refine (ready_nil i 0 _).mono ?_; rintro e w' ⟨rfl, rfl⟩)
  go_ret2
  exact ⟨rfl, rfl⟩

theorem oldest_nil (i : Int) (w : World) : Calls Tryd.prog 79 #[.pointer none, .int .i64 i] w (Told (two 0 1) w) := by
  go_enter Tryd.func79, Tryd.ntmps79
  go_wp2_with (go_at_call 87; refine (end_nil i _ _).mono ?_; unfold two; rintro e w' ⟨rfl, rfl⟩)
  go_ret2
  exact ⟨rfl, (Keeps.refl _ _).alloc _⟩

end Go.Proofs.YthnagihgjenimaaDoor
