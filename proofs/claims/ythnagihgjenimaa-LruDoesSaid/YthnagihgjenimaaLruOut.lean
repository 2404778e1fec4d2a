/- What out makes of the lists' memory. -/
import Derived.Test.YthnagihgjenimaaLru
namespace Go.Proofs.Ythnagihgjenimaa
open Go.RowKit

/-- What out makes of the arrays. -/
def LL.out (L : LL) (i x : Nat) : LL :=
  { L with
    nx := L.nx.set (L.ah.getD x 0) (L.nx.getD x 0)
    ah := L.ah.set (L.nx.getD x 0) (L.ah.getD x 0)
    wh := L.wh.set x (-1)
    ln := L.ln.set i (L.ln.getD i 0 - 1) }

def LL.Out (L : LL) (i x : Nat) (w : World) (e : Ending) (w' : World) : Prop := e = .returned (.int .i64 (i : Int)) ∧ (L.out i x).At w' ∧ Keeps L.own w w'

set_option maxHeartbeats 1000000 in
theorem out_any (L : LL) (w : World) (h : L.At w) (i x : Nat) (hi : i < L.n) (hx : x < L.N) (hwx : L.wh.getD x 0 = (i : Int)) (hp : L.ah.getD x 0 < L.N + L.n) (hs : L.nx.getD x 0 < L.N + L.n) (hln1 : 1 ≤ L.ln.getD i 0) (hln : L.ln.getD i 0 ≤ 65536) :
    Calls Try.prog 29 #[.pointer (some ⟨L.B, 0, none⟩), .int .i64 x] w (L.Out i x w) := by
  have HA := Lib.hid h
  obtain ⟨s, hsd⟩ : ∃ s, s = L.nx.getD x 0 := ⟨_, rfl⟩
  obtain ⟨p, hpd⟩ : ∃ p, p = L.ah.getD x 0 := ⟨_, rfl⟩
  have b1 := h.N2
  have b2 := h.n2
  have c1 := h.getNx (i := x) (by omega)
  have c2 := h.getAh (i := x) (by omega)
  have c3 := h.getNx (i := p) (by omega)
  have c4 := h.getAh (i := s) (by omega)
  have c5 := h.getWh (i := x) (by omega)
  obtain ⟨o0, o1, o2, o3⟩ := h.fields
  have f1 := h.nx.free p
  have f2 := h.ah.free s
  have d1 := h.na
  have e1 := h.en
  have e2 := h.ea
  have HC := Lib.hid hsd
  have HP := Lib.hid hpd
  rw [← hsd] at c1 hs
  rw [← hpd] at c2 hp
  rw [hwx] at c5
  clear h hsd hpd hwx
  go_enter Try.func29, Try.ntmps29
  go_wp2_with fail
  have q1 : x < L.N + L.n := by omega
  have q2 : (x : Int) < (L.N : Int) + (L.n : Int) := by omega
  have q3 : (0 : Int) ≤ (x : Int) := by omega
  have q4 : (p : Int) < (L.N : Int) + (L.n : Int) := by omega
  have q5 : (s : Int) < (L.N : Int) + (L.n : Int) := by omega
  go_still_tail 36, (by kernel_rfl)
  change wpList _ _ _ _ _ w.drew
  have A1 := HA.out.drew
  have A2 := (((A1.setNx p s).setAh s p).setWh x (-1)).setLn i (L.ln.getD i 0 - 1)
  have K2 : Keeps L.own w _ := (((((Keeps.refl L.own w).drew.store (p := ⟨L.bn, p, none⟩) (Or.inl (.inl rfl)) (.int .i64 (s : Int))).store (p := ⟨L.ba, s, none⟩) (Or.inl (.inr (.inl rfl))) (.int .i64 (p : Int)))).store (p := ⟨L.bw, x, none⟩) (Or.inl (.inr (.inr (.inl rfl)))) (.int .i64 (-1))).store (p := ⟨L.bl, i, none⟩) (Or.inl (.inr (.inr (.inr rfl)))) (.int .i64 ((L.ln.getD i 0 - 1 : Nat) : Int))
  dsimp only at A2
  clear f1 f2 c1 c2 c3 c4 c5 o0 o1 o2 o3
  generalize w.drew = w1 at A1 A2 K2 ⊢
  obtain ⟨p0, p1, p2, p3⟩ := A1.fields
  have g1 := A1.getNx (i := p) (by omega)
  have g2 := A1.getAh (i := s) (by omega)
  have g3 := A1.getWh (i := x) (by omega)
  have g4 := A1.getLn (i := i) (by omega)
  have k1 := A1.nx.free p
  have k2 := A1.ah.free s
  have k3 := A1.wh.free x
  have k4 := A1.ln.free i
  have d2 := A1.nw
  have d3 := A1.nl
  have d4 := A1.wl
  have d5 := A1.aw
  have d6 := A1.al
  have e3 := A1.ew
  have e4 := A1.el
  have HA3 := Lib.hid A2
  have HK3 := Lib.hid K2
  generalize hlg : L.ln.getD i 0 = lv at *
  have hl1 : ((lv - 1 : Nat) : Int) = (lv : Int) - 1 := by omega
  rw [hl1] at HA3 HK3
  have HLG := Lib.hid hlg
  clear A1 A2 K2 hlg hl1
  go_wp2_with fail
  go_ret
  refine ⟨rfl, ?_, HK3.out⟩
  have := HA3.out
  unfold LL.out
  rw [← HC.out, ← HP.out, HLG.out]
  exact this
end Go.Proofs.Ythnagihgjenimaa
