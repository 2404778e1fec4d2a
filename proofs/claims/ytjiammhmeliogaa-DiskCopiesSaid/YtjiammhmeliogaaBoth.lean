/- An op done to a disk, and by the document; do they agree? -/
import Derived.Test.YtjiammhmeliogaaSim
import Derived.Test.YtjiammhmeliogaaCrash0
namespace Go.Proofs.Ytjiammhmeliogaa
open Go.RowKit
set_option linter.unusedVariables false
set_option linter.unusedSimpArgs false

/-- An op whose slice may be read and copied. -/
def OpT.Fit (o : OpT) (w : World) : Prop := (Lit.int .i64 o.a).wf = true ∧ BoolRow w o.va o.vn o.ks ∧ o.vn ≤ 140737488351232 ∧ (o.va = none → o.vc = 0)
theorem OpT.Fit.keep {o : OpT} {w w' : World} (h : o.Fit w) (hk : Keeps (fun _ => False) w w') : o.Fit w' := ⟨h.1, h.2.1.keep hk fun _ _ _ => id, h.2.2⟩
theorem OpT.Fit.le {o : OpT} {w : World} (h : o.Fit w) : o.a ≤ 9223372036854775807 := by
  have := h.1
  have h2 : -9223372036854775808 ≤ o.a ∧ o.a ≤ 9223372036854775807 := by simpa [Lit.wf, IntKind.min, IntKind.max, IntKind.signed, IntKind.bits] using this
  exact h2.2

theorem does_any (L : DL) (D : DD) (w : World) (h : DkAt w L D) (hok : D.ok) (hop : D.ops < 1000000000000) (hpn : D.p.length < 1000000) (o : OpT) (ho : o.Fit w) :
    Calls Try.prog 23 #[L.ptr, .agg (opc o).toArray] w (DoesP L (D.does o).1 (D.does o).2.1 (D.does o).2.2 w) := by
  have h0 := opk_lo o.k
  have h6 := opk_hi o.k
  unfold DD.does
  by_cases e0 : opk o.k = 0
  · rw [if_pos e0]
    exact does_read L D w h hop o.k o.a o.f o.v e0
  · by_cases e1 : opk o.k = 1
    · rw [if_neg e0, if_pos e1]
      exact does_write L D w h hok hop hpn o.k o.a o.f o.v e1
    · by_cases e2 : opk o.k = 2
      · rw [if_neg e0, if_neg e1, if_pos e2]
        exact does_sync L D w h hok hop o.k o.a o.f o.v e2
      · by_cases e3 : opk o.k = 3
        · rw [if_neg e0, if_neg e1, if_neg e2, if_pos e3]
          exact does_arm L D w h o.k o.a o.f ho.1 o.v e3
        · by_cases e5 : opk o.k = 5
          · rw [if_neg e0, if_neg e1, if_neg e2, if_neg e3, if_pos e5]
            exact does_fail L D w h o.k o.a o.f o.v e5
          · rw [if_neg e0, if_neg e1, if_neg e2, if_neg e3, if_neg e5]
            exact does_crash L D w h o.k o.a o.f o.va o.vn o.vc o.ks ho.2.1 ho.2.2.1 ho.2.2.2 (by omega)

theorem want_any (sv pv : Value) (R : RD) (w : World) (h : RdAt w sv pv R) (hop : R.ops < 1000000000000) (hpn : R.p.length < 1000000) (o : OpT) (ho : o.Fit w) :
    Calls Try.prog 24 #[rv sv pv R, .agg #[.int .i64 o.k, .int .i64 o.a, .int .u8 o.f, .slice o.va o.vn o.vc]] w (WantP sv pv (R.want o) w) := by
  have h0 := opk_lo o.k
  have h6 := opk_hi o.k
  have hf := ho.2.2.1
  unfold RD.want
  by_cases e0 : opk o.k = 0
  · rw [if_pos e0]
    exact want_read sv pv R w h o.k o.a o.f o.va o.vn o.vc hop e0
  · by_cases e1 : opk o.k = 1
    · rw [if_neg e0, if_pos e1]
      exact want_write sv pv R w h o.k o.a o.f o.va o.vn o.vc hop hpn e1
    · by_cases e2 : opk o.k = 2
      · rw [if_neg e0, if_neg e1, if_pos e2]
        exact want_sync sv pv R w h o.k o.a o.f o.va o.vn o.vc hop e2
      · by_cases e3 : opk o.k = 3
        · rw [if_neg e0, if_neg e1, if_neg e2, if_pos e3]
          exact want_arm sv pv R w h o.k o.a o.f o.va o.vn o.vc ho.le e3
        · by_cases e5 : opk o.k = 5
          · rw [if_neg e0, if_neg e1, if_neg e2, if_neg e3, if_pos e5]
            exact want_fail sv pv R w h o.k o.a o.f o.va o.vn o.vc ho.le e5
          · rw [if_neg e0, if_neg e1, if_neg e2, if_neg e3, if_neg e5]
            exact want_crash sv pv R w h o.k o.a o.f o.va o.vn o.vc o.ks ho.2.1 (by omega) (by omega)

/-- A block beside all. -/
def Beside (g : Nat) (ds : List (DL × DD)) (rs : List RowT) : Prop := (∀ (i : Nat) (x : DL × DD), ds[i]? = some x → ∀ k, x.1.own k → k ≠ g) ∧ (∀ r : RowT, r ∈ rs → ∀ k, r.v.ownBlock = some k → k ≠ g)
theorem Many.beside {w0 w : World} {ds : List (DL × DD)} {rs : List RowT} (h : Many w0 w ds rs) : Beside w.heap.size ds rs :=
  ⟨fun i x hx k hk => by have := h.lt hx k hk; omega, fun r hr k hk => by have := h.rlt hr k hk; omega⟩
theorem Many.storeCells {w0 w : World} {ds : List (DL × DD)} {rs : List RowT} (h : Many w0 w ds rs) {g : Nat} (hb : Beside g ds rs) (hg : w0.heap.size ≤ g) (o : Nat) (cs : List Value) : Many w0 (w.setCells g o cs) ds rs :=
  h.other (S := fun k => k = g) (setCells_keeps g cs o w) (fun i x hx k hk e => hb.1 i x hx k hk e) (fun r hr k hk e => hb.2 r hr k hk e) (fun k e => by rw [show k = g from e]; exact hg)

/-! ### A disk of the document's among the rows -/
def rowS (sv : Value) (R : RD) : RowT := ⟨27, 64, sv, R.n, flat R.f R.n⟩
def rowP (pv : Value) (R : RD) : RowT := ⟨101, 65, pv, R.p.length, pflat R.p⟩
/-- What holds of the document's disk beside its rows. -/
structure RPure (R : RD) : Prop where
  n1 : 1 ≤ R.n
  n2 : R.n ≤ 2048
  fl : ∀ i, i < R.n → (R.f i).length = 64
  pl : ∀ a ∈ R.p, a.2.length = 64
  pa : ∀ a ∈ R.p, a.1 < R.n
  pn : R.p.length ≤ 1000000
  o1 : 0 ≤ R.ops
  o2 : R.ops ≤ 1000000000000
  l1 : -1 ≤ R.left
  l2 : R.left ≤ 9223372036854775807
  f1 : -1 ≤ R.fails
  f2 : R.fails ≤ 9223372036854775807
theorem RdAt.pure {w : World} {sv pv : Value} {R : RD} (h : RdAt w sv pv R) : RPure R := ⟨h.n1, h.n2, h.fl, h.pl, h.pa, h.pn, h.o1, h.o2, h.l1, h.l2, h.f1, h.f2⟩
theorem RPure.at {w : World} {sv pv : Value} {R : RD} (h : RPure R) (h1 : (rowS sv R).at w) (h2 : (rowP pv R).at w) : RdAt w sv pv R := ⟨h1, h2, h.n1, h.n2, h.fl, h.pl, h.pa, h.pn, h.o1, h.o2, h.l1, h.l2, h.f1, h.f2⟩

section
variable {w0 w w' : World} {ds : List (DL × DD)} {rs : List RowT} {L : DL} {D D' : DD} {i : Nat} {sv pv sv' pv' : Value} {R R' : RD}
theorem Many.rd (h : Many w0 w ds rs) (hS : rowS sv R ∈ rs) (hP : rowP pv R ∈ rs) (hp : RPure R) : RdAt w sv pv R := hp.at (h.row _ hS) (h.row _ hP)
/-- The document's disk moves on. -/
theorem Many.rmove (h : Many w0 w ds rs) (hS : rowS sv R ∈ rs) (hP : rowP pv R ∈ rs) (hk : Keeps (fun _ => False) w w') (hR : RdAt w' sv' pv' R') (h1 : Old w sv sv') (h2 : Old w pv pv') : Many w0 w' ds (rowS sv' R' :: rowP pv' R' :: rs) := by
  have hsz := h.k.size
  refine ((h.quiet hk).rmore (rowP pv' R') hR.pend fun g hg => ?_).rmore (rowS sv' R') hR.safe fun g hg => ?_
  · rcases h2 g hg with e | e
    · exact h.rap _ hP g e
    · exact ⟨by omega, fun i x hx ho => by have := h.lt hx g ho; omega⟩
  · rcases h1 g hg with e | e
    · exact h.rap _ hS g e
    · exact ⟨by omega, fun i x hx ho => by have := h.lt hx g ho; omega⟩
/-- An op is done to a disk. -/
theorem Many.does (h : Many w0 w ds rs) (hx : ds[i]? = some (L, D)) (hok : D.ok) (hop : D.ops < 1000000000000) (hpn : D.p.length < 1000000) (o : OpT) (ho : o.Fit w) {p : Value} (hp : L.ptr = p) :
    Calls Try.prog 23 #[p, .agg #[.int .i64 o.k, .int .i64 o.a, .int .u8 o.f, .slice o.va o.vn o.vc]] w fun e w' => e = .returned (.tuple #[.agg (bk (D.does o).1).toArray, .int .i64 (D.does o).2.1]) ∧ ∃ L' : DL, L'.ptr = p ∧ Many w0 w' (ds.set i (L', (D.does o).2.2)) rs ∧ Keeps L.own w w' ∧ (∀ k, L'.own k → L.own k ∨ w.heap.size ≤ k) := by
  have hr := does_any L D w (h.dk i _ hx) hok hop hpn o ho
  rw [hp] at hr
  refine hr.mono ?_
  rintro e w' ⟨rfl, hm⟩
  obtain ⟨L', e1, e2, e3, e4, e5⟩ := hm.here (h.own i _ hx) h.k.size
  exact ⟨rfl, L', e1.trans hp, h.set hx e2 e4 e5, e5, e4⟩
/-- A block of another type is beside all. -/
theorem Many.blk (h : Many w0 w ds rs) {B t : Nat} {cs : List Value} (hb : Blk w B t cs) (ht : t ≠ 95 ∧ t ≠ 27 ∧ t ≠ 106) (hr : ∀ r : RowT, r ∈ rs → r.e ≠ t) : Beside B ds rs := by
  refine ⟨fun i x hx k hk => ?_, fun r hr' k hk e => own_ne_blk hb (h.row r hr') (hr r hr') (by rw [← e]; exact hk)⟩
  have hd := h.dk i x hx
  rintro rfl
  rcases hk with e | e | e
  · exact hb.ne hd.obj ht.1 e
  · exact own_ne_blk hb hd.safe (fun e => ht.2.1 e.symm) e
  · exact own_ne_blk hb hd.pend (fun e => ht.2.2 e.symm) e
end

/-- The answer of want, spelled out. -/
def WForm (sv pv : Value) (r : List Int × Int × RD) (w : World) (e : Ending) (w' : World) : Prop := ∃ ta tc ua uc, e = .returned (.tuple #[.agg #[.slice ta r.2.2.n tc, .slice ua r.2.2.p.length uc, .bool r.2.2.dead, .int .i64 r.2.2.left, .int .i64 r.2.2.fails, .int .i64 r.2.2.ops], .agg (bk r.1).toArray, .int .i64 r.2.1]) ∧ RdAt w' (.slice ta r.2.2.n tc) (.slice ua r.2.2.p.length uc) r.2.2 ∧ Old w sv (.slice ta r.2.2.n tc) ∧ Old w pv (.slice ua r.2.2.p.length uc) ∧ Keeps (fun _ => False) w w'
theorem WantP.form {sv pv : Value} {r : List Int × Int × RD} {w w' : World} {e : Ending} (h : WantP sv pv r w e w') : WForm sv pv r w e w' := by
  obtain ⟨sv', pv', rfl, hR, h1, h2, hk⟩ := h
  obtain ⟨ta, tc, rfl, _⟩ := own_slice hR.safe
  obtain ⟨ua, uc, rfl, _⟩ := own_slice hR.pend
  exact ⟨ta, tc, ua, uc, rfl, hR, h1, h2, hk⟩
end Go.Proofs.Ytjiammhmeliogaa
