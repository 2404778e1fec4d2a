/- A disk is copied. -/
import Derived.Test.YtjiammhmeliogaaClone
import Derived.Test.YtjiammhmeliogaaArmedL
import Derived.Deep.RegionHeld3
namespace Go.Proofs.Ytjiammhmeliogaa
open Go.RowKit
set_option linter.unusedVariables false
set_option linter.unusedSimpArgs false

/-- The copy. -/
def CopyP (D : DD) (w : World) (e : Ending) (w' : World) : Prop := ∃ L : DL, e = .returned L.ptr ∧ DkAt w' L D ∧ (∀ k, L.own k → w.heap.size ≤ k) ∧ Keeps (fun _ => False) w w'

set_option maxRecDepth 100000 in
set_option maxHeartbeats 2000000 in
theorem copy_any (L : DL) (D : DD) (w : World) (h : DkAt w L D) : Calls Try.prog 37 #[L.ptr] w (CopyP D w) := by
  obtain ⟨B, sv, pv⟩ := L
  obtain ⟨sa, sc, hs, _⟩ := own_slice h.safe
  obtain ⟨qa, qc, hq, _⟩ := own_slice h.pend
  dsimp only at hs hq
  subst hs hq
  obtain ⟨c0, c1, c2, c3, c4, c5, c6⟩ := h.cells
  have HD := Lib.hid h
  have hlt := h.obj.lt
  dsimp only at *
  have HS := Lib.hid (fun W (hk : Keeps (fun _ => False) w W) => clone27 _ D.n _ 0 W (h.quiet hk).safe h.n2 (fun u hu => flat_one u hu))
  have HP := Lib.hid (fun W (hk : Keeps (fun _ => False) w W) => clone106 _ D.p.length _ 0 W (h.quiet hk).pend h.pn (fun u hu => pflat_one u hu))
  have HC : Hid (∀ W, Keeps (fun _ => False) w W → W.cell? ⟨B, 0, none⟩ = some (.slice sa D.n sc) ∧ W.cell? ⟨B, 1, none⟩ = some (.slice qa D.p.length qc)) :=
    Lib.hid fun W hk => ⟨(hk.cell (p := ⟨B, 0, none⟩) hlt id).trans c0, (hk.cell (p := ⟨B, 1, none⟩) hlt id).trans c1⟩
  have HK0 : Hid (Keeps (fun _ => False) w (w.alloc (.cells #[.slice sa D.n sc, .slice qa D.p.length qc, .bool D.dead, .bool D.armed, .int .i64 D.left, .int .i64 D.fails, .int .i64 D.ops] 95)).drew) := Lib.hid ((Keeps.refl _ _).alloc _).drew
  have HB0 : Hid (Blk (w.alloc (.cells #[.slice sa D.n sc, .slice qa D.p.length qc, .bool D.dead, .bool D.armed, .int .i64 D.left, .int .i64 D.fails, .int .i64 D.ops] 95)).drew w.heap.size 95 [.slice sa D.n sc, .slice qa D.p.length qc, .bool D.dead, .bool D.armed, .int .i64 D.left, .int .i64 D.fails, .int .i64 D.ops]) := Lib.hid (Blk.new w 95 _).drew
  unfold DL.ptr
  clear h
  go_enter Try.func37, Try.ntmps37
  go_wp2_with fail
  clear c0 c1 c2 c3 c4 c5 c6
  go_region_held3 (fun W => W.cell? ⟨B, 0, none⟩ = some (.slice sa D.n sc) ∧ W.cell? ⟨B, 1, none⟩ = some (.slice qa D.p.length qc)) (first | exact HC.out _ HK0.out | exact HC.out _ (HK0.out.trans HK1.out) | exact HC.out _ ((HK0.out.trans HK1.out).trans HK2.out) | exact HC.out _ (((HK0.out.trans HK1.out).trans HK2.out).store (p := ⟨w.heap.size, 0, none⟩) (.inr (Nat.le_refl _)) _) | exact HC.out _ ((((HK0.out.trans HK1.out).trans HK2.out).store (p := ⟨w.heap.size, 0, none⟩) (.inr (Nat.le_refl _)) _).store (p := ⟨w.heap.size, 1, none⟩) (.inr (Nat.le_refl _)) _)) (first
    | (go_at_call 67; refine (HS.out _ HK0.out).mono ?_; rintro e w3 ⟨rv, rfl, ho3, k1⟩; obtain ⟨ra, rcp, rfl, _⟩ := own_slice ho3; have HO3 := Lib.hid ho3; have HK1 := Lib.hid k1; clear ho3 k1)
    | (go_at_call 68; refine (HP.out _ (HK0.out.trans HK1.out)).mono ?_; rintro e w4 ⟨rv, rfl, ho4, k2⟩; obtain ⟨ra2, rcp2, rfl, _⟩ := own_slice ho4; have HO4 := Lib.hid ho4; have HK2 := Lib.hid k2; have hb4 := (HK1.out.trans k2).blk HB0.out id; have x0 := hb4.cell (i := 0) rfl; have x1 := hb4.cell (i := 1) rfl; have x2 := hb4.free; have HB4 := Lib.hid hb4; clear ho4 k2 hb4))
  all_goals
    rename_i hHeld
    clear hHeld
    go_wp2_with fail
    go_ret
    have hd := HD.out
    have hsz : w.heap.size < w3.heap.size := Nat.lt_of_lt_of_le (by simp) HK1.out.size
    have hne4 : ∀ g, (Value.slice ra2 D.p.length rcp2).ownBlock = some g → w.heap.size + 1 ≤ g := fun g hg => by
      have := (own_heap HO4.out hg).1
      omega
    have hne3' : ∀ g, (Value.slice ra D.n rcp).ownBlock = some g → w.heap.size + 1 ≤ g := fun g hg => by
      have := (own_heap HO3.out hg).1
      simpa using this
    have hkk : Keeps (fun k => k = w.heap.size) w4 ((w4.setCell ⟨w.heap.size, 0, none⟩ (.slice ra D.n rcp)).setCell ⟨w.heap.size, 1, none⟩ (.slice ra2 D.p.length rcp2)) :=
      ((Keeps.refl (fun k => k = w.heap.size) w4).store (p := ⟨w.heap.size, 0, none⟩) (.inl rfl) _).store (p := ⟨w.heap.size, 1, none⟩) (.inl rfl) _
    refine ⟨⟨w.heap.size, .slice ra D.n rcp, .slice ra2 D.p.length rcp2⟩, rfl, ⟨(HB4.out.store 0 _).store 1 _, ?_, ?_, hd.n1, hd.n2, hd.fl, hd.pl, hd.pa, hd.pn, hd.o1, hd.o2, hd.l1, hd.l2, hd.f1, hd.f2⟩, ?_, ?_⟩
    · exact hkk.own (HK2.out.own (own_base HO3.out (Nat.zero_le _)) fun _ _ => id) fun g hg e => by
        have := hne3' g hg
        have e' : g = w.heap.size := e
        omega
    · exact hkk.own (own_base HO4.out (Nat.zero_le _)) fun g hg e => by
        have := hne4 g hg
        have e' : g = w.heap.size := e
        omega
    · intro k hk
      rcases hk with e | e | e
      · exact Nat.le_of_eq e.symm
      · have := hne3' k e
        omega
      · have := hne4 k e
        omega
    · exact (((HK0.out.trans HK1.out).trans HK2.out).store (p := ⟨w.heap.size, 0, none⟩) (.inr (Nat.le_refl _)) _).store (p := ⟨w.heap.size, 1, none⟩) (.inr (Nat.le_refl _)) _
end Go.Proofs.Ytjiammhmeliogaa
