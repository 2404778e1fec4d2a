/- icehouseref11: with. -/
import Derived.Test.YthnagihgjenimaaDoorRefN
namespace Go.Proofs.YthnagihgjenimaaDoor
open Go.RowKit
set_option linter.unusedVariables false
set_option linter.unusedSimpArgs false

def upd2 (f : Nat → Nat → Nat) (i k x : Nat) (a b : Nat) : Nat := if a = i ∧ b = k then x else f a b
theorem gcs_set (f : Nat → Nat → Nat) {i k : Nat} (x : Nat) : (gcs (f i)).set k (.int .i64 (x : Nat)) = gcs (upd2 f i k x i) := by
  apply List.ext_getElem?
  intro j
  rcases Nat.lt_or_ge j 32 with hj | hj
  · rw [gcs_at _ hj]
    by_cases e : j = k
    · subst e
      rw [List.getElem?_set_self (by rw [gcs_len]; exact hj)]
      simp [upd2]
    · rw [List.getElem?_set_ne (fun h => e h.symm), gcs_at _ hj]
      simp [upd2, e]
  · rw [List.getElem?_eq_none (by simp [gcs_len]; exact hj), List.getElem?_eq_none (by rw [gcs_len]; exact hj)]
theorem gcs_other (f : Nat → Nat → Nat) {i k a : Nat} (x : Nat) (h : a ≠ i) : gcs (upd2 f i k x a) = gcs (f a) := by
  unfold gcs
  apply List.map_congr_left
  intro b _
  simp [upd2, h]
theorem RgAt.set {w : World} {X : RG} {n : Nat} {f : Nat → Nat → Nat} (h : RgAt w X n f) {i k : Nat} (hi : i < n) (x : Nat) :
    RgAt (w.setCell ⟨X.R i, k, none⟩ (.int .i64 (x : Nat))) X n (upd2 f i k x) ∧ Keeps (fun g => g = X.R i) w (w.setCell ⟨X.R i, k, none⟩ (.int .i64 (x : Nat))) := by
  have hk : Keeps (fun g => g = X.R i) w (w.setCell ⟨X.R i, k, none⟩ (.int .i64 (x : Nat))) := (Keeps.refl (fun g => g = X.R i) w).store (p := ⟨X.R i, k, none⟩) (.inl rfl) _
  refine ⟨⟨h.n1, h.n2, hk.own h.out fun g hg e => own_ne_blk (h.row i hi) h.out (by decide) (by rw [hg]; exact congrArg some e), fun a ha => ?_, h.inj⟩, hk⟩
  by_cases e : a = i
  · subst e
    have := (h.row a ha).store k (.int .i64 (x : Nat))
    rwa [gcs_set] at this
  · rw [gcs_other f x e]
    exact hk.blk (h.row a ha) fun e2 => e (h.inj _ _ ha hi e2)
/-- Copied up to the place k of the page i. -/
structure WtS (W1 : World) (X Y : RG) (n : Nat) (f : Nat → Nat → Nat) (i k : Nat) (wr : World) : Prop where
  done : ∃ g, RgAt wr Y n g ∧ ∀ a b, a < n → b < 32 → (a < i ∨ a = i ∧ b < k) → g a b = f a b
  keeps : Keeps (fun g => ∃ a, a < n ∧ g = Y.R a) W1 wr
/-- What stands beside the copying. -/
structure WtFix (W1 : World) (X Y : RG) (n : Nat) (f : Nat → Nat → Nat) (B0 B1 B9 : Nat) : Prop where
  x : RgAt W1 X n f
  b0 : Blk W1 B0 40 [.slice (some ⟨X.O, 0, none⟩) n X.cap]
  b1 : Blk W1 B1 40 [.slice none 0 0]
  b9 : Blk W1 B9 40 [.slice (some ⟨Y.O, 0, none⟩) n Y.cap]
  ne : ∀ a b, a < n → b < n → X.R a ≠ Y.R b
  yo : W1.ownsRow 0 28 1 (.slice (some ⟨Y.O, 0, none⟩) n Y.cap) n (Y.rows n)
  yr : ∀ a, a < n → Blk W1 (Y.R a) 3 (gcs fun _ => 0)
section
variable {W1 wr : World} {X Y : RG} {n : Nat} {f : Nat → Nat → Nat} {B0 B1 B9 i k : Nat}
theorem WtFix.blk (h : WtFix W1 X Y n f B0 B1 B9) (hs : WtS W1 X Y n f i k wr) {B t : Nat} {cs : List Value} (hb : Blk W1 B t cs) (ht : t ≠ 3) : Blk wr B t cs :=
  hs.keeps.blk hb fun ⟨a, ha, e⟩ => hb.ne (h.yr a ha) ht e
theorem WtFix.cells (h : WtFix W1 X Y n f B0 B1 B9) (hs : WtS W1 X Y n f i k wr) :
    wr.cell? ⟨B0, 0, none⟩ = some (.slice (some ⟨X.O, 0, none⟩) n X.cap) ∧ wr.cell? ⟨B9, 0, none⟩ = some (.slice (some ⟨Y.O, 0, none⟩) n Y.cap) ∧
    (∀ a, a < n → wr.cell? ⟨X.O, a, none⟩ = some (rowv (X.R a))) ∧ (∀ a b, a < n → b < 32 → wr.cell? ⟨X.R a, b, none⟩ = some (.int .i64 (f a b : Nat))) ∧
    (∀ a, a < n → wr.cell? ⟨Y.O, a, none⟩ = some (rowv (Y.R a)) ∧ ∀ b, b < 32 → wr.frozen? ⟨Y.R a, b, none⟩ = false ∧ ∃ u : Value, wr.cell? ⟨Y.R a, b, none⟩ = some u) ∧
    (wr.cell? ⟨B1, 0, none⟩ = some (.slice none 0 0) ∧ wr.frozen? ⟨B1, 0, none⟩ = false) := by
  refine ⟨(h.blk hs h.b0 (by decide)).cell rfl, (h.blk hs h.b9 (by decide)).cell rfl, fun a ha => ?_, fun a b ha hb => ?_, fun a ha => ?_, (h.blk hs h.b1 (by decide)).cell rfl, (h.blk hs h.b1 (by decide)).free 0⟩
  · exact (hs.keeps.cell (p := ⟨X.O, a, none⟩) h.x.ltO fun ⟨c, hc, e⟩ => own_ne_blk (h.yr c hc) h.x.out (by decide) (by rw [← e]; rfl)).trans (h.x.cells a ha).1
  · exact (hs.keeps.cell (p := ⟨X.R a, b, none⟩) (h.x.ltR ha) fun ⟨c, hc, e⟩ => h.ne a c ha hc e).trans ((h.x.cells a ha).2 b hb)
  · obtain ⟨g, hg, _⟩ := hs.done
    exact ⟨(hg.cells a ha).1, fun b hb => ⟨(hg.row a ha).free b, _, (hg.cells a ha).2 b hb⟩⟩
theorem WtS.step (hs : WtS W1 X Y n f i k wr) (hi : i < n) (hk : k < 32) : WtS W1 X Y n f i (k + 1) (wr.setCell ⟨Y.R i, k, none⟩ (.int .i64 (f i k : Nat))) := by
  obtain ⟨⟨g, hg, he⟩, hkp⟩ := hs
  obtain ⟨h1, h2⟩ := hg.set hi (k := k) (f i k)
  refine ⟨⟨_, h1, fun a b ha hb hh => ?_⟩, hkp.trans (h2.mono fun z _ e => ⟨i, hi, e⟩)⟩
  unfold upd2
  by_cases e : a = i ∧ b = k
  · rw [if_pos e, e.1, e.2]
  · rw [if_neg e]
    exact he a b ha hb (by omega)
theorem WtS.next (hs : WtS W1 X Y n f i 32 wr) : WtS W1 X Y n f (i + 1) 0 wr := by
  obtain ⟨⟨g, hg, he⟩, hkp⟩ := hs
  exact ⟨⟨g, hg, fun a b ha hb hh => he a b ha hb (by omega)⟩, hkp⟩
theorem WtS.all (hs : WtS W1 X Y n f n 0 wr) : RgAt wr Y n f := by
  obtain ⟨⟨g, hg, he⟩, hkp⟩ := hs
  exact hg.congr fun a ha b hb => he a b ha hb (.inl ha)
theorem WtS.quiet {w2 : World} (hs : WtS W1 X Y n f i k wr) (hk : Keeps (fun _ => False) wr w2) : WtS W1 X Y n f i k w2 := by
  obtain ⟨⟨g, hg, he⟩, hkp⟩ := hs
  exact ⟨⟨g, hg.quiet hk, he⟩, hkp.trans (hk.mono fun _ _ h => h.elim)⟩
end
def WithP (n : Nat) (f : Nat → Nat → Nat) (w : World) (e : Ending) (w' : World) : Prop := ∃ Y : RG, e = .returned (Y.val n) ∧ RgAt w' Y n f ∧ Keeps (fun _ => False) w w'

set_option maxRecDepth 100000 in
set_option maxHeartbeats 1000000 in
theorem with_any (X : RG) (n : Nat) (f : Nat → Nat → Nat) (w : World) (h : RgAt w X n f) (hf : ∀ a b, a < n → b < 32 → f a b ≤ 8) (i k x : Nat) (hi : i < n) (hk : k < 32) (hx : x ≤ 8) :
    Calls Tryd.prog 59 #[X.val n, .int .i64 i, .int .i64 k, .int .i64 x] w (WithP n (upd2 f i k x) w) := by
  have n1 := h.n1
  have n2 := h.n2
  obtain ⟨hcap, hmx⟩ := h.cap
  obtain ⟨W0, hW0⟩ : ∃ W0, W0 = (w.alloc (.cells #[.slice (some ⟨X.O, 0, none⟩) n X.cap] 40)).alloc (.cells #[.slice none 0 0] 40) := ⟨_, rfl⟩
  have hs0 : W0.heap.size = w.heap.size + 2 := by subst hW0; simp
  have hk0 : Keeps (fun _ => False) w W0 := by subst hW0; exact ((Keeps.refl _ w).alloc _).alloc _
  have b0 : Blk W0 w.heap.size 40 [.slice (some ⟨X.O, 0, none⟩) n X.cap] := by subst hW0; exact (Blk.new w 40 [.slice (some ⟨X.O, 0, none⟩) n X.cap]).alloc _
  have b1 : Blk W0 (w.heap.size + 1) 40 [.slice none 0 0] := by
    subst hW0
    have := Blk.new (w.alloc (.cells #[.slice (some ⟨X.O, 0, none⟩) n X.cap] 40)) 40 [.slice none 0 0]
    rwa [World.size_alloc] at this
  have hcb := b0.cell (i := 0) rfl
  have HX0 := Lib.hid (h.quiet hk0)
  have HK0 := Lib.hid hk0
  have HB0 := Lib.hid b0
  have HB1 := Lib.hid b1
  have HF := Lib.hid hf
  clear hk0 b0 b1 h hf
  unfold maxLen at hmx
  unfold RG.val
  go_enter Tryd.func59, Tryd.ntmps59
  go_wp2_with fail
  rw [← hW0]
  clear hW0
  refine (rnew_any n n1 n2 W0).mono ?_
  rintro e w1 ⟨Y, rfl, hy, hyO, hyR, hk1⟩
  unfold RG.val
  have hx1 := HX0.out.quiet hk1
  have b0 := hk1.blk HB0.out id
  have b1 := hk1.blk HB1.out id
  obtain ⟨ycap, ymx⟩ := hy.cap
  unfold maxLen at ymx
  have hs1 := hk1.size
  have HK1 := Lib.hid hk1
  have HY1 := Lib.hid hy
  have HX1 := Lib.hid hx1
  have HB0' := Lib.hid b0
  have HB1' := Lib.hid b1
  have HYO := Lib.hid hyO
  have HYR := Lib.hid hyR
  clear hk1 hy hx1 b0 b1 hcb hyO hyR
  obtain ⟨W1, hW1⟩ : ∃ W1, W1 = w1.alloc (.cells #[.slice (some ⟨Y.O, 0, none⟩) n Y.cap] 40) := ⟨_, rfl⟩
  have k2 : Keeps (fun _ => False) w1 W1 := by subst hW1; exact (Keeps.refl _ _).alloc _
  have b9 : Blk W1 w1.heap.size 40 [.slice (some ⟨Y.O, 0, none⟩) n Y.cap] := by subst hW1; exact Blk.new w1 40 [.slice (some ⟨Y.O, 0, none⟩) n Y.cap]
  have bb0 := k2.blk HB0'.out id
  have bb1 := k2.blk HB1'.out id
  have hx2 := HX1.out.quiet k2
  have hy2 := HY1.out.quiet k2
  have HW : Hid (WtFix W1 X Y n f w.heap.size (w.heap.size + 1) w1.heap.size) := Lib.hid ⟨hx2, bb0, bb1, b9, fun a b ha hb e => by have := HX0.out.ltR ha; have := HYR.out b hb; omega, hy2.out, hy2.row⟩
  have HS : Hid (WtS W1 X Y n f 0 0 W1) := Lib.hid ⟨⟨_, hy2, fun a b ha hb hh => by omega⟩, Keeps.refl _ _⟩
  have HK2 := Lib.hid k2
  clear k2 b9 bb0 bb1 hx2 hy2
  go_wp2_with fail
  rw [← hW1]
  clear hW1
  go_loopw [10] (fun c wr => ∃ t : Nat, t ≤ n ∧ c = .int .i64 t ∧ WtS W1 X Y n f t 0 wr) (fun c _ => n - (intOf c).toNat)
  case atStart => exact ⟨0, Nat.zero_le _, rfl, HS.out⟩
  case round =>
    obtain ⟨t, ht, rfl, hs⟩ := hrel
    have HS1 := Lib.hid hs
    obtain ⟨q0, q1, q2, q3, q4, q5⟩ := HW.out.cells hs
    have Q5 := Lib.hid q5
    clear hs q2 q3 q4 q5
    by_cases hlt : t < n
    · go_wp2_with fail
      go_loopw [11] (fun c wr => ∃ q : Nat, q ≤ 32 ∧ c = .int .i64 q ∧ WtS W1 X Y n f t q wr) (fun c _ => 32 - (intOf c).toNat)
      case atStart => exact ⟨0, Nat.zero_le _, rfl, HS1.out⟩
      case round =>
        obtain ⟨q, hq, rfl, hs⟩ := hrel
        have HS2 := Lib.hid hs
        by_cases hlt2 : q < 32
        · obtain ⟨q0, q1, q2, q3, q4, q5⟩ := HW.out.cells hs
          have r2 := q2 t hlt
          have r3 := q3 t q hlt hlt2
          obtain ⟨r4, r5⟩ := q4 t hlt
          obtain ⟨r6, u, r7⟩ := r5 q hlt2
          have hfb := HF.out t q hlt hlt2
          have HST := Lib.hid (hs.step hlt hlt2)
          obtain ⟨v, hv⟩ : ∃ v, v = f t q := ⟨_, rfl⟩
          rw [← hv] at r3 hfb HST
          clear hs q2 q3 q4 q5 r5 hv
          unfold rowv at *
          go_wp2_with fail
          go_region
          have HST2 : Hid (WtS W1 X Y n f t (q + 1) (wr.setCell ⟨Y.R t, q, none⟩ (.int .i64 (v : Nat))).drew) := Lib.hid (HST.out.quiet (Keeps.refl _ _).drew)
          generalize (wr.setCell ⟨Y.R t, q, none⟩ (.int .i64 (v : Nat))).drew = w5 at HST2 ⊢
          go_wp2_with fail
          go_roundw
          case rel => exact ⟨q + 1, by omega, by go_num, HST2.out⟩
          case measure => simp [intOf]; omega
        · obtain rfl : q = 32 := by omega
          have HST2 := Lib.hid hs.next
          clear hs
          go_wp2_with fail
          go_roundw
          case rel => exact ⟨t + 1, by omega, by go_num, HST2.out⟩
          case measure => simp [intOf]; omega
    · obtain rfl : t = n := by omega
      have ha := HS1.out.all
      obtain ⟨c0, cr⟩ := ha.cells i hi
      have c1 := cr k hk
      have f1 := (ha.row i hi).free k
      obtain ⟨hset, hks⟩ := ha.set hi (k := k) x
      have HA := Lib.hid hset
      have hne1 : ∀ B cs, Blk wr B 40 cs → Blk (wr.setCell ⟨Y.R i, k, none⟩ (.int .i64 (x : Nat))) B 40 cs := fun B cs hb => hks.blk hb fun e => hb.ne (ha.row i hi) (by decide) e
      have b9' := hne1 _ _ (HW.out.blk HS1.out HW.out.b9 (by decide))
      have b1' := hne1 _ _ (HW.out.blk HS1.out HW.out.b1 (by decide))
      have d9 := b9'.cell (i := 0) rfl
      have d1 := b1'.cell (i := 0) rfl
      have e1 := b1'.free 0
      have HB := Lib.hid b1'
      have HKS := Lib.hid hks
      clear ha cr hset hks hne1 b9' b1'
      unfold rowv at *
      go_wp2_with fail
      obtain ⟨w5, hw5⟩ : ∃ w5, w5 = wr.setCell ⟨Y.R i, k, none⟩ (.int .i64 (x : Nat)) := ⟨_, rfl⟩
      rw [← hw5] at HA HB HKS ⊢
      clear hw5 d9 d1 e1
      have k9 : Keeps (fun g => g = w.heap.size + 1) w5 (w5.setCell ⟨w.heap.size + 1, 0, none⟩ (.slice (some ⟨Y.O, 0, none⟩) t Y.cap)) := (Keeps.refl (fun g => g = w.heap.size + 1) w5).store (p := ⟨w.heap.size + 1, 0, none⟩) (.inl rfl) _
      have x0 := (HB.out.store 0 (.slice (some ⟨Y.O, 0, none⟩) t Y.cap)).cell (i := 0) rfl
      refine bodyPost_ret (v := .agg #[.slice (some ⟨Y.O, 0, none⟩) t Y.cap]) (by simp [results, Tryd.f59, go_sem, x0]) rfl ⟨Y, rfl, HA.out.keep k9 fun g cur t' ht' hc e => ?_, ?_⟩
      · have hb := HB.out
        unfold Blk at hb
        rw [show g = w.heap.size + 1 from e, hb] at hc
        injection hc with hc
        injection hc with _ hc
        rcases ht' with rfl | rfl <;> cases hc
      · have a1 : Keeps (fun g => w.heap.size ≤ g) w wr := (((HK0.out.trans HK1.out).trans HK2.out).mono fun k _ hf => hf.elim).trans (HS1.out.keeps.mono fun g _ ⟨a, ha, e⟩ => by have := HYR.out a ha; omega)
        have a2 : Keeps (fun g => w.heap.size ≤ g) w w5 := a1.trans (HKS.out.mono fun g _ e => by have := HYR.out i hi; have e : g = Y.R i := e; omega)
        have a3 := a2.trans (k9.mono fun g _ e => by have e : g = w.heap.size + 1 := e; show w.heap.size ≤ g; omega)
        exact a3.mono fun g hg e => by have e : w.heap.size ≤ g := e; omega
end Go.Proofs.YthnagihgjenimaaDoor
