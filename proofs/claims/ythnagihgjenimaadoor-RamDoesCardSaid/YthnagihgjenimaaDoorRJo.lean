/- icehouseref13: Out. -/
import Derived.Test.YthnagihgjenimaaDoorRJc
namespace Go.Proofs.YthnagihgjenimaaDoor
open Go.RowKit
set_option linter.unusedVariables false
set_option linter.unusedSimpArgs false
def ROutP (X : RG) (D : AD) (c : Nat) (l : List HM) (w : World) (e : Ending) (w' : World) : Prop :=
  ∃ (Y : RG) (v : Value), e = .returned (.agg #[.slice (some ⟨Y.O, 0, none⟩) D.n Y.cap, v]) ∧ RgAt w' Y D.n (gv (D.took (c : Int))) ∧ HdAt w' v l ∧ Keeps (fun _ => False) w w' ∧ (Y = X ∨ Y.Over D.n w.heap.size)
def ROutC (X : RG) (D : AD) (c b : Nat) (W : World) (wc : World) : Prop :=
  ∃ (Y : RG) (wt : World), wc = wt.setCell ⟨b, 0, none⟩ (.slice (some ⟨Y.O, 0, none⟩) D.n Y.cap) ∧ RgAt wt Y D.n (gv (D.took (c : Int))) ∧ Keeps (fun _ => False) W wt ∧ (Y = X ∨ Y.Over D.n W.heap.size)
def skq (xs : List HM) (x : HM) (ys : List HM) (t : Nat) : List HM := skp xs ys t
set_option maxRecDepth 100000 in
set_option maxHeartbeats 4000000 in
theorem rout_any (X : RG) (D : AD) (hD : D.Ok) (v : Value) (xs ys : List HM) (x : HM) (w : World) (hX : RgAt w X D.n (gv D)) (h : HdAt w v (xs ++ x :: ys)) : Calls Tryd.prog 48 #[.agg #[.slice (some ⟨X.O, 0, none⟩) D.n X.cap, v], .int .i64 (xs.length : Int)] w (ROutP X D x.ch (xs ++ ys) w) := by
  have HH := Lib.hid h
  have HX := Lib.hid hX
  have hle := h.le
  have hch := (h.ok x (by simp)).2.1
  obtain ⟨va, vc, hv⟩ := h.form
  subst hv
  obtain ⟨W0, hW0⟩ : ∃ W0, W0 = ((w.alloc (.cells #[.slice (some ⟨X.O, 0, none⟩) D.n X.cap, .slice va (xs ++ x :: ys).length vc] 74)).alloc (.cells #[.slice none 0 0, .slice none 0 0] 74)).alloc (.cells #[.slice none 0 0, .slice none 0 0] 74) := ⟨_, rfl⟩
  have hk0 : Keeps (fun _ => False) w W0 := by rw [hW0]; exact (((Keeps.refl _ _).alloc _).alloc _).alloc _
  have hb0 : Blk W0 w.heap.size 74 [.slice (some ⟨X.O, 0, none⟩) D.n X.cap, .slice va (xs ++ x :: ys).length vc] := by rw [hW0]; exact ((Blk.new w 74 _).alloc _).alloc _
  have hb1 : Blk W0 (w.heap.size + 1) 74 [.slice none 0 0, .slice none 0 0] := by
    rw [hW0]
    have := (Blk.new (w.alloc (.cells #[.slice (some ⟨X.O, 0, none⟩) D.n X.cap, .slice va (xs ++ x :: ys).length vc] 74)) 74 [.slice none 0 0, .slice none 0 0]).alloc (.cells #[.slice none 0 0, .slice none 0 0] 74)
    rwa [World.size_alloc] at this
  have hb2 : Blk W0 (w.heap.size + 2) 74 [.slice none 0 0, .slice none 0 0] := by
    rw [hW0]
    have := Blk.new ((w.alloc (.cells #[.slice (some ⟨X.O, 0, none⟩) D.n X.cap, .slice va (xs ++ x :: ys).length vc] 74)).alloc (.cells #[.slice none 0 0, .slice none 0 0] 74)) 74 [.slice none 0 0, .slice none 0 0]
    rwa [World.size_alloc, World.size_alloc] at this
  have hs0 : W0.heap.size = w.heap.size + 3 := by rw [hW0]; simp
  have HK0 := Lib.hid hk0
  have HB0 := Lib.hid hb0
  have HB1 := Lib.hid hb1
  have HB2 := Lib.hid hb2
  have HW0 := Lib.hid hW0
  have HS0 := Lib.hid hs0
  have HTK : Hid (∀ W, Keeps (fun _ => False) W0 W → Calls Tryd.prog 28 #[X.val D.n, .int .i64 (x.ch : Int)] W (RTakeP X D (x.ch : Int) W)) := Lib.hid (fun W hk => rtake_any X D hD W (hX.quiet (hk0.trans hk)) (x.ch : Int) (by omega))
  unfold RG.val RTakeP RG.val at HTK
  obtain ⟨n, hn⟩ : ∃ n, n = (xs ++ x :: ys).length := ⟨_, rfl⟩
  obtain ⟨i, hi⟩ : ∃ i, i = xs.length := ⟨_, rfl⟩
  have hin : i < n := by rw [hn, hi]; simp
  have HN := Lib.hid hn
  have HI := Lib.hid hi
  rw [← hn] at hle HB0 HW0 hb0 ⊢
  rw [← hi]
  obtain ⟨g, cc, hg, _, hc⟩ := h.at (j := xs.length) (y := x) (by simp)
  injection hg with hg _ hg'
  subst hg hg'
  obtain ⟨B, hB⟩ : ∃ B, B = w.heap.size + 2 := ⟨_, rfl⟩
  have F : Hid (∀ W, Keeps (fun _ => False) W0 W → W.cell? ⟨w.heap.size, 0, none⟩ = some (.slice (some ⟨X.O, 0, none⟩) D.n X.cap) ∧ W.cell? ⟨w.heap.size, 1, none⟩ = some (.slice (some ⟨g, 0, none⟩) n vc) ∧ W.cell? ⟨g, i * 8 + 6, none⟩ = some (.int .i64 (x.ch : Int)) ∧ W.cell? ⟨w.heap.size + 2, 0, none⟩ = some (.slice none 0 0) ∧ W.frozen? ⟨w.heap.size + 2, 0, none⟩ = false) := Lib.hid (fun W hk => by
    have h0 := hk.blk hb0 id
    have h2 := hk.blk hb2 id
    rw [hi]
    exact ⟨h0.cell (i := 0) rfl, h0.cell (i := 1) rfl, hc _ (hk0.trans hk) 6 _ rfl, h2.cell (i := 0) rfl, h2.free 0⟩)
  have hin' : (i : Int) < (n : Int) := by omega
  obtain ⟨i86, z86, hi1, hz0, hzc, hz1, hz2⟩ := info86'
  have hzs : z86.cells.size = 8 := by rw [hzc]; rfl
  clear h hX hk0 hb0 hb1 hb2 hW0 hn hi hc hzc
  go_enter Tryd.func48, Tryd.ntmps48
  go_upto_region 1 with fail
  go_upto_region 2 with fail
  rw [← HW0.out]
  obtain ⟨a0, a1, a2, a3, a4⟩ := F.out _ (Keeps.refl _ _).drew
  go_cut [] (fun wx => ROutC X D x.ch (w.heap.size + 2) W0 wx)
  case first =>
    have b2 := (HB2.out).free 0
    go_region_with (go_at_call 28; refine (HTK.out _ (Keeps.refl _ _).drew).mono ?_; rintro e w2 ⟨Y, rfl, hY, hk2, ho⟩; have hk2' : Keeps (fun _ => False) W0 w2 := ((Keeps.refl (fun _ => False) W0).drew).trans hk2; obtain ⟨d0, d1, d2, d3, d4⟩ := F.out _ hk2'; have HY := Lib.hid hY; have HO := Lib.hid ho; clear hY ho; dsimp only [RG.val])
    all_goals
      go_wp2_with fail
      go_meet
      exact ⟨_, w2, rfl, HY.out, hk2', HO.out⟩
  case rest =>
    obtain ⟨Y, wt, hwc, hY, hkt, ho⟩ := hcut
    have hbt := hkt.blk HB2.out id
    have hkb : Keeps (fun k => k = w.heap.size + 2) wt wc := by rw [hwc]; exact (Keeps.refl (fun k => k = w.heap.size + 2) wt).store (p := ⟨w.heap.size + 2, 0, none⟩) (.inl rfl) _
    have hbo : Blk wc (w.heap.size + 2) 74 [.slice (some ⟨Y.O, 0, none⟩) D.n Y.cap, .slice none 0 0] := by rw [hwc]; exact hbt.store 0 _
    have HYW := Lib.hid (rg_keepB hY hbt (by decide) (by decide) hkb)
    have HK1 : Hid (Keeps (fun k => k = w.heap.size + 2) W0 wc) := Lib.hid ((hkt.mono fun _ _ h => h.elim).trans hkb)
    have HBO := Lib.hid hbo
    have HO := Lib.hid ho
    obtain ⟨W1, rfl⟩ : ∃ W1, W1 = wc := ⟨_, rfl⟩
    obtain ⟨yO, hyO⟩ : ∃ yO, yO = Value.slice (some ⟨Y.O, 0, none⟩) D.n Y.cap := ⟨_, rfl⟩
    have HYO := Lib.hid hyO
    rw [← hyO] at HBO
    have hsz1 := HK1.out.size
    have HSZ1 := Lib.hid hsz1
    clear hwc hY hkt ho hbt hkb hbo hyO a0 a1 a2 a3 a4 F HTK hsz1
    go_wp2_with fail
    go_loopw [6] (fun s6 wr => ∃ (t : Nat) (s : Value), t ≤ n ∧ s6 = .int .i64 (t : Int) ∧ Blk wr (w.heap.size + 2) 74 [yO, s] ∧ wr.ownsRow W1.heap.size 86 8 s (skp xs ys t).length (heldC (skp xs ys t)) ∧ Keeps (fun k => k = w.heap.size + 2) W1 wr) (fun s6 _ => n - (intOf s6).toNat)
    case atStart => exact ⟨0, _, Nat.zero_le _, rfl, HBO.out, by rw [skp_zero]; exact World.ownsRow_nil _ _ _ _, Keeps.refl _ _⟩
    case round =>
      obtain ⟨t, s, ht, rfl, hbo, hrow, hkr⟩ := hrel
      have HROW := Lib.hid hrow
      have HKR := Lib.hid hkr
      have HBR := Lib.hid hbo
      have HKA : Hid (Keeps (fun k => k = w.heap.size + 2) W0 wr) := Lib.hid (HK1.out.trans hkr)
      obtain ⟨sa, sc, hs⟩ := own_formQ hrow
      have hb := HKA.out.blk HB0.out (by omega)
      have b1 := hb.cell (i := 1) rfl
      by_cases hlt : t < n
      · have hlt' : (t : Int) < (n : Int) := by omega
        by_cases hti : t = i
        · subst hti
          clear hrow hkr hs hb hbo
          go_wp2_with fail
          go_roundw
          case rel => exact ⟨t + 1, s, by omega, by go_num, HBR.out, by rw [HI.out, skp_at, ← HI.out]; exact HROW.out, HKR.out⟩
          case measure => simp [intOf]; omega
        · have hti' : ((t : Int) != (i : Int)) = true := by simp; omega
          obtain ⟨y, hy⟩ : ∃ y, (xs ++ x :: ys)[t]? = some y := ⟨_, List.getElem?_eq_getElem (by rw [← HN.out]; exact hlt)⟩
          obtain ⟨g', cc', hg, hglt, hc⟩ := HH.out.at hy
          injection hg with hg _ hg'
          injection hg with hg
          injection hg with hg
          subst hg hg'
          have hyr := HH.out.rd y (List.mem_of_getElem? hy)
          obtain ⟨⟨yk, ykc, hyk, _⟩, ⟨yv, yvc, hyv, _⟩⟩ := hyr
          have hkw : ∀ p : Addr, p.block < w.heap.size → wr.cell? p = w.cell? p := fun p hp => by
            have h1 := HKA.out.cell (p := p) (by have := HS0.out; omega) (by omega)
            rw [h1]
            exact HK0.out.cell hp id
          have c0 := (hkw ⟨g, t * 8 + 0, none⟩ hglt).trans (hc _ (Keeps.refl _ _) 0 _ rfl)
          have c1 := (hkw ⟨g, t * 8 + 1, none⟩ hglt).trans (hc _ (Keeps.refl _ _) 1 _ rfl)
          have c2 := (hkw ⟨g, t * 8 + 2, none⟩ hglt).trans (hc _ (Keeps.refl _ _) 2 _ rfl)
          have c3 := (hkw ⟨g, t * 8 + 3, none⟩ hglt).trans (hc _ (Keeps.refl _ _) 3 _ rfl)
          have c4 := (hkw ⟨g, t * 8 + 4, none⟩ hglt).trans (hc _ (Keeps.refl _ _) 4 _ rfl)
          have c5 := (hkw ⟨g, t * 8 + 5, none⟩ hglt).trans (hc _ (Keeps.refl _ _) 5 _ rfl)
          have c6 := (hkw ⟨g, t * 8 + 6, none⟩ hglt).trans (hc _ (Keeps.refl _ _) 6 _ rfl)
          have c7 := (hkw ⟨g, t * 8 + 7, none⟩ hglt).trans (hc _ (Keeps.refl _ _) 7 _ rfl)
          rw [hyk] at c0
          rw [hyv] at c1
          simp only [Nat.add_zero] at c0
          obtain ⟨cs, hcs⟩ : ∃ cs, cs = [Value.slice yk y.it.key.length ykc, .slice yv y.it.val.length yvc, .int .u32 y.it.fg, .int .u32 y.it.ex, .int .u64 y.it.sq, .bool y.it.dt, .int .i64 (y.ch : Int), .int .i64 (y.cl : Int)] := ⟨_, rfl⟩
          have hyc : cs = y.cells := by unfold HM.cells; rw [hyk, hyv]; exact hcs
          have hcl8 : cs.length = 1 * 8 := by rw [hcs]; rfl
          obtain ⟨m, hm⟩ : ∃ m, m = (skp xs ys t).length := ⟨_, rfl⟩
          rw [← hm] at HROW
          have hlen : m ≤ 100000 := by
            have h1 := HN.out
            simp at h1
            have := skp_len (xs := xs) (ys := ys) (t := t) (by omega)
            omega
          have HNW : Hid (∀ j u, cs[j]? = some u → (wr.drew.alloc (.cells #[.slice yk y.it.key.length ykc, .slice yv y.it.val.length yvc, .int .u32 y.it.fg, .int .u32 y.it.ex, .int .u64 y.it.sq, .bool y.it.dt, .int .i64 (y.ch : Int), .int .i64 (y.cl : Int)] 86)).cell? ((⟨wr.heap.size, 0, none⟩ : Addr).add j) = some u) := Lib.hid (fun j u hu => by rw [hcs] at hu; exact new_cells wr.drew 86 _ hu)
          have HONE : Hid (∀ u ∈ cs, u.oneCell' = true) := Lib.hid (by rw [hcs]; intro u hu; simp at hu; rcases hu with rfl | rfl | rfl | rfl | rfl | rfl | rfl | rfl <;> rfl)
          have HOX : Hid ((wr.drew.alloc (.cells #[.slice yk y.it.key.length ykc, .slice yv y.it.val.length yvc, .int .u32 y.it.fg, .int .u32 y.it.ex, .int .u64 y.it.sq, .bool y.it.dt, .int .i64 (y.ch : Int), .int .i64 (y.cl : Int)] 86)).ownsRow W1.heap.size 86 8 s m (heldC (skp xs ys t))) := Lib.hid (Keeps.own' (((Keeps.refl (fun _ => False) wr).drew).alloc _) HROW.out (fun _ _ => id))
          have hbs : W1.heap.size ≤ (wr.drew.alloc (.cells #[.slice yk y.it.key.length ykc, .slice yv y.it.val.length yvc, .int .u32 y.it.fg, .int .u32 y.it.ex, .int .u64 y.it.sq, .bool y.it.dt, .int .i64 (y.ch : Int), .int .i64 (y.cl : Int)] 86)).heap.size := by
            have h1 := hkr.size
            have h2 := (((Keeps.refl (fun _ => False) wr).drew).alloc (.cells #[.slice yk y.it.key.length ykc, .slice yv y.it.val.length yvc, .int .u32 y.it.fg, .int .u32 y.it.ex, .int .u64 y.it.sq, .bool y.it.dt, .int .i64 (y.ch : Int), .int .i64 (y.cl : Int)] 86)).size
            omega
          have hm1 : m + 1 ≤ maxLen := by unfold maxLen; omega
          have hm2 : (m + 1) * 88 ≤ 140737488355328 := by omega
          have q1 := hbo.cell (i := 1) rfl
          have q1a := (hbo.alloc (.cells #[.slice yk y.it.key.length ykc, .slice yv y.it.val.length yvc, .int .u32 y.it.fg, .int .u32 y.it.ex, .int .u64 y.it.sq, .bool y.it.dt, .int .i64 (y.ch : Int), .int .i64 (y.cl : Int)] 86)).cell (i := 1) rfl
          have HST : Hid (∀ v' w3, w3.ownsRow W1.heap.size 86 8 v' (m + 1) (heldC (skp xs ys t) ++ cs) → (wr.drew.alloc (.cells #[.slice yk y.it.key.length ykc, .slice yv y.it.val.length yvc, .int .u32 y.it.fg, .int .u32 y.it.ex, .int .u64 y.it.sq, .bool y.it.dt, .int .i64 (y.ch : Int), .int .i64 (y.cl : Int)] 86)).grownBy w3 s.ownBlock → w3.cell? ⟨w.heap.size + 2, 1, none⟩ = some s ∧ w3.frozen? ⟨w.heap.size + 2, 1, none⟩ = false ∧ Blk (w3.setCell ⟨w.heap.size + 2, 1, none⟩ v') (w.heap.size + 2) 74 [yO, v'] ∧ (w3.setCell ⟨w.heap.size + 2, 1, none⟩ v').ownsRow W1.heap.size 86 8 v' (m + 1) (heldC (skp xs ys t) ++ cs) ∧ Keeps (fun k => k = w.heap.size + 2) W1 (w3.setCell ⟨w.heap.size + 2, 1, none⟩ v')) := Lib.hid (fun v' w3 hown hgr => by
            have hb3 : Blk w3 (w.heap.size + 2) 74 [yO, s] := (Keeps.of_grown hgr).blk ((HBR.out.drew).alloc _) (fun e => avoids HBR.out HROW.out (by decide) _ e rfl)
            have hst := (Keeps.refl (fun k => k = w.heap.size + 2) w3).store (p := ⟨w.heap.size + 2, 1, none⟩) (.inl rfl) v'
            refine ⟨hb3.cell (i := 1) rfl, hb3.free 1, hb3.store 1 v', hst.own' hown (fun g hg e => ?_), ?_⟩
            · have h1 := (own_heap hown hg).1
              have h2 := HSZ1.out
              have h3 := HS0.out
              have e : g = w.heap.size + 2 := e
              omega
            · have k1 := ((Keeps.refl (fun k => k = w.heap.size + 2 ∨ W1.heap.size ≤ k) wr).drew).alloc (.cells #[.slice yk y.it.key.length ykc, .slice yv y.it.val.length yvc, .int .u32 y.it.fg, .int .u32 y.it.ex, .int .u64 y.it.sq, .bool y.it.dt, .int .i64 (y.ch : Int), .int .i64 (y.cl : Int)] 86)
              have k2 := (Keeps.of_grown hgr).mono (S' := fun k => k = w.heap.size + 2 ∨ W1.heap.size ≤ k) (fun k _ e => .inr (own_heap HROW.out e).1)
              exact (((HKR.out.mono (S' := fun k => k = w.heap.size + 2 ∨ W1.heap.size ≤ k) fun _ _ h => .inl h).trans (k1.trans k2)).trans (hst.mono fun _ _ h => .inl h)).mono fun k hk e => e.elim id fun e => by omega)
          have HREL : Hid ((skp xs ys (t + 1)).length = m + 1 ∧ heldC (skp xs ys (t + 1)) = heldC (skp xs ys t) ++ cs) := Lib.hid (by
            have := skp_step hy (by rw [← HI.out]; exact hti)
            rw [this, heldC_snoc, List.length_append, ← hyc, ← hm]
            exact ⟨rfl, rfl⟩)
          subst hs
          clear hrow hkr hb hbo hc hkw hyk hyv hcs hyc hy hglt hm
          go_wp2_with fail
          go_region_law ((refine step_own rfl (.tmp 32) (.tmp 38) 72 rfl W1.heap.size 86 i86 z86 8 88 Tryd.underlying72 hi1 hz0 hz1 hz2 hzs (by decide) _ m (heldC (skp xs ys t)) rfl HOX.out ⟨wr.heap.size, 0, none⟩ 1 1 cs rfl hcl8 HNW.out HONE.out hm1 hm2 hbs ?_; intro v' w3 hown' hgrow; obtain ⟨va', vc', rfl⟩ := own_formQ hown'; obtain ⟨z1, z2, z3, z4, z5⟩ := HST.out _ _ hown' hgrow; have HZ3 := Lib.hid z3; have HZ4 := Lib.hid z4; have HZ5 := Lib.hid z5; clear hown' hgrow z3 z4 z5))
          all_goals
            go_wp2_with fail
            go_roundw
            case rel =>
              obtain ⟨e1, e2⟩ := HREL.out
              exact ⟨t + 1, _, by omega, by go_num, HZ3.out, by rw [e1, e2]; exact HZ4.out, HZ5.out⟩
            case measure => simp [intOf]; omega
      · have hlt' : ¬ ((t : Int) < (n : Int)) := by omega
        obtain rfl : t = n := by omega
        have hb1 := HKA.out.blk HB1.out (by omega)
        have p0 := hbo.cell (i := 0) rfl
        have p1 := hbo.cell (i := 1) rfl
        have y0 := hb1.cell (i := 0) rfl
        have y1 := hb1.cell (i := 1) rfl
        have g0 := hb1.free 0
        have g1 := hb1.free 1
        have heq : skp xs ys t = xs ++ ys := by rw [HN.out]; exact skp_all xs x ys
        rw [heq] at hrow hs
        obtain ⟨m, hm⟩ : ∃ m, m = (xs ++ ys).length := ⟨_, rfl⟩
        have HM := Lib.hid hm
        subst hs
        have hyO := HYO.out
        subst hyO
        have HROW' := Lib.hid hrow
        have HB1' := Lib.hid hb1
        have HBO' := Lib.hid hbo
        rw [← hm] at p1 HBO'
        have HROW'' : Hid (wr.ownsRow W1.heap.size 86 8 (.slice sa m sc) m (heldC (xs ++ ys))) := Lib.hid (by rw [hm]; exact hrow)
        clear hrow hb hbo hb1 hkr HROW heq hm HROW' HBR
        go_wp2_with fail
        obtain ⟨ho, hk9⟩ := st2 HB1'.out (.slice (some ⟨Y.O, 0, none⟩) D.n Y.cap) (.slice sa m sc)
        have q0 := ho.cell (i := 0) rfl
        have q1 := ho.cell (i := 1) rfl
        have hs0 := HS0.out
        have hz1 := HSZ1.out
        have hall : Keeps (fun k => k = w.heap.size + 1 ∨ k = w.heap.size + 2) w _ := ((HK0.out.mono fun _ _ h => h.elim).trans (HKA.out.mono fun k _ e => .inr e)).trans (hk9.mono fun k _ e => .inl e)
        have hrf := hk9.own' HROW''.out (fun g hg e => by
          have h1 := (own_heap HROW''.out hg).1
          have e : g = w.heap.size + 1 := e
          omega)
        have hin : ∀ h ∈ xs ++ ys, h ∈ xs ++ x :: ys := fun h hh => by
          simp at hh ⊢
          rcases hh with h | h <;> simp [h]
        refine bodyPost_ret (v := .agg #[.slice (some ⟨Y.O, 0, none⟩) D.n Y.cap, .slice sa m sc]) (by simp [results, Tryd.f48, go_sem, q0, q1]) rfl ⟨Y, .slice sa m sc, rfl, ?_, ?_, ?_, ?_⟩
        · exact rg_keepB (rg_keepB HYW.out HBO.out (by decide) (by decide) HKR.out) HB1'.out (by decide) (by decide) hk9
        · refine ⟨?_, fun h hh => ?_, fun h hh => HH.out.ok h (hin h hh), ?_⟩
          · rw [← HM.out]
            exact own_low hrf (Nat.zero_le _)
          · exact (HH.out.rd h (hin h hh)).old hall (fun k e => by rcases e with e | e <;> omega)
          · have := HH.out.le
            simp at this ⊢
            omega
        · exact hall.mono fun k hk e => by rcases e with e | e <;> omega
        · exact HO.out.imp id fun h => h.mono (by omega)
end Go.Proofs.YthnagihgjenimaaDoor
