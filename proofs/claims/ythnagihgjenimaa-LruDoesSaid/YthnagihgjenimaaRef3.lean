/- icehouseref12: the lists with a number ahead of a list. -/
import Derived.Test.YthnagihgjenimaaRef2
import Derived.Deep.RegionLaw
namespace Go.Proofs.Ythnagihgjenimaa
open Go.RowKit
set_option linter.unusedVariables false

/-- append onto a row of the call's own, as a step of a region. -/
theorem step_own {P : Program} {w : World} {ops : Array Oper} {o : Oper} {a : Act} {K : Act → World → Prop} {Q : Exit → Act → World → Prop} {E : Prop} (hgd : o.guard = none) (s x : Operand) (t : TypeId)
    (ho : o.op = .call { callee := .builtin .append, args := #[s, x], argTypes := #[t, t] })
    (base : Nat) (e : TypeId) (i : TypeInfo) (z : Value) (size bytes : Nat) (ht : P.underlying t = some (.slice e)) (hi : P.info? e = some i) (hz : i.zero = some z)
    (hsize : i.size = size) (hby : i.bytes = bytes) (hzs : z.cells.size = size) (hsz : 0 < size)
    (v : Value) (n : Nat) (xs : List Value) (hs : a.eval s = v) (hown : w.ownsRow base e size v n xs)
    (ad : Addr) (m c : Nat) (news : List Value) (hx : a.eval x = .slice (some ad) m c) (hl : news.length = m * size) (hnews : ∀ j u, news[j]? = some u → w.cell? (ad.add j) = some u) (h1 : ∀ u ∈ news, u.oneCell' = true)
    (h63 : n + m ≤ maxLen) (hbytes : (n + m) * bytes ≤ 140737488355328) (hbase : base ≤ w.heap.size)
    (h : ∀ v' w', w'.ownsRow base e size v' (n + m) (xs ++ news) → w.grownBy w' v.ownBlock → K (a.put o.dst v') w') :
    if Region.wanted o (yielded ops a.tmps) = true then Oper.wp P o a w K Q else E := by
  have hw : Region.wanted o (yielded ops a.tmps) = true := by simp [Region.wanted, hgd]
  rw [if_pos hw]
  exact wp_append_own w s x t ho base e i z size bytes ht hi hz hsize hby hzs hsz v n xs hs hown ad m c news hx hl hnews h1 h63 hbytes hbase fun v' w' a b _ => h v' w' a b

theorem own_new (w : World) (base : Nat) (e : TypeId) (x : Value) (hb : base ≤ w.heap.size) : (w.alloc (.cells #[x] e)).ownsRow base e 1 (.slice (some ⟨w.heap.size, 0, none⟩) 1 1) 1 [x] :=
  ⟨rfl, .inr ⟨w.heap.size, 1, #[x], rfl, hb, heap_alloc_new w _, Nat.le_refl _, by unfold maxLen; omega, rfl, rfl⟩⟩

theorem own_free {w : World} {base size : Nat} {e : TypeId} {g n cap : Nat} {xs : List Value} (h : w.ownsRow base e size (.slice (some ⟨g, 0, none⟩) n cap) n xs) (i : Nat) : w.frozen? ⟨g, i, none⟩ = false := by
  obtain ⟨_, _, cur, hc⟩ := own_heap h (g := g) rfl
  simp [World.frozen?, hc]

theorem own_set {w : World} {base : Nat} {e : TypeId} {g n cap : Nat} {xs : List Value} (h : w.ownsRow base e 1 (.slice (some ⟨g, 0, none⟩) n cap) n xs) {i : Nat} (u : Value) :
    (w.setCell ⟨g, i, none⟩ u).ownsRow base e 1 (.slice (some ⟨g, 0, none⟩) n cap) n (xs.set i u) := by
  obtain ⟨hl, hr⟩ := h
  refine ⟨by simpa using hl, ?_⟩
  rcases hr with ⟨h', _⟩ | ⟨g', cap', cur, e1, hb, hg, h1, h2, h3, h4⟩
  · cases h'
  · cases e1
    refine .inr ⟨g, cap, cur.setIfInBounds i u, rfl, hb, ?_, h1, h2, by simpa using h3, ?_⟩
    · simp [World.setCell, Array.getElem?_modify, hg]
    · rw [← h4]; simp [List.take_set]

theorem blk_not_own {w : World} {B t e : Nat} {cs : List Value} (h : Blk w B t cs) {cur : Array Value} (hc : w.heap[B]? = some (.cells cur e (0, 0))) : e = t := by
  unfold Blk at h
  rw [hc] at h
  injection h with h
  injection h

theorem grown_keeps {w W w3 : World} (h : W.grownBy w3 (some w.heap.size)) (h1 : Keeps (fun k => w.heap.size ≤ k) w W) : Keeps (fun _ => False) w w3 := by
  have h2 : Keeps (fun k => w.heap.size ≤ k) W w3 := (Keeps.of_grown h).mono fun k _ e => by
    injection e with e
    show w.heap.size ≤ k
    omega
  exact (h1.trans h2).mono fun k hk h => absurd h (Nat.not_le.2 hk)

theorem blk_avoids {w : World} {B t e base size n : Nat} {cs xs : List Value} {v : Value} (h : Blk w B t cs) (ho : w.ownsRow base e size v n xs) (hne : e ≠ t) : ∀ g, v.ownBlock = some g → ¬ (g = B) := by
  intro g hg e'
  obtain ⟨_, _, cur, hc⟩ := own_heap ho hg
  subst e'
  exact hne (blk_not_own h hc)

theorem ahead_fin {base : Nat} {w2 F : World} {N n : Nat} {ls : Nat → List Nat} {g1 cap1 i x b : Nat} {y : Value} {rvs cs : List Value} (hi : i < n) (ho : w2.ownsRow base 43 1 (.slice (some ⟨g1, 0, none⟩) n cap1) n rvs)
    (hrr : ∀ j, j < n → ∃ rv, rvs[j]? = some rv ∧ w2.ownsRow base 3 1 rv (ls j).length (nats (ls j))) (hb : Blk w2 b 50 cs) (hk : Keeps (fun k => k = b) (w2.setCell ⟨g1, i, none⟩ y) F) (hy : F.ownsRow base 3 1 y (x :: ls i).length (nats (x :: ls i))) :
    RefAt base F (.agg #[.int .i64 (N : Int), .slice (some ⟨g1, 0, none⟩) n cap1]) N n (upd ls i (x :: ls i)) := by
  have hlen : rvs.length = n := by have := ho.1; simpa using this
  have ks : Keeps (fun k => k = g1) w2 (w2.setCell ⟨g1, i, none⟩ y) := (Keeps.refl (fun k => k = g1) w2).store (p := ⟨g1, i, none⟩) (.inl rfl) y
  have hbg : g1 ≠ b := fun e => blk_avoids hb ho (by decide) g1 rfl e
  have hb1 : Blk (w2.setCell ⟨g1, i, none⟩ y) b 50 cs := ks.blk hb (fun e => hbg e.symm)
  have ho1 := own_set (i := i) ho y
  refine ⟨_, rvs.set i y, rfl, hk.own ho1 (blk_avoids hb1 ho1 (by decide)), fun j hj => ?_⟩
  by_cases e : j = i
  · subst e
    rw [upd_same]
    exact ⟨y, by simp [hlen, hj], hy⟩
  · rw [upd_ne _ _ e]
    obtain ⟨rv, h1, h2⟩ := hrr j hj
    have h3 := ks.own h2 fun g hg => by
      have := own_type h2 ho (by decide) g1 rfl
      rintro rfl
      exact this hg
    exact ⟨rv, by rw [List.getElem?_set_ne (by omega)]; exact h1, hk.own h3 (blk_avoids hb1 h3 (by decide))⟩

set_option maxRecDepth 100000 in
set_option maxHeartbeats 2000000 in
theorem ahead_any (base : Nat) (w : World) (v : Value) (N n : Nat) (ls : Nat → List Nat) (h : RefAt base w v N n ls) (hn : 1 ≤ n) (hn2 : n ≤ 64) (hls : ∀ i, i < n → (ls i).length ≤ 65536) (hbase : base ≤ w.heap.size) (i x : Nat) (hi : i < n) :
    Calls Try.prog 36 #[v, .int .i64 i, .int .i64 x] w fun e w' => ∃ v', e = .returned v' ∧ RefAt w.heap.size w' v' N n (upd (wo ls x) i (x :: wo ls x i)) ∧ Keeps (fun _ => False) w w' := by
  have HR := Lib.hid h
  obtain ⟨g, cap, rfl, hcap, hmx, hg, hrow⟩ := h.form hn
  clear hrow h
  have HLS := Lib.hid hls
  obtain ⟨i0, hi1, hz0, hz1, hz2⟩ := info_parts info3
  clear hls
  obtain ⟨W0, hW0⟩ : ∃ W0, W0 = (w.alloc (.cells #[.int .i64 (N : Int), .slice (some ⟨g, 0, none⟩) n cap] 50)).alloc (.cells #[.int .i64 0, .slice none 0 0] 50) := ⟨_, rfl⟩
  have hs0 : W0.heap.size = w.heap.size + 2 := by subst hW0; simp
  have hk0 : Keeps (fun _ => False) w W0 := by subst hW0; exact ((Keeps.refl _ w).alloc _).alloc _
  have b1 : Blk W0 w.heap.size 50 [.int .i64 (N : Int), .slice (some ⟨g, 0, none⟩) n cap] := by subst hW0; exact (Blk.new w 50 [.int .i64 (N : Int), .slice (some ⟨g, 0, none⟩) n cap]).alloc _
  have b2 : Blk W0 (w.heap.size + 1) 50 [.int .i64 0, .slice none 0 0] := by
    subst hW0
    have := Blk.new (w.alloc (.cells #[.int .i64 (N : Int), .slice (some ⟨g, 0, none⟩) n cap] 50)) 50 [.int .i64 0, .slice none 0 0]
    rwa [World.size_alloc] at this
  have HK0 := Lib.hid hk0
  have HB1 := Lib.hid b1
  have HB2 := Lib.hid b2
  have HWO := Lib.hid (without_any base W0 _ N n ls (HR.out.quiet hk0) hn hn2 HLS.out (by omega) x)
  have hsl : w.heap.size + 2 ≤ W0.heap.size := by omega
  have c0 := b1.cell (i := 0) rfl
  have c1 := b1.cell (i := 1) rfl
  clear hk0 b1 b2 hs0
  go_enter Try.func36, Try.ntmps36
  go_wp2_with fail
  rw [← hW0]
  clear hW0
  refine HWO.out.mono ?_
  rintro e w1 ⟨v1, rfl, hr1, hk1⟩
  obtain ⟨g1, cap1, rfl, hcap1, hmx1, hg1, hrow1⟩ := hr1.form hn
  have hs1 := hk1.size
  have d1 : Blk w1 w.heap.size 50 [.int .i64 (N : Int), .slice (some ⟨g, 0, none⟩) n cap] := hk1.blk HB1.out id
  have d2 : Blk w1 (w.heap.size + 1) 50 [.int .i64 0, .slice none 0 0] := hk1.blk HB2.out id
  have e0 := d1.cell (i := 0) rfl
  have e1 := d1.cell (i := 1) rfl
  have f0 := d1.free 0
  have f1 := d1.free 1
  have HD1 := Lib.hid d1
  have HD2 := Lib.hid d2
  have HR1 := Lib.hid hr1
  have HROW1 := Lib.hid hrow1
  have HK1 := Lib.hid hk1
  clear d1 d2 hr1 hrow1 hk1 c0 c1
  obtain ⟨w2, hw2⟩ : ∃ w2, w2 = (w1.setCell ⟨w.heap.size, 0, none⟩ (.int .i64 (N : Int))).setCell ⟨w.heap.size, 1, none⟩ (.slice (some ⟨g1, 0, none⟩) n cap1) := ⟨_, rfl⟩
  have hk2 : Keeps (fun k => k = w.heap.size) w1 w2 := by subst hw2; exact ((Keeps.refl (fun k => k = w.heap.size) w1).store (p := ⟨w.heap.size, 0, none⟩) (.inl rfl) _).store (p := ⟨w.heap.size, 1, none⟩) (.inl rfl) _
  have hB : Blk w2 w.heap.size 50 [.int .i64 (N : Int), .slice (some ⟨g1, 0, none⟩) n cap1] := by subst hw2; exact (HD1.out.store 0 _).store 1 _
  have hB2 : Blk w2 (w.heap.size + 1) 50 [.int .i64 0, .slice none 0 0] := hk2.blk HD2.out (by omega)
  have hr2 : RefAt W0.heap.size w2 (.agg #[.int .i64 (N : Int), .slice (some ⟨g1, 0, none⟩) n cap1]) N n (wo ls x) := HR1.out.keep hk2 fun b cur t _ ht hc e => by
    subst e
    have := HD1.out
    unfold Blk at this
    rw [hc] at this
    injection this with this
    injection this with _ this
    rcases ht with rfl | rfl <;> cases this
  go_wp2_with fail
  rw [← hw2]
  clear hw2 e0 e1 f0 f1 hg1
  have hs2 := hk2.size
  obtain ⟨ov, rvs, ev, ho2, hrr2⟩ := hr2
  obtain ⟨rfl⟩ : .slice (some ⟨g1, 0, none⟩) n cap1 = ov := by
    injection ev with ev
    have := congrArg (fun a : Array Value => a[1]?) ev
    simpa using this
  obtain ⟨rv, hrv, hrow⟩ := hrr2 i hi
  have hg1 : g1 < w2.heap.size := (own_heap ho2 rfl).2.1
  have hcell : w2.cell? ⟨g1, i, none⟩ = some rv := by
    obtain ⟨_, a, c, ea, _, _, hc⟩ := own_read ho2
    obtain ⟨g', e1, _, _, e2⟩ := hc i hi
    cases ea
    cases e1
    rw [e2, hrv]
  have e0 := hB.cell (i := 0) rfl
  have e1 := hB.cell (i := 1) rfl
  have hfr := own_free ho2 i
  have hq1 : w.heap.size < w2.heap.size := by omega
  have hq2 : w.heap.size + 1 < w2.heap.size := by omega
  have k0 := hB2.free 0
  have k1 := hB2.free 1
  have m0 := hB2.cell (i := 0) rfl
  have m1 := hB2.cell (i := 1) rfl
  have HO2 := Lib.hid ho2
  have HRR2 := Lib.hid hrr2
  have HRV := Lib.hid hrv
  have HB := Lib.hid hB
  have HB2' := Lib.hid hB2
  have HK2 := Lib.hid hk2
  have hll : (wo ls x i).length ≤ 65536 := Nat.le_trans (List.length_filter_le _ _) (HLS.out i hi)
  obtain ⟨l, hl⟩ : ∃ l, l = wo ls x i := ⟨_, rfl⟩
  rw [← hl] at hrow hll
  have HL := Lib.hid hl
  have HROW := Lib.hid hrow
  clear ho2 hrr2 hrv hB hB2 hk2 hl ev
  have hne : g1 ≠ w.heap.size := by
    rintro rfl
    obtain ⟨_, _, cur, hc⟩ := own_heap HO2.out (g := w.heap.size) rfl
    cases blk_not_own HB.out hc
  have hne2 : g1 ≠ w.heap.size + 1 := by
    rintro rfl
    obtain ⟨_, _, cur, hc⟩ := own_heap HO2.out (g := w.heap.size + 1) rfl
    cases blk_not_own HB2'.out hc
  rcases hrow.2 with ⟨rfl, h0⟩ | ⟨gr, cpr, cur, rfl, _, hgr, _⟩
  · clear hrow
    have hl0 : Hid (l = []) := Lib.hid (List.eq_nil_of_length_eq_zero h0)
    clear h0
    go_region
    go_wp2_with fail
    obtain ⟨y, hy⟩ : ∃ y : Value, y = .slice (some ⟨w2.heap.size, 0, none⟩) 1 1 := ⟨_, rfl⟩
    have HY := Lib.hid hy
    rw [← hy]
    clear hy
    obtain ⟨X, hX⟩ : ∃ X, X = ((w2.setCell ⟨g1, i, none⟩ y).setCell ⟨w.heap.size + 1, 0, none⟩ (.int .i64 (N : Int))).setCell ⟨w.heap.size + 1, 1, none⟩ (.slice (some ⟨g1, 0, none⟩) n cap1) := ⟨_, rfl⟩
    have hXs : X.heap.size = w2.heap.size := by subst hX; simp [World.setCell]
    have hk3 : Keeps (fun k => k = w.heap.size + 1) (w2.setCell ⟨g1, i, none⟩ y) ((X.alloc (.cells #[.int .i64 (x : Int)] 3)).drew) := by
      subst hX
      exact ((((Keeps.refl (fun k => k = w.heap.size + 1) (w2.setCell ⟨g1, i, none⟩ y)).store (p := ⟨w.heap.size + 1, 0, none⟩) (.inl rfl) _).store (p := ⟨w.heap.size + 1, 1, none⟩) (.inl rfl) _).alloc _).drew
    have hbX : Blk ((X.alloc (.cells #[.int .i64 (x : Int)] 3)).drew) (w.heap.size + 1) 50 [.int .i64 (N : Int), .slice (some ⟨g1, 0, none⟩) n cap1] := by
      subst hX
      exact ((((HB2'.out.other (p := ⟨g1, i, none⟩) (by simpa using hne2.symm) y).store 0 (.int .i64 (N : Int))).store 1 (.slice (some ⟨g1, 0, none⟩) n cap1)).alloc _).drew
    have hyX : ((X.alloc (.cells #[.int .i64 (x : Int)] 3)).drew).ownsRow W0.heap.size 3 1 y (x :: l).length (nats (x :: l)) := by
      rw [HY.out, hl0.out, ← hXs]
      exact own_new X W0.heap.size 3 (.int .i64 (x : Int)) (by omega)
    rw [HL.out] at hyX
    have hfin := ahead_fin (N := N) hi HO2.out HRR2.out HB2'.out hk3 hyX
    have x0 := hbX.cell (i := 0) rfl
    have x1 := hbX.cell (i := 1) rfl
    rw [← hX]
    refine bodyPost_ret (v := .agg #[.int .i64 (N : Int), .slice (some ⟨g1, 0, none⟩) n cap1]) (by simp [results, Try.f36, go_sem, x0, x1]) rfl ⟨_, rfl, hfin.base (by omega), ?_⟩
    have K1 : Keeps (fun k => w.heap.size ≤ k) w w2 := ((HK0.out.mono fun _ _ h => h.elim).trans (HK1.out.mono fun _ _ h => h.elim)).trans (HK2.out.mono fun k _ h => by
      have h' : k = w.heap.size := h
      show w.heap.size ≤ k
      omega)
    have K2 : Keeps (fun k => w.heap.size ≤ k) w2 (w2.setCell ⟨g1, i, none⟩ y) := (Keeps.refl (fun k => w.heap.size ≤ k) w2).store (p := ⟨g1, i, none⟩) (.inl (by
      have := (own_heap HO2.out (g := g1) rfl).1
      show w.heap.size ≤ g1
      omega)) y
    exact ((K1.trans K2).trans (hk3.mono fun k _ h => by
      have h' : k = w.heap.size + 1 := h
      show w.heap.size ≤ k
      omega)).mono fun k hk h => absurd h (Nat.not_le.2 hk)
  · clear hrow hgr
    have HN : Hid (∀ j u, (nats l)[j]? = some u → (w2.alloc (.cells #[.int .i64 (x : Int)] 3)).cell? ((⟨gr, 0, none⟩ : Addr).add j) = some u) := Lib.hid (by
      intro j u hu
      obtain ⟨_, a, c, ea, _, _, hc⟩ := own_read HROW.out
      have hj : j < l.length := by
        rcases Nat.lt_or_ge j l.length with h | h
        · exact h
        · rw [List.getElem?_eq_none (by simpa [nats] using h)] at hu; cases hu
      obtain ⟨g', e1, _, hg', e2⟩ := hc j hj
      cases ea
      cases e1
      rw [add0]
      exact (World.cell?_alloc_lt w2 _ ⟨gr, j, none⟩ hg').trans (e2.trans hu))
    have HN1 : Hid (∀ u ∈ nats l, u.oneCell' = true) := Lib.hid (by intro u hu; simp [nats] at hu; obtain ⟨z, _, rfl⟩ := hu; rfl)
    have HNL : Hid ((nats l).length = l.length * 1) := Lib.hid (by simp [nats])
    have hq3 : W0.heap.size ≤ w2.heap.size := by omega
    have HQ3 := Lib.hid hq3
    clear hq3
    go_region_law ((refine step_own rfl (.tmp 14) (.tmp 19) 43 rfl W0.heap.size 3 i0 (.int .i64 0) 1 8 Try.underlying43 hi1 hz0 hz1 hz2 rfl (by decide) _ 1 [.int .i64 (x : Int)] rfl (own_new _ W0.heap.size 3 _ HQ3.out) ⟨gr, 0, none⟩ l.length cpr (nats l) rfl HNL.out HN.out HN1.out (by unfold maxLen; omega) (by omega) (by simp; omega) ?_; intro v' w3 hown' hgrow; obtain ⟨_, va, vc, rfl, _⟩ := own_read hown'; have hk3 := grown_keeps hgrow (by first | exact (Keeps.refl _ w2).alloc _ | exact ((Keeps.refl _ w2).alloc _).drew); have t0 := (hk3.cell (p := ⟨g1, i, none⟩) hg1 id).trans hcell; have t1 := (hk3.frozen (p := ⟨g1, i, none⟩) hg1 id).trans hfr; have t2 := (hk3.cell (p := ⟨w.heap.size, 0, none⟩) hq1 id).trans e0; have t3 := (hk3.cell (p := ⟨w.heap.size, 1, none⟩) hq1 id).trans e1; have t4 := (hk3.cell (p := ⟨w.heap.size + 1, 0, none⟩) hq2 id).trans m0; have t5 := (hk3.cell (p := ⟨w.heap.size + 1, 1, none⟩) hq2 id).trans m1; have t6 := (hk3.frozen (p := ⟨w.heap.size + 1, 0, none⟩) hq2 id).trans k0; have t7 := (hk3.frozen (p := ⟨w.heap.size + 1, 1, none⟩) hq2 id).trans k1; have HK3 := Lib.hid hk3; have HOWN3 := Lib.hid hown'; clear hk3 hown' hgrow))
    all_goals
      go_wp2_with fail
      obtain ⟨y, hy⟩ : ∃ y : Value, y = .slice va (1 + l.length) vc := ⟨_, rfl⟩
      rw [← hy] at HOWN3 ⊢
      clear hy
      have hb3 : Blk w3 (w.heap.size + 1) 50 [.int .i64 0, .slice none 0 0] := HK3.out.blk HB2'.out id
      have ho3 := HK3.out.own HO2.out fun _ _ => id
      have hr3 : ∀ j, j < n → ∃ rv, rvs[j]? = some rv ∧ w3.ownsRow W0.heap.size 3 1 rv (wo ls x j).length (nats (wo ls x j)) := fun j hj => by
        obtain ⟨rv, h1, h2⟩ := HRR2.out j hj
        exact ⟨rv, h1, HK3.out.own h2 fun _ _ => id⟩
      have hkF : Keeps (fun k => k = w.heap.size + 1) (w3.setCell ⟨g1, i, none⟩ y) (((w3.setCell ⟨g1, i, none⟩ y).setCell ⟨w.heap.size + 1, 0, none⟩ (.int .i64 (N : Int))).setCell ⟨w.heap.size + 1, 1, none⟩ (.slice (some ⟨g1, 0, none⟩) n cap1)) :=
        ((Keeps.refl (fun k => k = w.heap.size + 1) (w3.setCell ⟨g1, i, none⟩ y)).store (p := ⟨w.heap.size + 1, 0, none⟩) (.inl rfl) _).store (p := ⟨w.heap.size + 1, 1, none⟩) (.inl rfl) _
      have hbF := ((hb3.other (p := ⟨g1, i, none⟩) (by simpa using hne2.symm) y).store 0 (.int .i64 (N : Int))).store 1 (.slice (some ⟨g1, 0, none⟩) n cap1)
      have hy3 : w3.ownsRow W0.heap.size 3 1 y (x :: l).length (nats (x :: l)) := by
        have := HOWN3.out
        rw [Nat.add_comm] at this
        exact this
      have ks : Keeps (fun k => k = g1) w3 (w3.setCell ⟨g1, i, none⟩ y) := (Keeps.refl (fun k => k = g1) w3).store (p := ⟨g1, i, none⟩) (.inl rfl) y
      have hy4 := ks.own hy3 fun g hg e => by
        have := own_type hy3 ho3 (by decide) g1 rfl
        rw [show g = g1 from e] at hg
        exact this hg
      have hy5 := hkF.own hy4 (blk_avoids (hb3.other (p := ⟨g1, i, none⟩) (by simpa using hne2.symm) y) hy4 (by decide))
      rw [HL.out] at hy5
      have hfin := ahead_fin (N := N) hi ho3 hr3 hb3 hkF hy5
      have x0 := hbF.cell (i := 0) rfl
      have x1 := hbF.cell (i := 1) rfl
      have K1 : Keeps (fun k => w.heap.size ≤ k) w w3 := (((HK0.out.mono fun _ _ h => h.elim).trans (HK1.out.mono fun _ _ h => h.elim)).trans (HK2.out.mono fun k _ h => by
        have h' : k = w.heap.size := h
        show w.heap.size ≤ k
        omega)).trans (HK3.out.mono fun _ _ h => h.elim)
      have K2 : Keeps (fun k => w.heap.size ≤ k) w3 (w3.setCell ⟨g1, i, none⟩ y) := (Keeps.refl (fun k => w.heap.size ≤ k) w3).store (p := ⟨g1, i, none⟩) (.inl (by
        have := (own_heap HO2.out (g := g1) rfl).1
        show w.heap.size ≤ g1
        omega)) y
      have K3 := ((K1.trans K2).trans (hkF.mono fun k _ h => by
        have h' : k = w.heap.size + 1 := h
        show w.heap.size ≤ k
        omega)).mono (S' := fun _ => False) fun k hk h => absurd h (Nat.not_le.2 hk)
      first
        | exact bodyPost_ret (v := .agg #[.int .i64 (N : Int), .slice (some ⟨g1, 0, none⟩) n cap1]) (by simp [results, Try.f36, go_sem, x0, x1]) rfl ⟨_, rfl, hfin.base (by omega), K3⟩
        | exact bodyPost_ret (v := .agg #[.int .i64 (N : Int), .slice (some ⟨g1, 0, none⟩) n cap1]) (by simp [results, Try.f36, go_sem, x0, x1]) rfl ⟨_, rfl, (hfin.quiet (Keeps.refl _ _).drew).base (by omega), K3.drew⟩
end Go.Proofs.Ythnagihgjenimaa
