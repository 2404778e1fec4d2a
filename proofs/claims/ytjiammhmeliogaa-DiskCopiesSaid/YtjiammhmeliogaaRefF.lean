/- The document's disk: Write. -/
import Derived.Test.YtjiammhmeliogaaRefE
namespace Go.Proofs.Ytjiammhmeliogaa
open Go.RowKit
set_option linter.unusedVariables false
set_option linter.unusedSimpArgs false
attribute [local go_sem ↓] exec_row101 exec_load27 exec_store27 exec_new27 exec_alloc27 exec_build27 zeroValue27 exec_load43 exec_store43 empty41
attribute [local go_sem] mayRow_drew padr_some rowAt_drew hasRow_drew rowAt_alloc hasRow_alloc zc101_size run_cells27 one_obj

/-- Write. -/
def RD.write (R : RD) (i : Int) (b : List Int) : Int × RD := if (R.asked i).1 ≠ 0 then R.asked i else if (R.asked i).2.done.1 = false then (7, (R.asked i).2.done.2) else (0, { (R.asked i).2.done.2 with p := R.p ++ [(i.toNat, b)] })
theorem own_empty_at {X : World} {base n : Nat} (hn : n = X.heap.size) (hb : base ≤ n) : (X.alloc (.cells #[] 101)).ownsRow base 101 65 (.slice (some ⟨n, 0, none⟩) 0 0) 0 [] := by
  subst hn
  exact World.ownsRow_made X #[] 0 hb (by unfold maxLen; omega) (by simp)
theorem own_e1 (W : World) : (W.alloc (.cells #[] 101)).drew.ownsRow W.heap.size 101 65 (.slice (some ⟨W.heap.size, 0, none⟩) 0 0) 0 [] := (own_empty_at rfl (Nat.le_refl _)).drew
theorem own_e2 (W : World) (o : Obj) : ((W.alloc (.cells #[] 101)).alloc o).drew.ownsRow W.heap.size 101 65 (.slice (some ⟨W.heap.size, 0, none⟩) 0 0) 0 [] := ((own_empty_at rfl (Nat.le_refl _)).alloc o).drew
theorem own_e3 (W : World) (o : Obj) : ((W.alloc o).alloc (.cells #[] 101)).drew.ownsRow W.heap.size 101 65 (.slice (some ⟨W.heap.size + 1, 0, none⟩) 0 0) 0 [] := (own_empty_at (X := W.alloc o) (by simp) (Nat.le_succ _)).drew
theorem own_blk_eq {g h n c : Nat} (hg : (Value.slice (some ⟨h, 0, none⟩) n c).ownBlock = some g) : g = h := by
  injection hg with e
  exact e.symm
theorem cv_second (W : World) (cvl : List Value) : Blk ((W.alloc (.cells #[] 101)).alloc (.cells cvl.toArray 101)).drew (W.heap.size + 1) 101 cvl := by
  have := (Blk.new (W.alloc (.cells #[] 101)) 101 cvl).drew
  rwa [World.size_alloc] at this
theorem cv_first (W : World) (cvl : List Value) : Blk ((W.alloc (.cells cvl.toArray 101)).alloc (.cells #[] 101)).drew W.heap.size 101 cvl := ((Blk.new W 101 cvl).alloc _).drew
theorem blk_news {W : World} {g t : Nat} {cs : List Value} (h : Blk W g t cs) {j : Nat} {u : Value} (hu : cs[j]? = some u) : W.cell? ((⟨g, 0, none⟩ : Addr).add j) = some u := by
  rw [add0]
  exact h.cell hu
theorem new_cells (W : World) (cs : List Value) {j : Nat} {u : Value} (hu : cs[j]? = some u) : (W.alloc (.cells cs.toArray 101)).cell? ((⟨W.heap.size, 0, none⟩ : Addr).add j) = some u := blk_news (Blk.new W 101 cs) hu
theorem new_cells_drew (W : World) (cs : List Value) {j : Nat} {u : Value} (hu : cs[j]? = some u) : (W.alloc (.cells cs.toArray 101)).drew.cell? ((⟨W.heap.size, 0, none⟩ : Addr).add j) = some u := blk_news (Blk.new W 101 cs).drew hu
/-- One more write is pending. -/
theorem write_at {w : World} {sv pv pv' : Value} {R : RD} {p : List (Nat × List Int)} (h : RdAt w sv pv R) (hp : R.p = p) {i : Nat} {b : List Int} (hi : i < R.n) (hb : b.length = 64) (hn : p.length < 1000000) (ho : w.ownsRow 0 101 65 pv' (p.length + 1) (pflat p ++ wrc (i, b))) : RdAt w sv pv' { R with p := p ++ [(((i : Nat) : Int).toNat, b)] } := by
  subst hp
  refine ⟨h.safe, ?_, h.n1, h.n2, h.fl, ?_, ?_, ?_, h.o1, h.o2, h.l1, h.l2, h.f1, h.f2⟩
  · show w.ownsRow 0 101 65 pv' (R.p ++ [(i, b)]).length (pflat (R.p ++ [(i, b)]))
    rw [pflat_append, List.length_append]
    simpa [pflat] using ho
  · intro a ha
    rcases List.mem_append.1 ha with ha | ha
    · exact h.pl a ha
    · rw [List.mem_singleton.1 ha]; exact hb
  · intro a ha
    rcases List.mem_append.1 ha with ha | ha
    · exact h.pa a ha
    · rw [List.mem_singleton.1 ha]; exact hi
  · show (R.p ++ [(i, b)]).length ≤ 1000000
    simp
    omega
theorem start43w (w : World) (A bs : List Value) {W0 : World} (h : W0 = ((w.alloc (.cells A.toArray 43)).alloc (.cells bs.toArray 27)).alloc (.cells z43.toArray 43)) :
    Blk W0 w.heap.size 43 A ∧ Blk W0 (w.heap.size + 1) 27 bs ∧ Blk W0 (w.heap.size + 1 + 1) 43 z43 ∧ Keeps (fun _ => False) w W0 ∧ W0.heap.size = w.heap.size + 3 := by
  subst h
  have h2 := Blk.new (w.alloc (.cells A.toArray 43)) 27 bs
  rw [World.size_alloc] at h2
  have h3 := Blk.new ((w.alloc (.cells A.toArray 43)).alloc (.cells bs.toArray 27)) 43 z43
  rw [World.size_alloc, World.size_alloc] at h3
  exact ⟨((Blk.new w 43 A).alloc _).alloc _, h2.alloc _, h3, (((Keeps.refl _ w).alloc _).alloc _).alloc _, by simp⟩

set_option maxRecDepth 100000 in
set_option maxHeartbeats 4000000 in
theorem rwrite_any (sv pv : Value) (R : RD) (w : World) (h : RdAt w sv pv R) (hop : R.ops < 1000000000000) (hpn : R.p.length < 1000000) (i : Int) (b : List Int) (hb : b.length = 64) : Calls Try.prog 52 #[rv sv pv R, .int .i64 i, .agg (bk b).toArray] w (RStep sv pv (R.write i b).2 (R.write i b).1 w) := by
  obtain ⟨sa, sc, rfl, _, hmx⟩ := own_slice h.safe
  obtain ⟨qa, qc, rfl, _, hqm⟩ := own_slice h.pend
  have HC := Lib.hid (asked_cases R i)
  have HS := Lib.hid (asked_same R i)
  have HBL := Lib.hid hb
  obtain ⟨bs, hbs⟩ : ∃ bs, bs = bk b := ⟨_, rfl⟩
  have hbl : bs.length = 64 := by rw [hbs, bk_len, hb]
  obtain ⟨W0, hW0⟩ : ∃ W0, W0 = ((w.alloc (.cells (([.slice sa R.n sc, .slice qa R.p.length qc, .bool R.dead, .int .i64 R.left, .int .i64 R.fails, .int .i64 R.ops] : List Value)).toArray 43)).alloc (.cells bs.toArray 27)).alloc (.cells z43.toArray 43) := ⟨_, rfl⟩
  obtain ⟨bA, bY, bZ, k0, s0⟩ := start43w w _ bs hW0
  rw [← hbs]
  have HBS := Lib.hid hbs
  have HAT := Lib.hid (asked_at h i)
  have HLT : Hid ((∀ g, (Value.slice sa R.n sc).ownBlock = some g → g < w.heap.size) ∧ ∀ g, (Value.slice qa R.p.length qc).ownBlock = some g → g < w.heap.size) := Lib.hid ⟨fun g hg => (own_heap h.safe hg).2.1, fun g hg => (own_heap h.pend hg).2.1⟩
  have HASK := Lib.hid (asked_any _ _ R W0 (h.quiet k0) i)
  obtain ⟨c, hc⟩ : ∃ c, c = (R.asked i).1 := ⟨_, rfl⟩
  obtain ⟨R1, hR1⟩ : ∃ R1, R1 = (R.asked i).2 := ⟨_, rfl⟩
  rw [← hc, ← hR1] at HASK
  rw [← hc] at HC
  rw [← hR1] at HS HAT
  have HE : Hid (R.write i b = if c ≠ 0 then (c, R1) else if R1.done.1 = false then (7, R1.done.2) else (0, { R1.done.2 with p := R.p ++ [(i.toNat, b)] })) := Lib.hid (by
    unfold RD.write
    rw [hc, hR1])
  obtain ⟨ah, ar, am⟩ := blk_row bA (n := 6) rfl
  have HA := Lib.hid bA
  have HZ := Lib.hid bZ
  have HY := Lib.hid bY
  have HK0 := Lib.hid k0
  have hs1 : w.heap.size < W0.heap.size := by omega
  have hs0 : w.heap.size + 1 < W0.heap.size := by omega
  have HW0 : Hid (W0 = ((w.alloc (.cells #[.slice sa R.n sc, .slice qa R.p.length qc, .bool R.dead, .int .i64 R.left, .int .i64 R.fails, .int .i64 R.ops] 43)).alloc (.cells bs.toArray 27)).alloc (.cells #[.slice none 0 0, .slice none 0 0, .bool false, .int .i64 0, .int .i64 0, .int .i64 0] 43)) := Lib.hid hW0
  have HQ := Lib.hid (show (rv (.slice sa R.n sc) (.slice qa R.p.length qc) R1) = .agg #[.slice sa R.n sc, .slice qa R.p.length qc, .bool R1.dead, .int .i64 R1.left, .int .i64 R1.fails, .int .i64 R1.ops] from rfl)
  clear h bA bZ bY k0 s0 hW0 hc hR1 hb hbs
  unfold rv at HASK
  unfold rv
  go_enter Try.func52, Try.ntmps52
  go_upto_region 1 with (fail)
  rw [← HW0.out]
  go_wp2_with fail
  refine HASK.out.mono ?_
  rintro e w1 ⟨rfl, hk1⟩
  rw [HQ.out]
  have bA := hk1.blk HA.out id
  have bZ := hk1.blk HZ.out id
  have bY := hk1.blk HY.out id
  clear ah ar am
  obtain ⟨ah, ar, am⟩ := blk_row bA (n := 6) rfl
  have HK1 := Lib.hid hk1
  have HZ1 := Lib.hid bZ
  have HA1 := Lib.hid bA
  have HY1 := Lib.hid bY
  clear hk1 bA bZ bY
  go_upto_region 2 with (fail)
  obtain ⟨W2, hW2⟩ : ∃ W2, W2 = w1.setCells w.heap.size 0 [.slice sa R.n sc, .slice qa R.p.length qc, .bool R1.dead, .int .i64 R1.left, .int .i64 R1.fails, .int .i64 R1.ops] := ⟨_, rfl⟩
  have hk2 : Keeps (fun k => k = w.heap.size) w1 W2 := by rw [hW2]; exact setCells_keeps _ _ _ _
  have bA : Blk W2 w.heap.size 43 [.slice sa R.n sc, .slice qa R.p.length qc, .bool R1.dead, .int .i64 R1.left, .int .i64 R1.fails, .int .i64 R1.ops] := by rw [hW2]; exact blk_overT HA1.out rfl
  have bZ := hk2.blk HZ1.out (by omega)
  have bY := hk2.blk HY1.out (by omega)
  rw [← hW2]
  clear hW2 ah ar am HA1 HZ1 HY1
  obtain ⟨ah, ar, am⟩ := blk_row bA (n := 6) rfl
  obtain ⟨zh, zr, zm⟩ := blk_row bZ (n := 6) rfl
  have HA2 := Lib.hid bA
  have HZ2 := Lib.hid bZ
  have HY2 := Lib.hid bY
  have HK2 : Hid (Keeps (fun k => w.heap.size ≤ k) w W2) := Lib.hid (((HK0.out.trans HK1.out).mono fun _ _ h => h.elim).trans (hk2.mono fun k _ e => by rw [show k = w.heap.size from e]; exact Nat.le_refl _))
  clear bA bZ bY hk2
  by_cases hc : c = 0
  · subst hc
    have hin := HC.out.resolve_left (by simp)
    have hR1 := HAT.out.low HK2.out (fun _ h => h) HLT.out.1 HLT.out.2
    have hops' : R1.ops < 1000000000000 := by rw [HS.out.2.2.2.2.2]; exact hop
    have HDN := Lib.hid (rdone_any _ _ R1 W2 hR1 hops')
    have HDA := Lib.hid (done_at HAT.out hops')
    have HDS := Lib.hid (done_same R1)
    obtain ⟨d, hd⟩ : ∃ d, d = R1.done.1 := ⟨_, rfl⟩
    obtain ⟨R2, hR2⟩ : ∃ R2, R2 = R1.done.2 := ⟨_, rfl⟩
    rw [← hd, ← hR2] at HDN HE
    rw [← hR2] at HDA HDS
    have HQ2 := Lib.hid (show (rv (.slice sa R.n sc) (.slice qa R.p.length qc) R2) = .agg #[.slice sa R.n sc, .slice qa R.p.length qc, .bool R2.dead, .int .i64 R2.left, .int .i64 R2.fails, .int .i64 R2.ops] from rfl)
    have HN2 : Hid (R2.n = R.n ∧ R2.p = R.p) := Lib.hid ⟨by rw [HDS.out.1, HS.out.1], by rw [HDS.out.2.2, HS.out.2.2.1]⟩
    have HIN := Lib.hid hin
    clear hR1 hd hR2 hin
    unfold rv at HDN
    go_wp2_with fail
    refine HDN.out.mono ?_
    rintro e w3 ⟨rfl, hk3⟩
    rw [HQ2.out]
    have bA := hk3.blk HA2.out id
    have bZ := hk3.blk HZ2.out id
    have bY := hk3.blk HY2.out id
    have hs3 := hk3.size
    have hb2 := HA2.out.lt
    have hz2 := HZ2.out.lt
    have HK3 := Lib.hid hk3
    have HA1 := Lib.hid bA
    have HZ1 := Lib.hid bZ
    have HY1 := Lib.hid bY
    clear ah ar am zh zr zm
    obtain ⟨ah, ar, am⟩ := blk_row bA (n := 6) rfl
    clear hk3 bA bZ bY
    go_upto_region 5 with (fail)
    obtain ⟨W4, hW4⟩ : ∃ W4, W4 = w3.setCells w.heap.size 0 [.slice sa R.n sc, .slice qa R.p.length qc, .bool R2.dead, .int .i64 R2.left, .int .i64 R2.fails, .int .i64 R2.ops] := ⟨_, rfl⟩
    have hk2 : Keeps (fun k => k = w.heap.size) w3 W4 := by rw [hW4]; exact setCells_keeps _ _ _ _
    have bA : Blk W4 w.heap.size 43 [.slice sa R.n sc, .slice qa R.p.length qc, .bool R2.dead, .int .i64 R2.left, .int .i64 R2.fails, .int .i64 R2.ops] := by rw [hW4]; exact blk_overT HA1.out rfl
    have bZ := hk2.blk HZ1.out (by omega)
    have bY := hk2.blk HY1.out (by omega)
    rw [← hW4]
    clear hW4 ah ar am HA1 HZ1 HY1
    obtain ⟨ah, ar, am⟩ := blk_row bA (n := 6) rfl
    obtain ⟨zh, zr, zm⟩ := blk_row bZ (n := 6) rfl
    have HA4 := Lib.hid bA
    have HZ4 := Lib.hid bZ
    have HY4 := Lib.hid bY
    have hz4 := bZ.lt
    have hb4 := bA.lt
    have HK4 : Hid (Keeps (fun k => w.heap.size ≤ k) w W4) := Lib.hid ((HK2.out.trans (HK3.out.mono fun _ _ h => h.elim)).trans (hk2.mono fun k _ e => by rw [show k = w.heap.size from e]; exact Nat.le_refl _))
    clear bA bZ bY hk2
    have HR2 := Lib.hid (HDA.out.low HK4.out (fun _ h => h) HLT.out.1 HLT.out.2)
    cases d
    · go_wp2_with fail
      obtain ⟨b1, b3⟩ := one_laid (w := w) (X := W4) (zs := [.slice sa R.n sc, .slice qa R.p.length qc, .bool R2.dead, .int .i64 R2.left, .int .i64 R2.fails, .int .i64 R2.ops]) HZ4.out rfl HK4.out (by omega)
      refine bodyPost_ret (v := .tuple #[.agg #[.slice sa R.n sc, .slice qa R.p.length qc, .bool R2.dead, .int .i64 R2.left, .int .i64 R2.fails, .int .i64 R2.ops], .int .i64 7]) (result43_38 rfl rfl rfl rfl b1) rfl ?_
      rw [HE.out, if_neg (by simp), if_pos trivial]
      refine ⟨_, _, rfl, ?_, Old.refl _ _, Old.refl _ _, b3⟩
      exact HDA.out.low b3 (fun _ h => h.elim) HLT.out.1 HLT.out.2
    · have q1 := HA4.out.cell (i := 1) rfl
      have q1f := HA4.out.free 1
      obtain ⟨yh, yr, ym⟩ := blk_row HY4.out (n := 64) hbl
      go_wp2_with fail
      obtain ⟨i, rfl⟩ := Int.eq_ofNat_of_zero_le HIN.out.2.1
      have hpe := HR2.out.pend
      have hpl2 : R2.p.length = R.p.length := by rw [HN2.out.2]
      have hy4 := HY4.out.lt
      obtain ⟨it, z, i1, i2, i3, i4, i5⟩ := info101
      have hzs : z.cells.size = 65 := by rw [i3]; simp [z106]
      obtain ⟨cvl, hcvl⟩ : ∃ cvl, cvl = wrc (i, b) := ⟨_, rfl⟩
      have hcvs : cvl.length = 65 := by rw [hcvl]; exact wrc_len HBL.out
      have hwc := fold101 (.int .i64 (i : Int)) bs hbl
      rw [show (Value.int IntKind.i64 (i : Int) :: bs) = cvl from by rw [hcvl, HBS.out]; rfl] at hwc
      have HCL : Hid (cvl.length = 1 * 65) := Lib.hid (by rw [hcvs])
      have HCO : Hid (∀ u ∈ cvl, u.oneCell' = true) := Lib.hid (by rw [hcvl]; exact wrc_one)
      have HCVL := Lib.hid hcvl
      rcases HR2.out.pend.2 with ⟨hnil, h0⟩ | ⟨g2, cap, cur, hnil, _, hg2, _⟩
      · injection hnil with hq1 hq2 hq3
        subst hq1
        subst hq3
        have hp0 : R.p = [] := List.eq_nil_of_length_eq_zero hq2
        have HP0 := Lib.hid hp0
        have HLT2 := Lib.hid HLT.out.2
        rw [hq2] at HLT2
        have hq1w := q1
        rw [hq2] at q1
        have HDA2 := Lib.hid HDA.out
        rw [hq2] at HDA2
        rw [hq2]
        rw [hq2] at HA4
        clear hcvl hpe hpl2 h0 i3 hp0 hq1w
        go_region_law ((refine step_own rfl (.tmp 31) (.tmp 35) 41 rfl W4.heap.size 101 it z 65 72 Try.underlying41 i1 i2 i4 i5 hzs (by decide) _ 0 [] rfl ?_ _ 1 1 cvl rfl HCL.out ?_ HCO.out (by unfold maxLen; omega) (by omega) ?_ ?_; (first | exact own_e2 _ _ | exact own_e3 _ _); (first | exact fun j u hu => blk_news (cv_second W4 cvl) hu | exact fun j u hu => blk_news (cv_first W4 cvl) hu); (first | omega | (simp <;> omega)); intro v6 w6 hown hgrow hat; (try simp only [Nat.zero_add, List.nil_append] at hown); obtain ⟨vb, vd, rfl, _⟩ := own_slice hown; have hk6 : Keeps (fun _ => False) W4 w6 := (own_grow (by (repeat (first | exact Keeps.refl _ _ | refine Keeps.alloc ?_ _ | refine Keeps.drew ?_))) hgrow (fun g hg => by have := own_blk_eq hg; omega)); have hsz6 := hk6.size; have u1 := (hk6.blk HA4.out id).cell (i := 1) rfl; have u1f := (hk6.blk HA4.out id).free 1; have HO6 := Lib.hid hown; have HK6 := Lib.hid hk6; clear hown hgrow hat hk6))
        all_goals
          obtain ⟨W7, hW7⟩ : ∃ W7, W7 = w6.setCell ⟨w.heap.size, 1, none⟩ (.slice vb 1 vd) := ⟨_, rfl⟩
          rw [← hW7]
          have hk7 : Keeps (fun k => k = w.heap.size) w6 W7 := by rw [hW7]; exact (Keeps.refl _ _).at _ _
          have bA : Blk W7 w.heap.size 43 [.slice sa R.n sc, .slice vb 1 vd, .bool R2.dead, .int .i64 R2.left, .int .i64 R2.fails, .int .i64 R2.ops] := by rw [hW7]; exact (HK6.out.blk HA4.out id).store 1 _
          have bZ := hk7.blk (HK6.out.blk HZ4.out id) (by omega)
          clear hW7 ah ar am zh zr zm yh yr ym u1 u1f
          obtain ⟨ah, ar, am⟩ := blk_row bA (n := 6) rfl
          obtain ⟨zh, zr, zm⟩ := blk_row bZ (n := 6) rfl
          have HZ7 := Lib.hid bZ
          have HK7 := Lib.hid hk7
          clear bA bZ hk7
          go_wp2_with fail
          have hK : Keeps (fun k => w.heap.size ≤ k) w W7 := (HK4.out.trans (HK6.out.mono fun _ _ h => h.elim)).trans (HK7.out.mono fun k _ e => by rw [show k = w.heap.size from e]; exact Nat.le_refl _)
          obtain ⟨b1, b3⟩ := one_laid (w := w) (X := W7) (zs := [.slice sa R.n sc, .slice vb 1 vd, .bool R2.dead, .int .i64 R2.left, .int .i64 R2.fails, .int .i64 R2.ops]) HZ7.out rfl hK (by omega)
          refine bodyPost_ret (v := .tuple #[.agg #[.slice sa R.n sc, .slice vb 1 vd, .bool R2.dead, .int .i64 R2.left, .int .i64 R2.fails, .int .i64 R2.ops], .int .i64 0]) (result43_38 rfl rfl rfl rfl b1) rfl ?_
          rw [HE.out, if_neg (by simp), if_neg (by simp), HP0.out]
          have hfin := write_at (HDA2.out.low b3 (fun _ h => h.elim) HLT.out.1 HLT2.out) (by rw [HN2.out.2, HP0.out]) (p := []) (i := i) (b := b) (by rw [HN2.out.1]; have := HIN.out.2.2; omega) HBL.out (by simp) (pv' := .slice vb 1 vd) (by
            have h1 := HO6.out
            rw [HCVL.out] at h1
            have h2 := (HK7.out.own h1 fun g hg e => ?_)
            · exact own_base ((setCells_keeps (w.heap.size + 1 + 1) _ 0 W7).own h2 fun g hg e => by have := (own_heap h1 hg).1; have e' : g = w.heap.size + 1 + 1 := e; omega) (Nat.zero_le _)
            · have := (own_heap h1 hg).1
              have e' : g = w.heap.size := e
              omega)
          exact ⟨_, _, rfl, hfin, Old.refl _ _, fun g hg => .inr (by have := (own_heap HO6.out hg).1; have := HK4.out.size; omega), b3⟩
      · injection hnil with hq1 hq2 hq3
        subst hq1
        have HPX : Hid (∀ X, Keeps (fun _ => False) W4 X → X.ownsRow 0 101 65 (.slice (some ⟨g2, 0, none⟩) R.p.length qc) R.p.length (pflat R.p)) := Lib.hid fun X hX => by
          have := hX.own HR2.out.pend fun _ _ => id
          rwa [HN2.out.2] at this
        have HPL : Hid ((pflat R.p).length = R.p.length * 65) := Lib.hid (HPX.out W4 (Keeps.refl _ _)).1
        have HPO : Hid (∀ u ∈ pflat R.p, u.oneCell' = true) := Lib.hid pflat_one
        clear hcvl hpe hpl2 hg2 hq2 hq3 i3
        go_region_law (first
          | (refine step_own rfl (.tmp 28) (.tmp 30) 41 rfl W4.heap.size 101 it z 65 72 Try.underlying41 i1 i2 i4 i5 hzs (by decide) _ 0 [] rfl ?_ ⟨g2, 0, none⟩ R.p.length qc (pflat R.p) rfl HPL.out ?_ HPO.out (by unfold maxLen; omega) (by omega) ?_ ?_; (first | exact own_e1 _ | exact own_e2 _ _ | exact own_e3 _ _); (exact fun j u hu => (HPX.out _ (by (repeat (first | exact Keeps.refl _ _ | refine Keeps.alloc ?_ _ | refine Keeps.drew ?_)))).cells rfl j u hu); (first | omega | (simp <;> omega)); intro v5 w5 hown hgrow hat; (try simp only [Nat.zero_add, List.nil_append] at hown); obtain ⟨va, vc, rfl, _⟩ := own_slice hown; have hk5 : Keeps (fun _ => False) W4 w5 := (own_grow (by (repeat (first | exact Keeps.refl _ _ | refine Keeps.alloc ?_ _ | refine Keeps.drew ?_))) hgrow (fun g hg => by have := own_blk_eq hg; omega)); have hsz5 := hk5.size; have r1 := (hk5.blk HA4.out id).cell (i := 1) rfl; have r1f := (hk5.blk HA4.out id).free 1; obtain ⟨yh5, yr5, _⟩ := blk_row (hk5.blk HY4.out id) (n := 64) hbl; have HO5 := Lib.hid hown; have HK5 := Lib.hid hk5; (first | (have HCV : Hid (Blk w5 (W4.heap.size + 1) 101 cvl) := Lib.hid ((Keeps.of_grown hgrow).blk (cv_second W4 cvl) (by intro e; have := own_blk_eq e; omega))) | (have HCV : Hid (Blk w5 W4.heap.size 101 cvl) := Lib.hid ((Keeps.of_grown hgrow).blk (cv_first W4 cvl) (by intro e; have := own_blk_eq e; omega))) | skip); clear hown hgrow hat hk5)
          | (refine step_own rfl (.tmp 31) (.tmp 35) 41 rfl W4.heap.size 101 it z 65 72 Try.underlying41 i1 i2 i4 i5 hzs (by decide) _ R.p.length (pflat R.p) rfl ?_ _ 1 1 cvl rfl HCL.out ?_ HCO.out (by unfold maxLen; omega) (by omega) ?_ ?_; (first | exact HO5.out | exact HO5.out.alloc _ | exact HO5.out.drew | exact (HO5.out.alloc _).drew); (first | exact fun j u hu => new_cells _ _ hu | exact fun j u hu => new_cells_drew _ _ hu | exact fun j u hu => blk_news HCV.out hu); (first | omega | (simp <;> omega)); intro v6 w6 hown hgrow hat; obtain ⟨vb, vd, rfl, _⟩ := own_slice hown; have hk6 : Keeps (fun _ => False) W4 w6 := (own_grow (HK5.out.trans (by (repeat (first | exact Keeps.refl _ _ | refine Keeps.alloc ?_ _ | refine Keeps.drew ?_)))) hgrow (fun g hg => (own_heap HO5.out hg).1)); have hsz6 := hk6.size; have u1 := (hk6.blk HA4.out id).cell (i := 1) rfl; have u1f := (hk6.blk HA4.out id).free 1; have HO6 := Lib.hid hown; have HK6 := Lib.hid hk6; clear hown hgrow hat hk6))
        all_goals
          obtain ⟨W7, hW7⟩ : ∃ W7, W7 = w6.setCell ⟨w.heap.size, 1, none⟩ (.slice vb (R.p.length + 1) vd) := ⟨_, rfl⟩
          rw [← hW7]
          have hk7 : Keeps (fun k => k = w.heap.size) w6 W7 := by rw [hW7]; exact (Keeps.refl _ _).at _ _
          have bA : Blk W7 w.heap.size 43 [.slice sa R.n sc, .slice vb (R.p.length + 1) vd, .bool R2.dead, .int .i64 R2.left, .int .i64 R2.fails, .int .i64 R2.ops] := by rw [hW7]; exact (HK6.out.blk HA4.out id).store 1 _
          have bZ := hk7.blk (HK6.out.blk HZ4.out id) (by omega)
          clear hW7 ah ar am zh zr zm yh yr ym u1 u1f
          obtain ⟨ah, ar, am⟩ := blk_row bA (n := 6) rfl
          obtain ⟨zh, zr, zm⟩ := blk_row bZ (n := 6) rfl
          have HZ7 := Lib.hid bZ
          have HK7 := Lib.hid hk7
          clear bA bZ hk7
          go_wp2_with fail
          have hK : Keeps (fun k => w.heap.size ≤ k) w W7 := (HK4.out.trans (HK6.out.mono fun _ _ h => h.elim)).trans (HK7.out.mono fun k _ e => by rw [show k = w.heap.size from e]; exact Nat.le_refl _)
          obtain ⟨b1, b3⟩ := one_laid (w := w) (X := W7) (zs := [.slice sa R.n sc, .slice vb (R.p.length + 1) vd, .bool R2.dead, .int .i64 R2.left, .int .i64 R2.fails, .int .i64 R2.ops]) HZ7.out rfl hK (by omega)
          refine bodyPost_ret (v := .tuple #[.agg #[.slice sa R.n sc, .slice vb (R.p.length + 1) vd, .bool R2.dead, .int .i64 R2.left, .int .i64 R2.fails, .int .i64 R2.ops], .int .i64 0]) (result43_38 rfl rfl rfl rfl b1) rfl ?_
          rw [HE.out, if_neg (by simp), if_neg (by simp)]
          have hfin := write_at (HDA.out.low b3 (fun _ h => h.elim) HLT.out.1 HLT.out.2) HN2.out.2 (i := i) (b := b) (by rw [HN2.out.1]; have := HIN.out.2.2; omega) HBL.out (by omega) (pv' := .slice vb (R.p.length + 1) vd) (by
            have h1 := HO6.out
            rw [HCVL.out] at h1
            have h2 := (HK7.out.own h1 fun g hg e => ?_)
            · exact own_base ((setCells_keeps (w.heap.size + 1 + 1) _ 0 W7).own h2 fun g hg e => by have := (own_heap h1 hg).1; have e' : g = w.heap.size + 1 + 1 := e; omega) (Nat.zero_le _)
            · have := (own_heap h1 hg).1
              have e' : g = w.heap.size := e
              omega)
          exact ⟨_, _, rfl, hfin, Old.refl _ _, fun g hg => .inr (by have := (own_heap HO6.out hg).1; have := HK4.out.size; omega), b3⟩
  · have hcc : (c != 0) = true := by rw [bne_iff_ne]; exact hc
    have HN := Lib.hid hc
    clear hc
    go_wp2_with fail
    obtain ⟨b1, b3⟩ := one_laid (w := w) (X := W2) (zs := [.slice sa R.n sc, .slice qa R.p.length qc, .bool R1.dead, .int .i64 R1.left, .int .i64 R1.fails, .int .i64 R1.ops]) HZ2.out rfl HK2.out (by omega)
    refine bodyPost_ret (v := .tuple #[.agg #[.slice sa R.n sc, .slice qa R.p.length qc, .bool R1.dead, .int .i64 R1.left, .int .i64 R1.fails, .int .i64 R1.ops], .int .i64 c]) (result43_38 rfl rfl rfl rfl b1) rfl ?_
    rw [HE.out, if_pos HN.out]
    exact ⟨_, _, rfl, HAT.out.low b3 (fun _ h => h.elim) HLT.out.1 HLT.out.2, Old.refl _ _, Old.refl _ _, b3⟩
end Go.Proofs.Ytjiammhmeliogaa
