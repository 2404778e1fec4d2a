/- Merged of: RTold RDo1 OpRo RDo2. -/
import Derived.Test.YthnagihgjenimaaDoorRAllR
import Derived.Test.YthnagihgjenimaaDoorOpIt
/- icehouselaw13: told. -/
namespace Go.Proofs.YthnagihgjenimaaDoor
open Go.RowKit Go.Shelf
set_option linter.unusedVariables false
set_option linter.unusedSimpArgs false
attribute [local go_sem] Oper.semAt_some
/-- What has come, in a variable. -/
structure CameI (w1 : World) (B : Nat) (Bs : Nat) (vr : Value) (zs pre : List HM) (W : World) : Prop where
  row : ∃ v, Blk W B 58 [v] ∧ W.ownsRow w1.heap.size 64 6 v pre.length (itemCells pre)
  rd : ∀ h ∈ pre, Reads W h.it h.kv h.vv
  box : Blk W Bs 58 [vr]
  rr : W.ownsRow 0 64 6 vr zs.length (itemCells zs)
  rz : ∀ h ∈ zs, Reads W h.it h.kv h.vv
  ok : ∀ h ∈ zs, h.it.key.length ≤ 1000000 ∧ h.it.val.length ≤ 1000000
  keeps : Keeps (fun k => k = B) w1 W
theorem CameI.keep {w1 : World} {B : Nat} {Bs : Nat} {vr : Value} {zs pre : List HM} {W W' : World} {S : Nat → Prop} (h : CameI w1 B Bs vr zs pre W) (hk : Keeps S W W') (hc : ∀ k, S k → ∀ cs t, W.heap[k]? ≠ some (.cells cs t (0, 0))) (hw : ∀ k, S k → w1.heap.size ≤ k) : CameI w1 B Bs vr zs pre W' := by
  have hb : ∀ {base e size n : Nat} {u : Value} {xs : List Value}, W.ownsRow base e size u n xs → ∀ g, u.ownBlock = some g → ¬ S g := fun ho g hg hS => by
    obtain ⟨_, _, cur, he⟩ := own_heap ho hg
    exact hc g hS _ _ he
  obtain ⟨v, h1, h2⟩ := h.row
  refine ⟨⟨v, hk.blk h1 fun hS => hc _ hS _ _ h1, hk.own' h2 (hb h2)⟩, fun x hx => (h.rd x hx).keep hk (hb (h.rd x hx).k) (hb (h.rd x hx).v), hk.blk h.box fun hS => hc _ hS _ _ h.box, hk.own' h.rr (hb h.rr), fun x hx => (h.rz x hx).keep hk (hb (h.rz x hx).k) (hb (h.rz x hx).v), h.ok, ?_⟩
  exact ((h.keeps.mono (S' := fun k => k = B ∨ S k) fun _ _ e => .inl e).trans (hk.mono fun _ _ e => .inr e)).mono fun k hk' e => e.elim id fun e => absurd (hw k e) (Nat.not_le.2 hk')
theorem CameI.items {w1 : World} {B : Nat} {Bs : Nat} {a : Option Addr} {m c : Nat} {zs pre : List HM} {W : World} (h : CameI w1 B Bs (.slice a m c) zs pre W) : ItemBox Bs a c zs W := by
  have hc := h.box.cell (i := 0) rfl
  have hm : m = zs.length := by
    rcases h.rr.2 with ⟨h1, h0⟩ | ⟨g, cap, cur, h1, _⟩
    · injection h1 with _ h1
      omega
    · injection h1
  subst hm
  refine ⟨hc, fun j y hy => ⟨h.rz y (List.mem_of_getElem? hy), (h.ok y (List.mem_of_getElem? hy)).1, (h.ok y (List.mem_of_getElem? hy)).2, ?_⟩⟩
  have hj := (List.getElem?_eq_some_iff.1 hy).1
  rcases h.rr.2 with ⟨h1, h0⟩ | ⟨g, cap, cur, h1, _⟩
  · omega
  · injection h1 with h1 h2 h3
    subst h1
    refine ⟨g, rfl, fun i u hu => ?_⟩
    have h0 := h.rr.cells (g := g) rfl _ u (itemCells_at hy hu)
    rwa [add0] at h0
/-- One more has come. -/
theorem CameI.push {w1 : World} {B : Nat} {Bs : Nat} {vr v v' : Value} {zs pre : List HM} {W w2 w4 : World} {x : HM} (h : CameI w1 B Bs vr zs pre W) (hB : B < w1.heap.size) (hBs : Bs ≠ B) (hrb : ∀ g, vr.ownBlock = some g → g < w1.heap.size) (hv : Blk W B 58 [v]) (ho : W.ownsRow w1.heap.size 64 6 v pre.length (itemCells pre)) (hr : Reads W x.it x.kv x.vv) (hk : Keeps (fun _ => False) W w2)
    (hown : w4.ownsRow w1.heap.size 64 6 v' (pre.length + 1) (itemCells pre ++ x.it.cells x.kv x.vv)) (hg : w2.grownBy w4 v.ownBlock) :
    CameI w1 B Bs vr zs (pre ++ [x]) (w4.setCell ⟨B, 0, none⟩ v') ∧ Keeps (fun k => k = B ∨ v.ownBlock = some k) W (w4.setCell ⟨B, 0, none⟩ v') ∧ w4.cell? ⟨B, 0, none⟩ = some v ∧ w4.frozen? ⟨B, 0, none⟩ = false := by
  have hg' : Keeps (fun k => v.ownBlock = some k) w2 w4 := Keeps.of_grown hg
  have hrow := hk.own' ho (fun _ _ => id)
  have hbox := hk.blk hv id
  have hb4 := hg'.blk hbox (own_ne_blk hbox hrow (by decide))
  have hst : Keeps (fun k => k = B) w4 (w4.setCell ⟨B, 0, none⟩ v') := (Keeps.refl (fun k => k = B) w4).store (p := ⟨B, 0, none⟩) (.inl rfl) _
  have hall : Keeps (fun k => k = B ∨ v.ownBlock = some k) W (w4.setCell ⟨B, 0, none⟩ v') := ((hk.mono fun _ _ h => h.elim).trans (hg'.mono fun _ _ e => .inr e)).trans (hst.mono fun _ _ e => .inl e)
  have hrd : ∀ {j : IT} {a b : Value}, Reads W j a b → Reads (w4.setCell ⟨B, 0, none⟩ v') j a b := fun {j a b} hj => hj.keep hall
    (fun g hg e => e.elim (fun e => own_ne_blk hv hj.k (by decide) (e ▸ hg)) (fun e => own_ne_own hj.k ho (by decide) g hg e))
    (fun g hg e => e.elim (fun e => own_ne_blk hv hj.v (by decide) (e ▸ hg)) (fun e => own_ne_own hj.v ho (by decide) g hg e))
  refine ⟨⟨⟨v', hb4.store 0 v', ?_⟩, fun y hy => ?_, ?_, ?_, fun y hy => hrd (h.rz y hy), h.ok, ?_⟩, hall, hb4.cell (i := 0) rfl, hb4.free 0⟩
  · have h5 := hst.own' hown fun g hg e => own_ne_blk hb4 hown (by decide) ((show g = B from e) ▸ hg)
    rw [itemCells_snoc, List.length_append]
    exact h5
  · rcases List.mem_append.1 hy with hy | hy
    · exact hrd (h.rd y hy)
    · obtain rfl := List.mem_singleton.1 hy
      exact hrd hr
  · exact hall.blk h.box fun e => e.elim hBs fun e => own_ne_blk h.box ho (by decide) e
  · refine hall.own' h.rr fun g hg e => e.elim (fun e => own_ne_blk hv h.rr (by decide) (e ▸ hg)) fun e => ?_
    have h1 := (own_heap ho e).1
    have h2 := hrb g hg
    omega
  · refine ((h.keeps.mono (S' := fun k => k = B ∨ w1.heap.size ≤ k) fun _ _ e => .inl e).trans (hall.mono fun k _ e => e.imp id fun e => (own_heap ho e).1)).mono fun k hk' e => e.elim id fun e => by omega
theorem other_blk {W W' : World} {B : Nat} {v : Value} {base n : Nat} {xs : List Value} (hv : Blk W B 58 [v]) (ho : W.ownsRow base 64 6 v n xs) (hk : Keeps (fun k => k = B ∨ v.ownBlock = some k) W W') {D : Nat} {o : Obj} (hD : W.heap[D]? = some o) (hn : ∀ cs t, o ≠ .cells cs t (0, 0)) : W'.heap[D]? = W.heap[D]? := by
  refine hk.block D (Array.getElem?_eq_some_iff.1 hD).1 fun e => ?_
  rcases e with e | e
  · have h1 : W.heap[B]? = _ := hv
    rw [← e, hD] at h1
    injection h1 with h1
    exact hn _ _ h1
  · obtain ⟨_, _, cur, h1⟩ := own_heap ho e
    rw [hD] at h1
    injection h1 with h1
    exact hn _ _ h1
theorem Reads.loop {W W' : World} {i : IT} {kv vv : Value} {r : Nat} {R : Loop} (h : Reads W i kv vv) (hl : W.heap[r]? = some (.loop R)) (hk : Keeps (fun k => k = r) W W') : Reads W' i kv vv := by
  have hb : ∀ {base e size n : Nat} {u : Value} {xs : List Value}, W.ownsRow base e size u n xs → ∀ g, u.ownBlock = some g → ¬ (g = r) := fun ho g hg e => by
    obtain ⟨_, _, cur, he⟩ := own_heap ho hg
    rw [e, hl] at he
    injection he with he
    cases he
  exact h.keep hk (hb h.k) (hb h.v)
theorem sumC_take {l : List HM} {t : Nat} {y : HM} (hy : l[t]? = some y) : sumC (l.take (t + 1)) = sumC (l.take t) + y.it.chg := by
  rw [List.take_add_one, hy]
  simp [sumC]
set_option maxRecDepth 100000 in
set_option maxHeartbeats 4000000 in
theorem told_any (L : RL) (D : AD) (hs l : List HM) (ao : Option Addr) (an ac : Nat) (v : Value) (w : World) (h : RAt w L D hs) (hd : HdAt w v l) (e1 : itsOf (ordC hs 8) = itsOf (ordC l 8)) (e2 : hs.length = (ordC l 8).length) (e3 : sumC hs = sumC (ordC l 8)) : Calls Tryd.prog 52 #[L.ptr, .agg #[.slice ao an ac, v]] w (BoolP true w) := by
  have HH := Lib.hid h
  have HD := Lib.hid hd
  have HE1 := Lib.hid e1
  have HE2 := Lib.hid e2
  have HE3 := Lib.hid e3
  refine (callsIn_wide (n := 3)).1 ?_
  have h1 : 1 ≤ 3 := by omega
  obtain ⟨va, vc, rfl⟩ := hd.form
  obtain ⟨q, hq⟩ : ∃ q, q = l.length := ⟨_, rfl⟩
  have HQ := Lib.hid hq
  rw [← hq]
  refine callsIn_of_wp_marks Tryd.func52 rfl trivial ?_ rfl
  simp only [Tryd.ntmps52, List.size_toArray, List.length_cons, List.length_nil, Nat.reduceAdd, Nat.reduceSub, Array.replicate_succ, Array.replicate_zero, List.push_toArray, List.append_toArray, List.nil_append, List.cons_append]
  obtain ⟨W0, hW0⟩ : ∃ W0, W0 = (w.alloc (.cells #[.slice ao an ac, .slice va q vc] 74)).alloc (.cells #[.slice none 0 0] 58) := ⟨_, rfl⟩
  have hs0 : W0.heap.size = w.heap.size + 2 := by rw [hW0]; simp
  have hk0 : Keeps (fun _ => False) w W0 := by rw [hW0]; exact ((Keeps.refl _ w).alloc _).alloc _
  have hp0 : Blk W0 w.heap.size 74 [.slice ao an ac, .slice va q vc] := by rw [hW0]; exact (Blk.new w 74 _).alloc _
  have hb0 : Blk W0 (w.heap.size + 1) 58 [.slice none 0 0] := by
    rw [hW0]
    have := Blk.new (w.alloc (.cells #[.slice ao an ac, .slice va q vc] 74)) 58 [.slice none 0 0]
    rwa [World.size_alloc] at this
  have HP0 := Lib.hid hp0
  have HB0 := Lib.hid hb0
  have HK0 := Lib.hid hk0
  have HS0 := Lib.hid hs0
  have HW0 := Lib.hid hW0
  have HAL := Lib.hid (rall_real L D hs W0 (h.quiet hk0))
  unfold RL.ptr at *
  clear h hd e1 e2 e3 hk0 hp0 hb0 hs0 hW0 hq
  gi_wp2_with (refine ⟨trivial, ?_⟩; gi_at_call 53; rw [← HW0.out]; refine (callsIn_wide.2 HAL.out).mono ?_; rintro e w1 ⟨Bs, vr, zs, rfl, hBs, ha⟩)
  have hok : ∀ h ∈ zs, h.it.key.length ≤ 1000000 ∧ h.it.val.length ≤ 1000000 := fun x hx => by
    have h1 : x.it ∈ itsOf (ordC hs 8) := by rw [← ha.its]; exact List.mem_map.2 ⟨x, hx, rfl⟩
    obtain ⟨y, hy, hye⟩ := List.mem_map.1 h1
    unfold ordC at hy
    obtain ⟨k, _, hk⟩ := List.mem_flatMap.1 hy
    have h2 := (HH.out.inv.good y (List.mem_filter.1 hk).1).1
    rw [← hye]
    exact ⟨by have := h2.k2; omega, by have := h2.v2; omega⟩
  have HS0' := HS0.out
  have hw1 := ha.keeps.size
  have hI0 : CameI w1 (w.heap.size + 1) Bs vr zs [] w1 := ⟨⟨_, ha.keeps.blk HB0.out id, World.ownsRow_nil _ _ _ _⟩, (fun x hx => nomatch hx), ha.box, own_low ha.row (Nat.zero_le _), ha.rd, hok, Keeps.refl _ _⟩
  have hrb : ∀ g, vr.ownBlock = some g → g < w1.heap.size := fun g hg => (own_heap ha.row hg).2.1
  have hzl : zs.length ≤ 100000 := by
    have h1 := congrArg List.length ha.its
    have h2 := ordC_len hs 8
    have h3 := HH.out.len
    simp [itsOf] at h1
    omega
  have HI0 := Lib.hid hI0
  have HA := Lib.hid ha
  have HRB := Lib.hid hrb
  obtain ⟨ra, rc, rfl⟩ := own_formQ ha.row
  clear hI0 ha hok hrb HAL HS0'
  refine wpIn_rangeJ rfl h1 (gf := 75) (lb := #[.pointer (some ⟨Bs, 0, none⟩)]) rfl trivial (enters_of Tryd.func75 (by kernel_rfl) rfl) (encs := fun x : HM => #[x.val]) (fun _ => rfl)
    (item_seqJ (3 - 1) (by omega) Bs ra rc zs (by omega)) (CameI w1 (w.heap.size + 1) Bs (.slice ra zs.length rc) zs) (fun _ _ h => h.items)
    (fun _ _ _ h hk => h.keep hk (fun _ h => h.elim) (fun _ h => h.elim))
    (fun _ _ _ r h hl hk => h.keep hk (fun k e cs t hc => by
      have e : k = w1.heap.size + 1 := e
      rw [e, hl] at hc
      injection hc with hc
      cases hc) (fun k e => by
      have e : k = w1.heap.size + 1 := e
      omega)) HI0.out ?round ?done
  case round =>
    intro l' pre x Wr r hI hx hlr hdr K hK
    obtain ⟨y, hy, hxy, hxr⟩ := hx
    have hpl := (List.getElem?_eq_some_iff.1 hy).1
    have HI := Lib.hid hI
    have HXR := Lib.hid hxr
    have HLR := Lib.hid hlr
    have HDR := Lib.hid hdr
    obtain ⟨ka, kc, hka, _⟩ := own_bytes hxr.k
    obtain ⟨va', vc', hva, _⟩ := own_bytes hxr.v
    have hxv : x.val = .agg #[.slice ka x.it.key.length kc, .slice va' x.it.val.length vc', .int .u32 x.it.fg, .int .u32 x.it.ex, .int .u64 x.it.sq, .bool x.it.dt] := by
      unfold HM.val IT.agg
      rw [hka, hva]
    have hxc : x.it.cells x.kv x.vv = [.slice ka x.it.key.length kc, .slice va' x.it.val.length vc', .int .u32 x.it.fg, .int .u32 x.it.ex, .int .u64 x.it.sq, .bool x.it.dt] := by
      unfold IT.cells
      rw [hka, hva]
    have HXC := Lib.hid hxc
    dsimp only
    rw [hxv]
    obtain ⟨W₁, hW₁⟩ : ∃ W₁, W₁ = Wr.alloc (.cells #[.slice ka x.it.key.length kc, .slice va' x.it.val.length vc', .int .u32 x.it.fg, .int .u32 x.it.ex, .int .u64 x.it.sq, .bool x.it.dt] 64) := ⟨_, rfl⟩
    have hk1 : Keeps (fun _ => False) Wr W₁ := by rw [hW₁]; exact (Keeps.refl _ _).alloc _
    have hb1 : Blk W₁ Wr.heap.size 64 [.slice ka x.it.key.length kc, .slice va' x.it.val.length vc', .int .u32 x.it.fg, .int .u32 x.it.ex, .int .u64 x.it.sq, .bool x.it.dt] := by rw [hW₁]; exact Blk.new Wr 64 _
    have HW1 := Lib.hid hW₁
    have HK1 := Lib.hid hk1
    have HBB := Lib.hid hb1
    clear hI hxr hlr hdr hka hva hxv hxc hW₁ hk1 hb1 hy hxy
    gi_wp2
    rw [← HW1.out]
    refine hK _ _ ((HK1.out.block _ (Array.getElem?_eq_some_iff.1 HLR.out).1 id)) (HK1.out.block _ (Array.getElem?_eq_some_iff.1 HDR.out).1 id) ?_
    clear hK
    intro Wb rb hlb hdb hkb
    have hs0 := HS0.out
    have hL1 : W₁.heap[w1.heap.size + 1]? = some (.loop r) := (HK1.out.block _ (Array.getElem?_eq_some_iff.1 HLR.out).1 id).trans HLR.out
    have HIB : Hid (CameI w1 (w.heap.size + 1) Bs (.slice ra zs.length rc) zs pre Wb) := Lib.hid ((HI.out.keep HK1.out (fun _ h => h.elim) (fun _ h => h.elim)).keep hkb (fun k e cs t hc => by
      have e : k = w1.heap.size + 1 := e
      rw [e, hL1] at hc
      injection hc with hc
      cases hc) (fun k e => by
      have e : k = w1.heap.size + 1 := e
      omega))
    have HXB : Hid (Reads Wb x.it x.kv x.vv) := Lib.hid ((HXR.out.keep HK1.out (fun _ _ => id) (fun _ _ => id)).loop hL1 hkb)
    have hrl := (Array.getElem?_eq_some_iff.1 HLR.out).1
    have hbx := hkb.blk HBB.out (fun e => by
      have e : Wr.heap.size = w1.heap.size + 1 := e
      omega)
    have x0 := hbx.cell (i := 0) rfl
    have x1 := hbx.cell (i := 1) rfl
    have x2 := hbx.cell (i := 2) rfl
    have x3 := hbx.cell (i := 3) rfl
    have x4 := hbx.cell (i := 4) rfl
    have x5 := hbx.cell (i := 5) rfl
    obtain ⟨v5, hv5, ho5⟩ := HIB.out.row
    obtain ⟨sa, sc, rfl⟩ := own_formQ ho5
    have c5 := hv5.cell (i := 0) rfl
    have HV5 := Lib.hid hv5
    have HO5 := Lib.hid ho5
    have HLB := Lib.hid hlb
    have HDB := Lib.hid hdb
    obtain ⟨cs, hcs⟩ : ∃ cs : List Value, cs = [.slice ka x.it.key.length kc, .slice va' x.it.val.length vc', .int .u32 x.it.fg, .int .u32 x.it.ex, .int .u64 x.it.sq, .bool x.it.dt] := ⟨_, rfl⟩
    obtain ⟨W3, hW3⟩ : ∃ W3, W3 = Wb.alloc (.cells #[.slice ka x.it.key.length kc, .slice va' x.it.val.length vc', .int .u32 x.it.fg, .int .u32 x.it.ex, .int .u64 x.it.sq, .bool x.it.dt] 64) := ⟨_, rfl⟩
    have hb3 : Blk W3 Wb.heap.size 64 cs := by rw [hW3, hcs]; exact Blk.new Wb 64 _
    have hk3 : Keeps (fun _ => False) Wb W3 := by rw [hW3]; exact (Keeps.refl _ _).alloc _
    have hcl6 : cs.length = 6 := by rw [hcs]; rfl
    have HNW : Hid (∀ j u, cs[j]? = some u → W3.cell? ((⟨Wb.heap.size, 0, none⟩ : Addr).add j) = some u) := Lib.hid (fun j u hu => by rw [add0]; exact hb3.cell hu)
    have HONE : Hid (∀ u ∈ cs, u.oneCell' = true) := Lib.hid (by rw [hcs]; intro u hu; simp at hu; rcases hu with rfl | rfl | rfl | rfl | rfl | rfl <;> rfl)
    have HR3 : Hid (W3.ownsRow w1.heap.size 64 6 (.slice sa pre.length sc) pre.length (itemCells pre)) := Lib.hid (hk3.own' ho5 (fun _ _ => id))
    have hbs : w1.heap.size ≤ W3.heap.size := Nat.le_trans HIB.out.keeps.size hk3.size
    have hpz : pre.length ≤ 100000 := by omega
    have HW3 := Lib.hid hW3
    have HK3 := Lib.hid hk3
    have HCS := Lib.hid (hcs.trans HXC.out.symm)
    obtain ⟨i64, z64, hi1, hz0, hzc, hz1, hz2⟩ := info64'
    have hzs : z64.cells.size = 6 := by rw [hzc]; rfl
    clear hL1 hlb hdb hkb hbx hv5 ho5 hW3 hb3 hk3 hcs hzc hrl
    gi_wp2_with (gi_at_builtin; rw [← HW3.out]; refine wpListIn_append_own _ rfl _ _ 58 rfl w1.heap.size 64 i64 z64 6 72 Tryd.underlying58 hi1 hz0 hz1 hz2 hzs (by decide) _ _ _ rfl HR3.out ⟨Wb.heap.size, 0, none⟩ 1 1 cs rfl (by omega) HNW.out HONE.out (by unfold maxLen; omega) (by omega) hbs ?_)
    intro v' w5 hown' hgrow _
    obtain ⟨f1, f2, f3, f4⟩ := HIB.out.push (by omega) (by omega) HRB.out HV5.out HO5.out HXB.out HK3.out (by rw [← HCS.out]; exact hown') hgrow
    obtain ⟨sa', sc', rfl⟩ := own_formQ hown'
    have HF1 := Lib.hid f1
    have HF2 := Lib.hid f2
    clear hown' hgrow f1 f2 HNW HONE HR3
    gi_wp2
    exact ⟨HF1.out, other_blk HV5.out HO5.out HF2.out HLB.out (fun _ _ e => nomatch e), other_blk HV5.out HO5.out HF2.out HDB.out (fun _ _ e => nomatch e)⟩
  case done =>
    intro ys Wd hys hI hsd hdd
    have hkd : Keeps (fun _ => False) w Wd := (((HK0.out.trans HA.out.keeps).mono (S' := fun k => k = w.heap.size + 1) fun _ _ h => h.elim).trans hI.keeps).mono fun k hk e => by
      have e : k = w.heap.size + 1 := e
      omega
    have hpd : Blk Wd w.heap.size 74 [.slice ao an ac, .slice va q vc] := hI.keeps.blk (HA.out.keeps.blk HP0.out id) (by omega)
    have HI := Lib.hid hI
    have HKD := Lib.hid hkd
    have HDD := Lib.hid hdd
    have HYS := Lib.hid hys
    have c0 := hpd.cell (i := 0) rfl
    have c1 := hpd.cell (i := 1) rfl
    have HRA : Hid (Calls Tryd.prog 73 #[.agg #[.slice ao an ac, .slice va q vc]] Wd (RAllP l Wd)) := Lib.hid (by rw [HQ.out]; exact rall_any ao an ac _ l Wd (HD.out.quiet hkd))
    unfold RAllP at HRA
    obtain ⟨n9, hn9⟩ : ∃ n9, n9 = (ordC l 8).length := ⟨_, rfl⟩
    rw [← hn9] at HRA
    have HN9 := Lib.hid hn9
    clear hn9
    clear hI hkd hdd hys hpd hsd
    gi_wp2_with (refine ⟨trivial, ?_⟩; gi_at_call 73; refine (callsIn_wide.2 HRA.out).mono ?_; rintro e w2 ⟨v9, rfl, hr9, hk2⟩; obtain ⟨ga, gc, rfl⟩ := own_formQ hr9)
    have HK2 := Lib.hid hk2
    have hin : ∀ x ∈ ordC l 8, x ∈ l := fun x hx => by
      unfold ordC at hx
      obtain ⟨k, _, hk⟩ := List.mem_flatMap.1 hx
      exact (List.mem_filter.1 hk).1
    have hol := ordC_len l 8
    have hdl := HD.out.le
    rw [← HN9.out] at hol
    have HIT : Hid (ItsAt w2 (.slice ga n9 gc) (ordC l 8)) := Lib.hid ⟨by rw [← HN9.out]; exact own_low hr9 (Nat.zero_le _), fun x hx => (HD.out.rd x (hin x hx)).quiet (HKD.out.trans hk2), fun x hx => by
      have h2 := (HD.out.ok x (hin x hx)).1
      exact ⟨by have := h2.k2; omega, by have := h2.v2; omega⟩, by rw [← HN9.out]; omega⟩
    have HOK : Hid (∀ x ∈ ordC l 8, x.it.Ok) := Lib.hid (fun x hx => (HD.out.ok x (hin x hx)).1)
    clear hr9 hk2 hin HRA c0 c1
    gi_loopw [8, 22] (fun s8 s22 wr => ∃ t : Nat, t ≤ n9 ∧ s22 = .int .i64 (t : Int) ∧ s8 = .int .i64 ((sumC ((ordC l 8).take t) : Nat) : Int) ∧ Keeps (fun _ => False) w2 wr) (fun _ s22 _ => n9 - (intOf s22).toNat)
    case atStart => exact ⟨0, Nat.zero_le _, rfl, by simp [sumC], Keeps.refl _ _⟩
    case round =>
      obtain ⟨t, ht, rfl, rfl, hkr⟩ := hrel
      have HKR := Lib.hid hkr
      clear hkr
      by_cases hlt : t < n9
      · have hlt' : (t : Int) < (n9 : Int) := by omega
        obtain ⟨y, hy⟩ : ∃ y, (ordC l 8)[t]? = some y := ⟨_, List.getElem?_eq_getElem (by rw [← HN9.out]; exact hlt)⟩
        obtain ⟨g, c, hg, _, hc⟩ := HIT.out.at hy
        injection hg with hg hg2 hg3
        subst hg hg3
        have hyr := HIT.out.rd y (List.mem_of_getElem? hy)
        have hyo := HOK.out y (List.mem_of_getElem? hy)
        have hst := sumC_take hy
        have hle : sumC ((ordC l 8).take t) ≤ 786 * t := by
          have h1 := sumC_le (hs := (ordC l 8).take t) (fun x hx => HOK.out x (List.mem_of_mem_take hx))
          rw [List.length_take, Nat.min_eq_left (by rw [← HN9.out]; omega)] at h1
          exact h1
        have c0 := hc _ HKR.out 0 _ rfl
        have c1 := hc _ HKR.out 1 _ rfl
        have c2 := hc _ HKR.out 2 _ rfl
        have c3 := hc _ HKR.out 3 _ rfl
        have c4 := hc _ HKR.out 4 _ rfl
        have c5 := hc _ HKR.out 5 _ rfl
        simp only [Nat.add_zero] at c0
        have hcg := hyo.chg
        have HCH : Hid (∀ W', Keeps (fun _ => False) wr W' → Calls Tryd.prog 71 #[y.it.agg y.kv y.vv] W' (IntP (y.it.chg : Nat) W')) := Lib.hid (fun W' hk => rcharge_any y.it y.kv y.vv W' (hyr.quiet (HKR.out.trans hk)) (by have := hyo.k2; omega) (by have := hyo.v2; omega))
        obtain ⟨⟨yk, ykc, hyk, _⟩, ⟨yv, yvc, hyv, _⟩⟩ := hyr
        rw [hyk] at c0
        rw [hyv] at c1
        rw [hyk, hyv] at HCH
        unfold IT.agg at HCH
        obtain ⟨A, hA⟩ : ∃ A, A = sumC ((ordC l 8).take t) := ⟨_, rfl⟩
        obtain ⟨C, hC⟩ : ∃ C, C = y.it.chg := ⟨_, rfl⟩
        rw [← hA] at hle hst ⊢
        rw [← hC] at hst hcg HCH
        have HST := Lib.hid hst
        have hA2 : A ≤ 1000000000 := by omega
        clear hc hy hyo hst hA hC hyk hyv hg2
        gi_wp2_with (refine ⟨trivial, ?_⟩; gi_at_call 71; refine (callsIn_wide.2 (HCH.out _ ((Keeps.refl _ _).alloc _))).mono ?_; rintro e w3 ⟨rfl, hk3⟩)
        go_roundw
        case rel => exact ⟨t + 1, by omega, by go_num, by rw [HST.out]; go_num, HKR.out.trans (((Keeps.refl _ _).alloc _).trans hk3)⟩
        case measure => simp [intOf]; omega
      · have hlt' : ¬ ((t : Int) < (n9 : Int)) := by omega
        obtain rfl : t = n9 := by omega
        have htk : (ordC l 8).take t = ordC l 8 := List.take_of_length_le (by have := HN9.out; omega)
        rw [htk, ← HE3.out]
        have hkw : Keeps (fun _ => False) Wd wr := HK2.out.trans HKR.out
        have hcw := HI.out.keep hkw (fun _ h => h.elim) (fun _ h => h.elim)
        obtain ⟨v5, hv5, ho5⟩ := hcw.row
        obtain ⟨sa, sc, rfl⟩ := own_formQ ho5
        have c5 := hv5.cell (i := 0) rfl
        have hyl : ys.length = t := by
          have h1 := congrArg List.length (HYS.out.trans (HA.out.its.trans HE1.out))
          have h2 := HN9.out
          simp [itsOf] at h1
          omega
        have HSM : Hid (Calls Tryd.prog 43 #[.slice sa ys.length sc, .slice ga t gc] wr (RSamP ys (ordC l 8) wr)) := Lib.hid (rsame_any _ _ ys (ordC l 8) wr ⟨own_low ho5 (Nat.zero_le _), fun x hx => (hcw.rd x hx).itb, fun x hx => by
          have h1 : x.it ∈ itsOf (ordC l 8) := by rw [← HE1.out, ← HA.out.its, ← HYS.out]; exact List.mem_map.2 ⟨x, hx, rfl⟩
          obtain ⟨y, hy, hye⟩ := List.mem_map.1 h1
          have h2 := HOK.out y hy
          rw [← hye]
          exact ⟨by have := h2.k2; omega, by have := h2.v2; omega⟩, by omega⟩ (HIT.out.quiet HKR.out))
        have HEQ : Hid (itsOf ys = itsOf (ordC l 8)) := Lib.hid (HYS.out.trans (HA.out.its.trans HE1.out))
        have HKW := Lib.hid hkw
        have HLN : Hid (∀ W', Keeps (fun _ => False) wr W' → Calls Tryd.prog 37 #[.pointer (some ⟨L.B, 0, none⟩)] W' fun e w' => e = .returned (.int .i64 (t : Nat)) ∧ w' = W') := Lib.hid (fun W' hk => by
          have h1 := len_any' L D hs W' (HH.out.quiet (HKD.out.trans (HKW.out.trans hk)))
          rw [HE2.out, ← HN9.out] at h1
          exact h1)
        have HCG : Hid (∀ W', Keeps (fun _ => False) wr W' → Calls Tryd.prog 36 #[.pointer (some ⟨L.B, 0, none⟩)] W' fun e w' => e = .returned (.int .i64 (sumC hs : Nat)) ∧ w' = W') := Lib.hid (fun W' hk => charge_all L D hs W' (HH.out.quiet (HKD.out.trans (HKW.out.trans hk))))
        unfold RSamP at HSM
        rw [hyl] at HSM c5
        obtain ⟨S, hS⟩ : ∃ S, S = sumC hs := ⟨_, rfl⟩
        rw [← hS] at HCG ⊢
        clear htk hkw hcw hv5 ho5 hS hyl
        gi_wp2_with (first
          | (refine ⟨trivial, ?_⟩; gi_at_call 43; refine (callsIn_wide.2 HSM.out).mono ?_; rintro e w3 ⟨bb, rfl, hk3, hbb⟩; obtain rfl := hbb.2 HEQ.out; clear hbb)
          | (refine ⟨trivial, ?_⟩; gi_at_call 37; refine (callsIn_wide.2 (HLN.out _ hk3)).mono ?_; rintro e w4 ⟨rfl, rfl⟩)
          | (refine ⟨trivial, ?_⟩; gi_at_call 36; refine (callsIn_wide.2 (HCG.out _ hk3)).mono ?_; rintro e w4 ⟨rfl, rfl⟩))
        have hk4 := HKW.out.trans hk3
        show LeavesInM Fence.wide 3 Tryd.prog Tryd.f52 _ (BoolP true w) ([w1.heap.size].map mark) .returning _
        refine marks_out [w1.heap.size] _ (by simp) (fun D' hD => ?_) fun E' hk => ⟨.bool true, by simp [results, Tryd.f52, go_sem], rfl, ?_⟩
        · obtain rfl := List.mem_singleton.1 hD
          exact (hk4.block _ (Array.getElem?_eq_some_iff.1 HDD.out).1 id).trans HDD.out
        · refine (((HKD.out.trans hk4).mono (S' := fun k => k ∈ [w1.heap.size]) fun _ _ h => h.elim).trans hk).mono fun k hk' e => ?_
          have e := List.mem_singleton.1 e
          have h1 := HK0.out.size
          omega
end Go.Proofs.YthnagihgjenimaaDoor

/- RamDoes: plain laws: two rows of what is held that are alike; what is put out is the same; the document's half in memory. -/
namespace Go.Proofs.YthnagihgjenimaaDoor
open Go.RowKit
set_option linter.unusedVariables false
set_option linter.unusedSimpArgs false
/-- What two memories share of an item that is held. -/
def akey (h : HM) : IT × Nat × Nat := (h.it, h.ch, h.cl)
def al (l : List HM) : List (IT × Nat × Nat) := l.map akey
theorem al_cons (x : HM) (l : List HM) : al (x :: l) = akey x :: al l := rfl
theorem al_app (a b : List HM) : al (a ++ b) = al a ++ al b := by simp [al]
theorem al_len {a b : List HM} (h : al a = al b) : a.length = b.length := by
  have := congrArg List.length h
  simpa [al] using this
theorem al_its {a b : List HM} (h : al a = al b) : itsOf a = itsOf b := by
  have : ∀ l : List HM, itsOf l = (al l).map (·.1) := fun l => by simp [itsOf, al, akey, Function.comp_def]
  rw [this, this, h]
theorem al_ls {a b : List HM} (h : al a = al b) : lsOf a = lsOf b := by
  induction a generalizing b with
  | nil => cases b with
    | nil => rfl
    | cons y s => cases h
  | cons x r ih =>
    cases b with
    | nil => cases h
    | cons y s =>
      rw [al_cons, al_cons] at h
      injection h with h1 h2
      unfold akey at h1
      injection h1 with h3 h4
      injection h4 with h5 h6
      rw [lsOf_cons, lsOf_cons, ih h2, h5, h6]
theorem al_filter {a b : List HM} (c : Nat) (h : al a = al b) : al (a.filter fun h => decide (h.cl = c)) = al (b.filter fun h => decide (h.cl = c)) := by
  have : ∀ l : List HM, al (l.filter fun h => decide (h.cl = c)) = (al l).filter fun k => decide (k.2.2 = c) := fun l => by
    unfold al
    rw [List.filter_map]
    rfl
  rw [this, this, h]
theorem al_ord {a b : List HM} (h : al a = al b) : ∀ c, al (ordC a c) = al (ordC b c)
  | 0 => by simp [ordC, al]
  | c + 1 => by rw [ordC_succ, ordC_succ, al_app, al_app, al_ord h c, al_filter c h]
/-- A row parts as the one that is alike. -/
theorem al_split {a xs ys : List HM} {x : HM} (h : al a = al (xs ++ x :: ys)) : ∃ xs' x' ys', a = xs' ++ x' :: ys' ∧ al xs' = al xs ∧ akey x' = akey x ∧ al ys' = al ys := by
  unfold al at h
  rw [List.map_append, List.map_cons] at h
  obtain ⟨u, v, rfl, h1, h2⟩ := List.map_eq_append_iff.1 h
  obtain ⟨y, r, rfl, h3, h4⟩ := List.map_eq_cons_iff.1 h2
  exact ⟨u, y, r, rfl, h1, h3, h4⟩
theorem akey_it {x y : HM} (h : akey x = akey y) : x.it = y.it := congrArg (·.1) h
theorem akey_ch {x y : HM} (h : akey x = akey y) : x.ch = y.ch := congrArg (·.2.1) h
theorem akey_cl {x y : HM} (h : akey x = akey y) : x.cl = y.cl := congrArg (·.2.2) h
theorem RInv.al {D : AD} {hs l : List HM} (h : RInv D hs) (e : al hs = al l) : RInv D l := by
  have hm : ∀ {a b : List HM}, YthnagihgjenimaaDoor.al a = YthnagihgjenimaaDoor.al b → ∀ x ∈ a, ∃ y ∈ b, akey y = akey x := fun {a b} e x hx => by
    have h1 : akey x ∈ YthnagihgjenimaaDoor.al b := by rw [← e]; exact List.mem_map.2 ⟨x, hx, rfl⟩
    exact List.mem_map.1 h1
  have hp : ∀ (R : IT × Nat × Nat → IT × Nat × Nat → Prop) (m : List HM), m.Pairwise (fun a b => R (akey a) (akey b)) ↔ (YthnagihgjenimaaDoor.al m).Pairwise R := fun R m => by unfold YthnagihgjenimaaDoor.al; rw [List.pairwise_map]
  refine ⟨h.ok, ?_, ?_, fun m c => ?_, fun y hy => ?_⟩
  · have h1 := (hp (fun a b => a.1.key ≠ b.1.key) hs).1 h.keys
    rw [e] at h1
    exact (hp (fun a b => a.1.key ≠ b.1.key) l).2 h1
  · have h1 := (hp (fun a b => a.2.1 ≠ b.2.1) hs).1 h.chs
    rw [e] at h1
    exact (hp (fun a b => a.2.1 ≠ b.2.1) l).2 h1
  · rw [h.has]
    constructor
    · rintro ⟨x, hx, rfl, rfl⟩
      obtain ⟨y, hy, e2⟩ := hm e x hx
      exact ⟨y, hy, akey_ch e2, akey_cl e2⟩
    · rintro ⟨x, hx, rfl, rfl⟩
      obtain ⟨y, hy, e2⟩ := hm e.symm x hx
      exact ⟨y, hy, akey_ch e2, akey_cl e2⟩
  · obtain ⟨x, hx, e2⟩ := hm e.symm y hy
    have h1 := h.good x hx
    rw [akey_it e2, akey_cl e2] at h1
    exact h1
theorem nodup_split {α β : Type} {f : α → β} {xs ys xs' ys' : List α} {x x' : α} (h : (xs ++ x :: ys).Pairwise (fun a b => f a ≠ f b)) (e : xs ++ x :: ys = xs' ++ x' :: ys') (hf : f x = f x') : xs = xs' ∧ x = x' ∧ ys = ys' := by
  induction xs generalizing xs' with
  | nil =>
    cases xs' with
    | nil =>
      simp at e
      exact ⟨rfl, e.1, e.2⟩
    | cons a r =>
      simp at e
      have h1 : x' ∈ ys := by rw [e.2]; simp
      exact absurd hf ((List.pairwise_cons.1 h).1 x' h1)
  | cons a r ih =>
    cases xs' with
    | nil =>
      simp at e
      have h1 : x ∈ ys' := by rw [← e.2]; simp
      have h2 : x ∈ r ++ x :: ys := by simp
      exact absurd (by rw [e.1]; exact hf.symm) ((List.pairwise_cons.1 h).1 x h2)
    | cons b s =>
      simp at e
      obtain ⟨h1, h2, h3⟩ := ih (List.pairwise_cons.1 h).2 e.2
      exact ⟨by rw [e.1, h1], h2, h3⟩
theorem less_one {D D1 E1 : AD} {hs l hs1 l1 : List HM} {k : List Int} (h1 : Less D hs k D1 hs1) (h2 : Less D l k E1 l1) (e : al hs = al l) (hi : RInv D l) : D1 = E1 ∧ al hs1 = al l1 := by
  rcases h1 with ⟨hn, rfl, rfl⟩ | ⟨xs, x, ys, rfl, hk, rfl, rfl⟩
  · rcases h2 with ⟨_, rfl, rfl⟩ | ⟨xs, x, ys, rfl, hk, rfl, rfl⟩
    · exact ⟨rfl, e⟩
    · obtain ⟨xs', x', ys', rfl, _, e2, _⟩ := al_split e
      exact absurd (by rw [akey_it e2]; exact hk) (hn x' (by simp))
  · obtain ⟨xs', x', ys', rfl, e1, e2, e3⟩ := al_split e.symm
    rcases h2 with ⟨hn, rfl, rfl⟩ | ⟨us, u, vs, hu, hk2, rfl, rfl⟩
    · exact absurd (by rw [akey_it e2]; exact hk) (hn x' (by simp))
    · obtain ⟨rfl, rfl, rfl⟩ := nodup_split (f := fun h : HM => h.it.key) hi.keys hu (by show x'.it.key = u.it.key; rw [akey_it e2, hk, hk2])
      exact ⟨by rw [akey_ch e2], by rw [al_app, al_app, e1, e3]⟩
theorem last_split {c : Nat} : ∀ {xs ys xs' ys' : List HM} {x x' : HM}, xs ++ x :: ys = xs' ++ x' :: ys' → x.cl = c → x'.cl = c → lsOf ys c = [] → lsOf ys' c = [] → xs = xs' ∧ x = x' ∧ ys = ys'
  | [], ys, [], ys', x, x', e, _, _, _, _ => by simp at e; exact ⟨rfl, e.1, e.2⟩
  | [], ys, b :: s, ys', x, x', e, _, h2, h3, _ => by
    simp at e
    rw [e.2, lsOf_app, lsOf_cons, ← h2, upd_same] at h3
    simp at h3
  | a :: r, ys, [], ys', x, x', e, h1, _, _, h4 => by
    simp at e
    rw [← e.2, lsOf_app, lsOf_cons, ← h1, upd_same] at h4
    simp at h4
  | a :: r, ys, b :: s, ys', x, x', e, h1, h2, h3, h4 => by
    simp at e
    obtain ⟨e1, e2, e3⟩ := last_split e.2 h1 h2 h3 h4
    exact ⟨by rw [e.1, e1], e2, e3⟩
theorem pick_one {l : List HM} {cl c c' : Nat} (h : Pick l cl c) (h' : Pick l cl c') : c = c' := by
  obtain ⟨n1, h1⟩ := h
  obtain ⟨n2, h2⟩ := h'
  rcases h1 with rfl | ⟨e1, l1, m1⟩ <;> rcases h2 with rfl | ⟨e2, l2, m2⟩
  · rfl
  · exact absurd e2 n1
  · exact absurd e1 n2
  · rcases Nat.lt_trichotomy c c' with h | h | h
    · exact absurd (m2 c h) n1
    · exact h
    · exact absurd (m1 c' h) n2
theorem reach_one {cl : Nat} {D0 D : AD} {hs0 hs gone : List HM} (h : Reach cl D0 hs0 gone D hs) : ∀ {l0 l gone' : List HM} {E : AD}, Reach cl D0 l0 gone' E l → al hs0 = al l0 → gone.length = gone'.length → al gone = al gone' ∧ D = E ∧ al hs = al l := by
  induction h with
  | start =>
    intro l0 l gone' E h' e hl
    cases h' with
    | start => exact ⟨rfl, rfl, e⟩
    | next => simp at hl
  | next h hf hp ho ih =>
    rename_i gone D xs ys x
    intro l0 l gone' E h' e hl
    cases h' with
    | start => simp at hl
    | next h2 hf2 hp2 ho2 =>
      rename_i gone2 D2 xs2 ys2 x2
      simp at hl
      obtain ⟨e1, rfl, e3⟩ := ih h2 e hl
      obtain ⟨us, u, vs, hu, f1, f2, f3⟩ := al_split e3.symm
      have hc : x2.cl = x.cl := by
        refine (pick_one hp2 (c' := x.cl) ?_)
        unfold Pick at hp ⊢
        rw [← al_ls e3]
        exact hp
      obtain ⟨rfl, rfl, rfl⟩ := last_split hu hc (akey_cl f2) (by rw [← hc]; exact ho2) (by rw [al_ls f3]; exact ho)
      exact ⟨by rw [al_app, al_app, e1, al_cons, al_cons, f2], by rw [akey_ch f2], by rw [al_app, al_app, f1, f3]⟩
theorem reach_prefix {cl : Nat} {D0 D : AD} {hs0 hs gone : List HM} (h : Reach cl D0 hs0 gone D hs) : ∀ m, m < gone.length → ∃ gp Dp hp, Reach cl D0 hs0 gp Dp hp ∧ gp.length = m ∧ FullA Dp cl := by
  induction h with
  | start => intro m hm; simp at hm
  | next h hf hp ho ih =>
    rename_i gone D xs ys x
    intro m hm
    simp at hm
    by_cases e : m = gone.length
    · exact ⟨_, _, _, h, e.symm, hf⟩
    · exact ih m (by omega)
theorem give_not {D D' : AD} {cl : Nat} {r : Int} (h : GiveS D cl r 0 D') : ¬ FullA D cl := fun hf => by
  have := (giveS_one h (.full hf.1 hf.2)).2.1
  omega
/-- What is put out for a chunk is the same. -/
theorem put_one {cl : Nat} {D0 D E D3 E3 : AD} {hs0 hs gone l0 l gone' : List HM} {r r' : Int} (h : Reach cl D0 hs0 gone D hs) (hg : GiveS D cl r 0 D3) (h' : Reach cl D0 l0 gone' E l) (hg' : GiveS E cl r' 0 E3) (e : al hs0 = al l0) : al gone = al gone' ∧ al hs = al l ∧ r = r' ∧ D3 = E3 := by
  have hlen : gone.length = gone'.length := by
    rcases Nat.lt_trichotomy gone.length gone'.length with hl | hl | hl
    · obtain ⟨gp, Dp, hp, h1, h2, h3⟩ := reach_prefix h' _ hl
      obtain ⟨_, rfl, _⟩ := reach_one h h1 e h2.symm
      exact absurd h3 (give_not hg)
    · exact hl
    · obtain ⟨gp, Dp, hp, h1, h2, h3⟩ := reach_prefix h _ hl
      obtain ⟨_, rfl, _⟩ := reach_one h' h1 e.symm h2.symm
      exact absurd h3 (give_not hg')
  obtain ⟨e1, rfl, e3⟩ := reach_one h h' e hlen
  obtain ⟨rfl, _, rfl⟩ := giveS_one hg hg'
  exact ⟨e1, e3, rfl, rfl⟩
/-- All that is held, in the order of its classes. -/
theorem ord_perm {l : List HM} : ∀ c, (ordC l c).Perm (l.filter fun h => decide (h.cl < c))
  | 0 => by simp [ordC]
  | c + 1 => by
    rw [ordC_succ]
    have h1 : (l.filter fun h => decide (h.cl < c + 1)).Perm ((l.filter fun h => decide (h.cl < c)) ++ l.filter fun h => decide (h.cl = c)) := by
      induction l with
      | nil => exact .refl _
      | cons x r ih =>
        by_cases h : x.cl < c
        · simpa [h, show x.cl < c + 1 by omega, show ¬ x.cl = c by omega] using ih
        · by_cases h' : x.cl = c
          · have : (x :: ((r.filter fun h => decide (h.cl < c)) ++ r.filter fun h => decide (h.cl = c))).Perm ((r.filter fun h => decide (h.cl < c)) ++ x :: r.filter fun h => decide (h.cl = c)) := List.perm_middle.symm
            simpa [h, h', show x.cl < c + 1 by omega] using (List.Perm.cons x ih).trans this
          · simpa [h, h', show ¬ x.cl < c + 1 by omega] using ih
    exact (List.Perm.append_right _ (ord_perm c)).trans h1.symm
theorem ord_all {D : AD} {l : List HM} (h : RInv D l) : (ordC l 8).Perm l := by
  have := ord_perm (l := l) 8
  rwa [List.filter_eq_self.2 fun x hx => by
    have := (h.good x hx).2
    simp
    rw [this]
    exact cls_lt _] at this
theorem sumC_perm {a b : List HM} (h : a.Perm b) : sumC a = sumC b := by
  induction h with
  | nil => rfl
  | cons x _ ih => rw [sumC_cons, sumC_cons, ih]
  | swap x y l =>
    rw [sumC_cons, sumC_cons, sumC_cons, sumC_cons]
    omega
  | trans _ _ ih1 ih2 => exact ih1.trans ih2
theorem sumC_al {a b : List HM} (h : al a = al b) : sumC a = sumC b := by
  have : ∀ l : List HM, sumC l = ((al l).map fun k => k.1.chg).sum := fun l => by simp [sumC, al, akey, Function.comp_def]
  rw [this, this, h]
theorem told_facts {D : AD} {hs l : List HM} (h : RInv D hs) (e : al hs = al l) : itsOf (ordC hs 8) = itsOf (ordC l 8) ∧ hs.length = (ordC l 8).length ∧ sumC hs = sumC (ordC l 8) := by
  have hp := ord_all (h.al e)
  exact ⟨al_its (al_ord e 8), by rw [hp.length_eq]; exact al_len e, by rw [sumC_perm hp]; exact sumC_al e⟩
end Go.Proofs.YthnagihgjenimaaDoor

/- The argument '[]Op' of RamDoes, opened: a kind and an item each. -/
namespace Go.Proofs.YthnagihgjenimaaDoor
open Go.ChangeShapes Go.WideShapes Go.ChangeAt Go.RowKit Go.Deep
set_option linter.unusedVariables false
set_option linter.unusedSimpArgs false
structure ROp where
  kd : Int
  it : IT
  kv : Value
  vv : Value
def ROp.cells (o : ROp) : List Value := .int .i64 o.kd :: o.it.cells o.kv o.vv
/-- A row of what is done, as an argument. -/
structure RopsIn (W : World) (v : Value) (a : Option Addr) (n : Nat) (l : List ROp) : Prop where
  form : ∃ c, v = .slice a n c ∧ n ≤ c ∧ c ≤ 140737488351232
  len : l.length = n
  cell : ∀ i o, l[i]? = some o → ∃ b off, a = some ⟨b, off, none⟩ ∧ b < W.heap.size ∧ ∀ j u, o.cells[j]? = some u → W.cell? ⟨b, off + i * 7 + j, none⟩ = some u
  good : ∀ o ∈ l, o.it.In W o.kv o.vv ∧ (Lit.int .i64 o.kd).wf = true
section
variable {H : Type} {enc : TypeId × Value → H} {W : World} {base : Nat} {v : Value} {d : DataW H} {p : List MemPlace}
set_option maxRecDepth 100000 in
theorem rop_struct : ∃ f0 f1 : Field, Tryd.prog.underlying 77 = some (.struct #[f0, f1]) ∧ f0.type = 3 ∧ f1.type = 64 ∧ f0.offset = 0 ∧ f1.offset = 1 :=
  ⟨_, _, Tryd.underlying77, rfl, rfl, rfl, rfl⟩
set_option maxRecDepth 100000 in
theorem rop_cells {fuel : Nat} {x : DataW H × List MemPlace} {l : List Value} (hl : l.length = 7) (hf : DataW.trod enc Tryd.prog W 0 (fun _ => true) true fuel 77 l = some x) (hw : ∀ n ∈ x.1.weights Tryd.prog 77, n ≤ reachBytes) : ∃ o : ROp, l = o.cells ∧ o.it.In W o.kv o.vv ∧ (Lit.int .i64 o.kd).wf = true := by
  obtain ⟨f0, f1, he, e0, e1, o0, o1⟩ := rop_struct
  obtain ⟨ys, n', hn', hy, hlen, hyl, hfs⟩ := DataW.trod_struct he hf
  match l, hl with
  | [x0, x1, x2, x3, x4, x5, x6], _ =>
    match ys, hyl with
    | [y0, y1], _ =>
      have t0 := hfs 0 f0 rfl
      have t1 := hfs 1 f1 rfl
      rw [e0, o0, show Tryd.prog.cellsOf 3 = 1 from by kernel_rfl] at t0
      rw [e1, o1, show Tryd.prog.cellsOf 64 = 6 from by kernel_rfl] at t1
      simp at t0 t1
      have hd : x.1 = .agg [y0.1, y1.1] := by
        have := congrArg Prod.fst hy
        simpa using this
      have hw1 : ∀ n ∈ y1.1.weights Tryd.prog 64, n ≤ reachBytes := fun n hn => hw n (by
        rw [hd]
        simp only [DataW.weights, he]
        exact DataW.weights_mem_each (j := 1) (t := f1.type) (d := y1.1) rfl rfl n (by rw [e1]; exact hn))
      obtain ⟨it, kv, vv, h6, hin⟩ := item_cells (by rfl) t1 hw1
      obtain ⟨z, g, _, w⟩ := DataW.trod_int Tryd.underlying3 t0
      simp at g
      subst g
      exact ⟨⟨z, it, kv, vv⟩, by unfold ROp.cells; rw [← h6], hin, w⟩
set_option maxRecDepth 100000 in
theorem open_rops (hv : Value.okWide Tryd.prog W .any base 71 v) (h : DataW.Trod enc Tryd.prog W 0 (fun _ => true) true 71 v d p) (hw : ∀ n ∈ d.weights Tryd.prog 71, n ≤ reachBytes) : ∃ a n l, RopsIn W v a n l := by
  obtain ⟨a0, len, cap, rfl⟩ := okWide_slice Tryd.underlying71 hv
  have hC : Tryd.prog.cellsOf 77 = 7 := by kernel_rfl
  have hB : 1 ≤ Tryd.prog.bytesOf 77 := of_decide_eq_true (by kernel_rfl)
  obtain ⟨fuel, hf⟩ := h
  rcases open_slice Tryd.underlying71 hf with ⟨hcs, _⟩ | ⟨a, l, c, m, n, D, Pl, hcs, _, hl, hm, hmm, hx, hi⟩
  · simp [Value.cells] at hcs
    obtain ⟨rfl, rfl, rfl⟩ := hcs
    exact ⟨none, 0, [], ⟨0, rfl, Nat.le_refl _, by decide⟩, rfl, (fun i o ho => by simp at ho), (fun o ho => by simp at ho)⟩
  · simp [Value.cells] at hcs
    obtain ⟨rfl, rfl, rfl⟩ := hcs
    simp only [if_true] at hmm
    subst hmm
    simp only [Prod.mk.injEq] at hx
    obtain ⟨rfl, _⟩ := hx
    have each : ∀ i, i < m → ∃ o : ROp, (∀ j u, o.cells[j]? = some u → W.cell? (a.add (i * 7 + j)) = some u) ∧ o.it.In W o.kv o.vv ∧ (Lit.int .i64 o.kd).wf = true := by
      intro i him
      obtain ⟨cs', hc, ht'⟩ := hi i him
      have hwi : ∀ n ∈ (D i).weights Tryd.prog 77, n ≤ reachBytes := fun n hn => hw n (weights_elem Tryd.underlying71 (by omega) hn)
      rw [hC] at hc
      obtain ⟨_, hcl, hat⟩ := World.cells?_some hc
      obtain ⟨o, rfl, hin⟩ := rop_cells hcl ht' hwi
      refine ⟨o, fun j u hj => ?_, hin⟩
      have hj7 : j < 7 := by
        have := (List.getElem?_eq_some_iff.1 hj).1
        simpa [ROp.cells, IT.cells] using this
      have := hat j hj7
      rw [Go.Deep.add_add] at this
      rw [this]
      exact hj
    let ops : List ROp := (List.range len).map fun i => if hi' : i < m then Classical.choose (each i hi') else ⟨0, ⟨[], [], 0, 0, 0, false⟩, .slice none 0 0, .slice none 0 0⟩
    have hops : ∀ i o, ops[i]? = some o → i < len ∧ (∀ j u, o.cells[j]? = some u → W.cell? (a.add (i * 7 + j)) = some u) ∧ o.it.In W o.kv o.vv ∧ (Lit.int .i64 o.kd).wf = true := by
      intro i o ho
      have hil : i < len := by
        rcases Nat.lt_or_ge i len with h' | h'
        · exact h'
        · rw [List.getElem?_eq_none (by simpa [ops] using h')] at ho; cases ho
      have him : i < m := by omega
      have : o = Classical.choose (each i him) := by
        have h' : ops[i]? = some (Classical.choose (each i him)) := by simp [ops, hil, him]
        rw [h'] at ho
        exact (Option.some.inj ho).symm
      subst this
      exact ⟨hil, Classical.choose_spec (each i him)⟩
    refine ⟨some a, len, ops, ⟨m, rfl, hl, ?_⟩, by simp [ops], fun i o ho => ?_, fun o ho => ?_⟩
    · have h1 := hw (len * Tryd.prog.bytesOf 77 + (m - len) * Tryd.prog.bytesOf 77) (by
        simp [DataW.weights, Tryd.underlying71]
        left
        rw [← Nat.add_mul])
      have h2 : len * 1 ≤ len * Tryd.prog.bytesOf 77 := Nat.mul_le_mul_left _ hB
      have h3 : (m - len) * 1 ≤ (m - len) * Tryd.prog.bytesOf 77 := Nat.mul_le_mul_left _ hB
      have h4 : reachBytes = 140737488351232 := rfl
      omega
    · obtain ⟨hil, hc, _⟩ := hops i o ho
      have hm0 : 0 < m := by omega
      obtain ⟨o0, cz, _⟩ := each 0 hm0
      have cz' := cz 0 _ rfl
      obtain ⟨hsp, hbl⟩ := plain_cell (a := a) (by simpa [Addr.add] using cz')
      refine ⟨a.block, a.off, congrArg some (plainA_eta hsp), hbl, fun j u hj => ?_⟩
      have := hc j u hj
      rw [addA_plain hsp] at this
      rwa [← Nat.add_assoc] at this
    · obtain ⟨i, hi'⟩ := List.getElem?_of_mem ho
      exact (hops i o hi').2.2
end
end Go.Proofs.YthnagihgjenimaaDoor

/- RamDoes: the document's half in memory, beside the program's. -/
namespace Go.Proofs.YthnagihgjenimaaDoor
open Go.RowKit
set_option linter.unusedVariables false
set_option linter.unusedSimpArgs false
/-- Cells of other types are none of memory's own. -/
theorem RAt.notype {w : World} {L : RL} {D : AD} {hs : List HM} (h : RAt w L D hs) {g : Nat} {cs : Array Value} {t : TypeId} (hb : w.heap[g]? = some (.cells cs t (0, 0))) (h1 : t ≠ 115) (h2 : t ≠ 101) (h3 : t ≠ 3) : ¬ L.own g := by
  obtain ⟨f, a1, _⟩ := h.at'
  obtain ⟨f', a2, _⟩ := h.th
  have hm : ∀ {k b m : Nat} {f : Lit → Option Value}, MapV k w b m f → g ≠ b := fun hM e => by
    obtain ⟨D, ⟨es, clock, hb2, r⟩, _⟩ := hM
    rw [← e, hb] at hb2
    cases hb2
  rintro (e | e | e | e | e)
  · have h4 : w.heap[L.B]? = _ := h.obj
    rw [← e, hb] at h4
    injection h4 with h4
    injection h4 with _ h4
    exact h1 h4
  · exact hm a1 e
  · exact hm a2 e
  · obtain ⟨_, _, cur, h4⟩ := own_heap h.ar.row (g := L.al.G) rfl
    rw [← e, hb] at h4
    injection h4 with h4
    injection h4 with _ h4
    exact h2 h4
  · obtain ⟨cs', h4⟩ := h.li.blks.2 g e
    unfold Blk at h4
    rw [hb] at h4
    injection h4 with h4
    injection h4 with _ h4
    exact h3 h4
/-- A block that is none of memory's is turned. -/
theorem RAt.keepB {w w' : World} {L : RL} {D : AD} {hs : List HM} {B : Nat} {cs : List Value} (h : RAt w L D hs) (hb : Blk w B 74 cs) (hk : Keeps (fun k => k = B) w w') : RAt w' L D hs := by
  have hn : ¬ L.own B := h.notype hb (by decide) (by decide) (by decide)
  obtain ⟨f, a1, a2⟩ := h.at'
  obtain ⟨f', a3, a4⟩ := h.th
  obtain ⟨hk', hl⟩ := h.li.blks
  refine ⟨hk.blk h.obj fun e => hn (.inl e.symm), ⟨f, a1.keep hk fun e => hn (.inr (.inl e.symm)), a2⟩, ⟨f', a3.keep hk fun e => hn (.inr (.inr (.inl e.symm))), a4⟩, ar_keep h.ar hk (fun e => h.ar.obj.ne hb (by decide) e) (fun e => hn (.inr (.inr (.inr (.inl e.symm))))), li_keep h.li hk (fun e => hk'.ne hb (by decide) e) (fun k ho e => hn (.inr (.inr (.inr (.inr (e ▸ ho)))))), h.lN, h.ln, h.inv, fun x hx => ?_, h.mm⟩
  exact (h.rd x hx).keep hk (fun g hg e => own_ne_blk hb (h.rd x hx).k (by decide) ((show g = B from e) ▸ hg)) (fun g hg e => own_ne_blk hb (h.rd x hx).v (by decide) ((show g = B from e) ▸ hg))
/-- The document's memory: its variable, its arena, its row. -/
structure DocAt (w : World) (N Bm : Nat) (X : RG) (v : Value) (D : AD) (l : List HM) (own : Nat → Prop) (wr : World) : Prop where
  box : Blk wr Bm 74 [.slice (some ⟨X.O, 0, none⟩) N X.cap, v]
  rg : RgAt wr X N (gv D)
  sepO : ¬ own X.O
  sep : ∀ i, i < N → ¬ own (X.R i)
  row : wr.ownsRow 0 86 8 v l.length (heldC l)
  rd : ∀ h ∈ l, ItB w h.it h.kv h.vv
  keeps : Keeps (fun _ => False) w wr
theorem DocAt.quiet {w : World} {N Bm : Nat} {X : RG} {v : Value} {D : AD} {l : List HM} {own : Nat → Prop} {wr w' : World} (h : DocAt w N Bm X v D l own wr) (hk : Keeps (fun _ => False) wr w') : DocAt w N Bm X v D l own w' :=
  ⟨hk.blk h.box id, h.rg.quiet hk, h.sepO, h.sep, hk.own' h.row (fun _ _ => id), h.rd, h.keeps.trans hk⟩
theorem RgAt.keepX {w w' : World} {X : RG} {n : Nat} {f : Nat → Nat → Nat} {S : Nat → Prop} (h : RgAt w X n f) (hk : Keeps S w w') (h1 : ¬ S X.O) (h2 : ∀ i, i < n → ¬ S (X.R i)) : RgAt w' X n f :=
  ⟨h.n1, h.n2, hk.own' h.out (fun g hg e => by
    injection hg with hg
    have hg : X.O = g := hg
    exact h1 (hg.symm ▸ e)), fun i hi => hk.blk (h.row i hi) (h2 i hi), h.inj⟩
/-- The program's memory is turned. -/
theorem DocAt.real {w : World} {N Bm : Nat} {X : RG} {v : Value} {D : AD} {l : List HM} {L : RL} {wr w' : World} {D' : AD} {hs : List HM} (h : DocAt w N Bm X v D l L.own wr) (hr : RAt wr L D' hs) (hw : ∀ k, L.own k → w.heap.size ≤ k) (hk : Keeps L.own wr w') : DocAt w N Bm X v D l L.own w' := by
  refine ⟨hk.blk h.box (hr.notype h.box (by decide) (by decide) (by decide)), h.rg.keepX hk h.sepO h.sep, h.sepO, h.sep, hk.own' h.row fun g hg => ?_, h.rd, ((h.keeps.mono fun _ _ h => h.elim).trans hk).mono fun k hk' e => absurd (hw k e) (Nat.not_le.2 hk')⟩
  obtain ⟨_, _, cur, he⟩ := own_heap h.row hg
  exact hr.notype he (by decide) (by decide) (by decide)
/-- The memory is another one, made anew. -/
theorem DocAt.clear {w : World} {N Bm : Nat} {X : RG} {v : Value} {D : AD} {l : List HM} {L L' : RL} {wr w' : World} {D' : AD} {hs : List HM} (h : DocAt w N Bm X v D l L.own wr) (hr : RAt wr L D' hs) (hw : ∀ k, L.own k → w.heap.size ≤ k) (hL : ∀ k, L'.own k → k = L.B ∨ wr.heap.size ≤ k) (hk : Keeps (fun k => k = L.B) wr w') : DocAt w N Bm X v D l L'.own w' := by
  have h1 := h.real hr hw (hk.mono fun k _ e => .inl e)
  refine ⟨h1.box, h1.rg, fun ho => ?_, fun i hi ho => ?_, h1.row, h1.rd, h1.keeps⟩
  · rcases hL _ ho with e | e
    · exact h.sepO (.inl e)
    · have := h.rg.ltO
      omega
  · rcases hL _ ho with e | e
    · exact h.sep i hi (.inl e)
    · have := h.rg.ltR hi
      omega
/-- The document's row of what is held, as its functions want it. -/
theorem DocAt.hd {w : World} {N Bm : Nat} {X : RG} {v : Value} {D : AD} {l : List HM} {own : Nat → Prop} {wr : World} (h : DocAt w N Bm X v D l own wr) (hi : RInv D l) (hn : D.n = N) (hl : l.length ≤ 100000) : HdAt wr v l := by
  refine ⟨h.row, fun x hx => (h.rd x hx).quiet h.keeps, fun x hx => ?_, hl⟩
  obtain ⟨xs, ys, rfl⟩ := List.append_of_mem hx
  have h1 := hi.at_
  have h2 := hi.good x (by simp)
  have h3 := h.rg.n2
  refine ⟨h2.1, ?_, by rw [h2.2]; have := cls_lt (x.it.chg : Int); omega⟩
  have h4 : x.ch / 32 < D.n := h1.1
  omega
/-- The document's variable holds another memory. -/
theorem DocAt.set {w : World} {N Bm : Nat} {X Y : RG} {v v' : Value} {D D' : AD} {l l' : List HM} {L : RL} {wr w2 : World} {E : AD} {hs : List HM} (h : DocAt w N Bm X v D l L.own wr) (hr : RAt wr L E hs) (hB : w.heap.size ≤ Bm) (hk : Keeps (fun _ => False) wr w2) (hY : RgAt w2 Y N (gv D')) (ho : Y = X ∨ Y.Over N wr.heap.size) (hrow : w2.ownsRow 0 86 8 v' l'.length (heldC l')) (hrd : ∀ h ∈ l', ItB w h.it h.kv h.vv) :
    DocAt w N Bm Y v' D' l' L.own ((w2.setCell ⟨Bm, 0, none⟩ (.slice (some ⟨Y.O, 0, none⟩) N Y.cap)).setCell ⟨Bm, 1, none⟩ v') ∧ RAt ((w2.setCell ⟨Bm, 0, none⟩ (.slice (some ⟨Y.O, 0, none⟩) N Y.cap)).setCell ⟨Bm, 1, none⟩ v') L E hs := by
  have hb2 := hk.blk h.box id
  obtain ⟨hb3, hk3⟩ := st2 hb2 (.slice (some ⟨Y.O, 0, none⟩) N Y.cap) v'
  have hlt := hr.lt.2.2.2
  refine ⟨⟨hb3, rg_keepB hY hb2 (by decide) (by decide) hk3, ?_, fun i hi => ?_, hk3.own' hrow fun g hg e => own_ne_blk hb2 hrow (by decide) ((show g = Bm from e) ▸ hg), hrd, (((h.keeps.trans hk).mono (S' := fun k => k = Bm) fun _ _ h => h.elim).trans hk3).mono fun k hk' e => ?_⟩, (hr.quiet hk).keepB hb2 hk3⟩
  · rcases ho with rfl | ho
    · exact h.sepO
    · exact fun e => absurd (hlt _ e) (Nat.not_lt.2 ho.1)
  · rcases ho with rfl | ho
    · exact h.sep i hi
    · exact fun e => absurd (hlt _ e) (Nat.not_lt.2 (ho.2 i hi))
  · have e : k = Bm := e
    omega
/-- The kinds of what is done. -/
theorem kind_of (k : Int) (h1 : -9223372036854775808 ≤ k) (h2 : k ≤ 9223372036854775807) : ∃ r : Nat, r ≤ 5 ∧ Int.tmod (Int.tmod k 6 + 6) 6 = (r : Int) ∧ -5 ≤ Int.tmod k 6 ∧ Int.tmod k 6 ≤ 5 := by
  have h5 : -5 ≤ Int.tmod k 6 ∧ Int.tmod k 6 ≤ 5 := by
    rcases Int.lt_or_le k 0 with h | h
    · have e : Int.tmod k 6 = -(Int.tmod (-k) 6) := by rw [Int.neg_tmod]; omega
      rw [e, Int.tmod_eq_emod_of_nonneg (by omega)]
      omega
    · rw [Int.tmod_eq_emod_of_nonneg h]
      omega
  refine ⟨(Int.tmod (Int.tmod k 6 + 6) 6).toNat, ?_, ?_, h5⟩
  · rw [Int.tmod_eq_emod_of_nonneg (by omega)]
    omega
  · rw [Int.tmod_eq_emod_of_nonneg (by omega)]
    omega
end Go.Proofs.YthnagihgjenimaaDoor
