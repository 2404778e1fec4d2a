/- settle: the pending writes that live are made safe. -/
import Derived.Test.YtjiammhmeliogaaWrite
import Derived.Deep.WholeRow
namespace Go.Proofs.Ytjiammhmeliogaa
open Go.RowKit
set_option linter.unusedVariables false

/-- A write is stored into a new block. -/
theorem exec_new106 (ρ : Operand → Value) (dst : Option Tmp) (ty : TypeId) (pos : String) (after : Array Edge) (guard : Option (Nat × Bool)) (x y : Operand) (w : World) (c : Array Value) (h : ρ x = .pointer (some ⟨w.heap.size, 0, none⟩)) (hy : ρ y = .agg (ρ y).cells) (hc : (ρ y).cells.size = 65) (hz : c.size = 65) (h1 : oneAll (ρ y).cells = true) :
    (execOp ρ ⟨dst, .store 106 x y, ty, pos, after, guard⟩).run Try.prog (w.alloc (.cells c 106)) = .ok .skip (w.alloc (.cells (ρ y).cells 106)) := by
  have hl := run_storeVar_new (P := Try.prog) w 106 c (ρ y).cells (by rw [hc]; kernel_rfl) (by rw [hz, hc]) h1
  unfold execOp
  simp only [h, Instr.storeAt, Instr.sureAddr, Sem.run_bind, Sem.run_pure, Result.andThen_ok]
  rw [← hy] at hl
  simp only [hl, Result.andThen_ok]
theorem zc_size : Try.zeroCells106.size = 65 := by rw [zc106]; simp [z106]

def updF (f : Nat → List Int) (i : Nat) (b : List Int) (j : Nat) : List Int := if j = i then b else f j
theorem updF_same (f : Nat → List Int) (i : Nat) (b : List Int) : updF f i b i = b := by unfold updF; simp
theorem updF_ne (f : Nat → List Int) (i : Nat) (b : List Int) {j : Nat} (h : j ≠ i) : updF f i b j = f j := by unfold updF; rw [if_neg h]
/-- The writes that live are made safe. -/
def setl (live : Nat → Bool) : Nat → List (Nat × List Int) → (Nat → List Int) → (Nat → List Int)
  | _, [], f => f
  | k, a :: r, f => setl live (k + 1) r (if live k then updF f a.1 a.2 else f)
theorem setl_append (live : Nat → Bool) : ∀ (p q : List (Nat × List Int)) (k : Nat) (f : Nat → List Int), setl live k (p ++ q) f = setl live (k + p.length) q (setl live k p f)
  | [], q, k, f => by simp [setl]
  | a :: r, q, k, f => by
    simp only [List.cons_append, setl, List.length_cons]
    rw [setl_append live r q (k + 1)]
    congr 1
    omega
theorem setl_take {live : Nat → Bool} {p : List (Nat × List Int)} {f : Nat → List Int} {t : Nat} {a : Nat × List Int} (h : p[t]? = some a) :
    setl live 0 (p.take (t + 1)) f = if live t then updF (setl live 0 (p.take t) f) a.1 a.2 else setl live 0 (p.take t) f := by
  obtain ⟨ht, rfl⟩ := List.getElem?_eq_some_iff.1 h
  rw [List.take_succ_eq_append_getElem ht, setl_append]
  simp [setl, List.length_take, Nat.min_eq_left (Nat.le_of_lt ht)]

/-- A write is made safe: the disk behind it. -/
theorem safe_store {L : DL} {D : DD} {w w' : World} {g n cap i : Nat} {b : List Int} (h : DkAt w L D) (hsv : L.sv = .slice (some ⟨g, 0, none⟩) n cap) (hn : n = D.n) (hi : i < D.n) (hb : b.length = 64) (hw : w' = w.setCells g (i * 64) (bk b)) :
    DkAt w' L { D with f := updF D.f i b } ∧ Keeps (fun k => L.sv.ownBlock = some k) w w' := by
  subst hn
  obtain ⟨post, hp⟩ := flat_split D.f hi
  have e1 := hp D.f (fun _ _ _ => rfl)
  have e2 := hp (updF D.f i b) (fun j _ hne => updF_ne _ _ _ hne)
  rw [updF_same] at e2
  have hs := h.safe
  rw [hsv, e1] at hs
  have hlen : (flat D.f i).length = i * 64 := flat_len fun j hj => h.fl j (by omega)
  have hs2 := own_splice (vs' := bk b) hs (by rw [bk_len, bk_len, hb, h.fl i hi])
  rw [hlen, ← e2] at hs2
  have hk : Keeps (fun k => k = g) w w' := by rw [hw]; exact setCells_keeps g _ _ w
  have hk2 : Keeps (fun k => L.sv.ownBlock = some k) w w' := hk.mono fun k _ e => by rw [hsv, show k = g from e]; rfl
  have hB : ¬ (L.sv.ownBlock = some L.B) := own_ne_blk h.obj h.safe (by decide)
  refine ⟨⟨hk2.blk h.obj hB, by rw [hw, hsv]; exact hs2, hk2.own h.pend fun g' hg' e => own_ne_own h.pend h.safe (by decide) hg' e, h.n1, h.n2, fun j hj => ?_, h.pl, h.pa, h.pn, h.o1, h.o2, h.l1, h.l2, h.f1, h.f2⟩, hk2⟩
  show (updF D.f i b j).length = 64
  by_cases e : j = i
  · subst e; rw [updF_same]; exact hb
  · rw [updF_ne _ _ _ e]; exact h.fl j hj

attribute [local go_sem ↓] exec_new106 exec_load106 exec_load27 exec_store27
theorem mayRow_drew (w : World) (g o n : Nat) : MayRow w.drew g o n ↔ MayRow w g o n := Iff.rfl
attribute [local go_sem] mayRow_drew padr_some rowAt_drew hasRow_drew rowAt_alloc hasRow_alloc zc_size

/-- Sync's function value: all live. -/
theorem sync_fn (i : Int) (w : World) : Calls Try.prog 65 #[.int .i64 i] w fun e w' => e = .returned (.bool true) ∧ w = w' := by
  go_enter Try.func65, Try.ntmps65
  go_wp2
  go_ret
  exact ⟨rfl, rfl⟩

set_option maxRecDepth 100000 in
set_option maxHeartbeats 4000000 in
theorem settle_all (L : DL) (D : DD) (w : World) (h : DkAt w L D)  :
    Calls Try.prog 64 #[L.ptr, .func (.func 65) #[] #[]] w fun e w' => (∃ v, e = .returned v) ∧ DMoved L { D with f := setl (fun _ => true) 0 D.p D.f, p := [] } w w' := by
  have HD := Lib.hid h
  obtain ⟨pa, pc, hpv, hpc1, hpc2⟩ := own_slice h.pend
  obtain ⟨g, sc, hsv, hsc1, hsc2, hgl⟩ := own_some h.safe h.n1
  obtain ⟨c0, c1, _⟩ := h.cells
  have n2 := h.n2
  have pn := h.pn
  unfold maxLen at hpc2 hsc2
  rw [hsv] at c0
  rw [hpv] at c1
  have HPV := Lib.hid hpv
  have HSV := Lib.hid hsv
  have HS0 : Hid (DkAt w L { D with f := setl (fun _ => true) 0 (D.p.take 0) D.f } ∧ Keeps (fun k => L.sv.ownBlock = some k) w w) := Lib.hid ⟨h, Keeps.refl _ _⟩
  have hlB := h.obj.lt
  clear h hpv hsv
  unfold DL.ptr at *
  go_enter Try.func64, Try.ntmps64
  go_wp2_with fail
  go_loopw [11] (fun i wr => ∃ t : Nat, t ≤ D.p.length ∧ i = .int .i64 t ∧ DkAt wr L { D with f := setl (fun _ => true) 0 (D.p.take t) D.f } ∧ Keeps (fun k => L.sv.ownBlock = some k) w wr) (fun i _ => D.p.length - (intOf i).toNat)
  case atStart => exact ⟨0, Nat.zero_le _, rfl, HS0.out.1, HS0.out.2⟩
  case round =>
    obtain ⟨t, ht, rfl, hd, hk⟩ := hrel
    have HDt := Lib.hid hd
    have HKt := Lib.hid hk
    have hwr := hk.size
    by_cases hlt : t < D.p.length
    · obtain ⟨a, ha⟩ : ∃ a, D.p[t]? = some a := ⟨_, List.getElem?_eq_getElem hlt⟩
      have ham : a ∈ D.p := List.mem_of_getElem? ha
      have hal := hd.pl a ham
      have han := hd.pa a ham
      dsimp only at hal han
      obtain ⟨g2, pc2, hpv2, _, _, hg2⟩ := own_some hd.pend (by show 0 < D.p.length; omega)
      have hpe := hpv2
      rw [HPV.out] at hpe
      injection hpe with hpe1 _ hpe2
      subst hpe1
      subst hpe2
      have hrng : wr.rangeAt g2 (t * 65) (wrc a) := by
        have := hd.pend
        rw [hpv2] at this
        dsimp only at this
        rw [pflat_split ha] at this
        have h2 := own_range this
        rwa [pflat_len (fun b hb => hd.pl b (List.mem_of_mem_take hb)), List.length_take, Nat.min_eq_left ht] at h2
      have hr1 := hasRow_of hrng (n := 65) (wrc_len hal)
      have hr2 := rowAt_of hrng (n := 65) (wrc_len hal)
      obtain ⟨cv, hcv⟩ : ∃ cv, cv = wrc a := ⟨_, rfl⟩
      rw [← hcv] at hr2
      have hcl : cv.length = 65 := by rw [hcv]; exact wrc_len hal
      have hc1 : oneAll cv.toArray = true := by
        rw [hcv]
        unfold oneAll
        exact all_oneCell_toArray wrc_one
      obtain ⟨d0, d1, _⟩ := hd.cells
      try dsimp only at d0 d1
      rw [HSV.out] at d0
      have hlB2 : L.B < wr.heap.size := hd.obj.lt
      have hgS := hd.safe
      rw [HSV.out] at hgS
      have hglw : g < wr.heap.size := (own_heap hgS rfl).2.1
      have hthere : MayRow (wr.alloc (.cells cv.toArray 106)) g (a.1 * 64) 64 := by
        have h1 := own_there hgS (o := a.1 * 64) (m := 64) (by
          rw [flat_len hd.fl]
          show a.1 * 64 + 64 ≤ D.n * 64
          omega)
        exact World.there_alloc h1 _
      have hb0 : Blk (wr.alloc (.cells cv.toArray 106)) wr.heap.size 106 cv := Blk.new wr 106 cv
      have hx0 := hb0.cell (i := 0) (v := .int .i64 (a.1 : Int)) (by rw [hcv]; rfl)
      have hxr : (wr.alloc (.cells cv.toArray 106)).rangeAt wr.heap.size 1 (bk a.2) := by
        intro j v hv
        refine hb0.cell ?_
        rw [hcv, Nat.add_comm]
        exact hv
      have hx1 := hasRow_of hxr (n := 64) (by rw [bk_len]; exact hal)
      have hx2 := rowAt_of hxr (n := 64) (by rw [bk_len]; exact hal)
      obtain ⟨cb, hcb⟩ : ∃ cb, cb = bk a.2 := ⟨_, rfl⟩
      rw [← hcb] at hx2
      have hbl : cb.length = 64 := by rw [hcb, bk_len]; exact hal
      have hb1 : oneAll cb.toArray = true := by
        rw [hcb]
        unfold oneAll
        exact all_oneCell_toArray bk_one
      have HHA := Lib.hid ha
      have HCB := Lib.hid hcb
      have HCV := Lib.hid hcv
      have HAL := Lib.hid hal
      have HN : Hid (∀ W, W = (wr.alloc (.cells cv.toArray 106)).drew.setCells g (a.1 * 64) cb → DkAt W L { D with f := updF (setl (fun _ => true) 0 (D.p.take t) D.f) a.1 a.2 } ∧ Keeps (fun k => L.sv.ownBlock = some k) w W) := Lib.hid (fun W hW => by
        have hq : Keeps (fun _ => False) wr ((wr.alloc (.cells cv.toArray 106)).drew) := ((Keeps.refl _ _).alloc _).drew
        obtain ⟨s1, s2⟩ := safe_store (w' := W) (hd.quiet hq) HSV.out rfl han hal (hW.trans (by rw [HCB.out]))
        exact ⟨s1, (hk.trans (hq.mono fun _ _ h => h.elim)).trans s2⟩)
      have HQ : Hid (DkAt (wr.alloc (.cells cv.toArray 106)) L { D with f := setl (fun _ => true) 0 (D.p.take t) D.f } ∧ Keeps (fun k => L.sv.ownBlock = some k) w (wr.alloc (.cells cv.toArray 106))) := Lib.hid ⟨hd.quiet ((Keeps.refl _ _).alloc _), hk.alloc _⟩
      clear ham hd hk hpv2 hrng hxr hb0 hgS ha hcb hcv hal
      go_wp2_with fail
      refine (sync_fn (t : Int) _).mono ?_
      rintro e w2 ⟨rfl, rfl⟩
      go_wp2_with fail
      go_region
      all_goals
        go_wp2_with fail
        have HT : Hid (DkAt ((wr.alloc (.cells cv.toArray 106)).drew.setCells g (a.1 * 64) cb) L { D with f := setl (fun _ => true) 0 (D.p.take (t + 1)) D.f } ∧ Keeps (fun k => L.sv.ownBlock = some k) w ((wr.alloc (.cells cv.toArray 106)).drew.setCells g (a.1 * 64) cb)) := Lib.hid (by
          rw [setl_take HHA.out, if_pos rfl]
          exact HN.out _ rfl)
        generalize (wr.alloc (.cells cv.toArray 106)).drew.setCells g (a.1 * 64) cb = wn at HT ⊢
        go_roundw
        case rel => exact ⟨t + 1, by omega, by go_num, HT.out.1, HT.out.2⟩
        case measure => simp [intOf]; omega
    · obtain rfl : t = D.p.length := by omega
      have HF : Hid (DMoved L { D with f := setl (fun _ => true) 0 D.p D.f, p := [] } w (wr.setCell ⟨L.B, 1, none⟩ (.slice none 0 0))) := Lib.hid (by
        rw [List.take_length] at hd
        have hk4 : Keeps (fun k => k = L.B) wr (wr.setCell ⟨L.B, 1, none⟩ (.slice none 0 0)) := (Keeps.refl (fun k => k = L.B) wr).store (p := ⟨L.B, 1, none⟩) (.inl rfl) _
        refine ⟨.slice none 0 0, ⟨hd.obj.store 1 _, hk4.own hd.safe fun g hg e => own_ne_blk hd.obj hd.safe (by decide) (by rw [← (show g = L.B from e)]; exact hg), World.ownsRow_nil _ _ _ _, hd.n1, hd.n2, hd.fl, (by intro a ha; cases ha), (by intro a ha; cases ha), Nat.zero_le _, hd.o1, hd.o2, hd.l1, hd.l2, hd.f1, hd.f2⟩, fun g hg => by simp [Value.ownBlock] at hg, (hk.mono fun k _ e => .inr (.inl e)).trans (hk4.mono fun k _ e => .inl e)⟩)
      obtain ⟨d0, d1, _⟩ := hd.cells
      try dsimp only at d0 d1
      have hfr := hd.obj.free 1
      clear hd hk
      go_wp2_with fail
      go_end0
      exact ⟨⟨_, rfl⟩, HF.out⟩

/-- A slice of bools reads as xs. -/
def BoolRow (w : World) (a : Option Addr) (n : Nat) (xs : List Bool) : Prop :=
  xs.length = n ∧ ∀ i, i < n → ∃ b off, a = some ⟨b, off, none⟩ ∧ b < w.heap.size ∧ w.cell? ⟨b, off + i, none⟩ = some (.bool (xs.getD i false))
theorem BoolRow.keep {S : Nat → Prop} {w w' : World} {a : Option Addr} {n : Nat} {xs : List Bool} (h : BoolRow w a n xs) (hk : Keeps S w w') (hS : ∀ b off, a = some ⟨b, off, none⟩ → ¬ S b) : BoolRow w' a n xs := by
  refine ⟨h.1, fun i hi => ?_⟩
  obtain ⟨b, off, e, hb, hc⟩ := h.2 i hi
  exact ⟨b, off, e, Nat.lt_of_lt_of_le hb hk.size, (hk.cell (p := ⟨b, off + i, none⟩) hb (hS b off e)).trans hc⟩
/-- Which writes live. -/
def liveOf (xs : List Bool) (t : Nat) : Bool := xs.getD t false
/-- Crash's function value: those live that are kept. -/
theorem keep_fn (kb : Nat) (ka : Option Addr) (kn kc : Nat) (xs : List Bool) (t : Nat) (w : World) (hb : Blk w kb 30 [.slice ka kn kc]) (hr : BoolRow w ka kn xs) (hkn : kn ≤ 140737488355328) (ht : t ≤ 1000000) :
    Calls Try.prog 66 #[.int .i64 (t : Int), .pointer (some ⟨kb, 0, none⟩)] w fun e w' => e = .returned (.bool (liveOf xs t)) ∧ w = w' := by
  have c0 := hb.cell (i := 0) rfl
  by_cases hlt : t < kn
  · obtain ⟨b, off, rfl, hbl, hc⟩ := hr.2 t hlt
    have HE : Hid (liveOf xs t = xs.getD t false) := Lib.hid rfl
    generalize xs.getD t false = z at hc HE
    clear hr hb
    go_enter Try.func66, Try.ntmps66
    go_wp2
    go_ret
    exact ⟨by rw [HE.out]; rfl, rfl⟩
  · have HE : Hid (liveOf xs t = false) := Lib.hid (by unfold liveOf; rw [List.getD_eq_getElem?_getD, List.getElem?_eq_none (by rw [hr.1]; omega)]; rfl)
    have hd : decide ((t : Int) < (kn : Int)) = false := by simp; omega
    clear hr hb
    go_enter Try.func66, Try.ntmps66
    go_wp2
    go_ret
    exact ⟨by rw [HE.out]; rfl, rfl⟩

set_option maxRecDepth 100000 in
set_option maxHeartbeats 4000000 in
theorem settle_keep (L : DL) (D : DD) (w : World) (h : DkAt w L D) (kb : Nat) (ka : Option Addr) (kn kc : Nat) (xs : List Bool) (hkb : Blk w kb 30 [.slice ka kn kc]) (hkr : BoolRow w ka kn xs) (hka : ∀ b off, ka = some ⟨b, off, none⟩ → L.sv.ownBlock ≠ some b) (hkn : kn ≤ 140737488355328) :
    Calls Try.prog 64 #[L.ptr, .func (.func 66) #[] #[.pointer (some ⟨kb, 0, none⟩)]] w fun e w' => (∃ v, e = .returned v) ∧ DMoved L { D with f := setl (liveOf xs) 0 D.p D.f, p := [] } w w' := by
  have HD := Lib.hid h
  obtain ⟨pa, pc, hpv, hpc1, hpc2⟩ := own_slice h.pend
  obtain ⟨g, sc, hsv, hsc1, hsc2, hgl⟩ := own_some h.safe h.n1
  obtain ⟨c0, c1, _⟩ := h.cells
  have n2 := h.n2
  have pn := h.pn
  unfold maxLen at hpc2 hsc2
  rw [hsv] at c0
  rw [hpv] at c1
  have HPV := Lib.hid hpv
  have HSV := Lib.hid hsv
  have HS0 : Hid (DkAt w L { D with f := setl (liveOf xs) 0 (D.p.take 0) D.f } ∧ Keeps (fun k => L.sv.ownBlock = some k) w w) := Lib.hid ⟨h, Keeps.refl _ _⟩
  have hlB := h.obj.lt
  have HKB : Hid (∀ W, Keeps (fun k => L.sv.ownBlock = some k) w W → Blk W kb 30 [.slice ka kn kc] ∧ BoolRow W ka kn xs) := Lib.hid (fun W hk => ⟨hk.blk hkb (own_ne_blk hkb h.safe (by decide)), hkr.keep hk hka⟩)
  clear hkb hkr hka
  clear h hpv hsv
  unfold DL.ptr at *
  go_enter Try.func64, Try.ntmps64
  go_wp2_with fail
  go_loopw [11] (fun i wr => ∃ t : Nat, t ≤ D.p.length ∧ i = .int .i64 t ∧ DkAt wr L { D with f := setl (liveOf xs) 0 (D.p.take t) D.f } ∧ Keeps (fun k => L.sv.ownBlock = some k) w wr) (fun i _ => D.p.length - (intOf i).toNat)
  case atStart => exact ⟨0, Nat.zero_le _, rfl, HS0.out.1, HS0.out.2⟩
  case round =>
    obtain ⟨t, ht, rfl, hd, hk⟩ := hrel
    have HDt := Lib.hid hd
    have HKt := Lib.hid hk
    have hwr := hk.size
    by_cases hlt : t < D.p.length
    · obtain ⟨a, ha⟩ : ∃ a, D.p[t]? = some a := ⟨_, List.getElem?_eq_getElem hlt⟩
      have ham : a ∈ D.p := List.mem_of_getElem? ha
      have hal := hd.pl a ham
      have han := hd.pa a ham
      dsimp only at hal han
      obtain ⟨g2, pc2, hpv2, _, _, hg2⟩ := own_some hd.pend (by show 0 < D.p.length; omega)
      have hpe := hpv2
      rw [HPV.out] at hpe
      injection hpe with hpe1 _ hpe2
      subst hpe1
      subst hpe2
      have hrng : wr.rangeAt g2 (t * 65) (wrc a) := by
        have := hd.pend
        rw [hpv2] at this
        dsimp only at this
        rw [pflat_split ha] at this
        have h2 := own_range this
        rwa [pflat_len (fun b hb => hd.pl b (List.mem_of_mem_take hb)), List.length_take, Nat.min_eq_left ht] at h2
      have hr1 := hasRow_of hrng (n := 65) (wrc_len hal)
      have hr2 := rowAt_of hrng (n := 65) (wrc_len hal)
      obtain ⟨cv, hcv⟩ : ∃ cv, cv = wrc a := ⟨_, rfl⟩
      rw [← hcv] at hr2
      have hcl : cv.length = 65 := by rw [hcv]; exact wrc_len hal
      have hc1 : oneAll cv.toArray = true := by
        rw [hcv]
        unfold oneAll
        exact all_oneCell_toArray wrc_one
      obtain ⟨d0, d1, _⟩ := hd.cells
      try dsimp only at d0 d1
      rw [HSV.out] at d0
      have hlB2 : L.B < wr.heap.size := hd.obj.lt
      have hgS := hd.safe
      rw [HSV.out] at hgS
      have hglw : g < wr.heap.size := (own_heap hgS rfl).2.1
      have hthere : MayRow (wr.alloc (.cells cv.toArray 106)) g (a.1 * 64) 64 := by
        have h1 := own_there hgS (o := a.1 * 64) (m := 64) (by
          rw [flat_len hd.fl]
          show a.1 * 64 + 64 ≤ D.n * 64
          omega)
        exact World.there_alloc h1 _
      have hb0 : Blk (wr.alloc (.cells cv.toArray 106)) wr.heap.size 106 cv := Blk.new wr 106 cv
      have hx0 := hb0.cell (i := 0) (v := .int .i64 (a.1 : Int)) (by rw [hcv]; rfl)
      have hxr : (wr.alloc (.cells cv.toArray 106)).rangeAt wr.heap.size 1 (bk a.2) := by
        intro j v hv
        refine hb0.cell ?_
        rw [hcv, Nat.add_comm]
        exact hv
      have hx1 := hasRow_of hxr (n := 64) (by rw [bk_len]; exact hal)
      have hx2 := rowAt_of hxr (n := 64) (by rw [bk_len]; exact hal)
      obtain ⟨cb, hcb⟩ : ∃ cb, cb = bk a.2 := ⟨_, rfl⟩
      rw [← hcb] at hx2
      have hbl : cb.length = 64 := by rw [hcb, bk_len]; exact hal
      have hb1 : oneAll cb.toArray = true := by
        rw [hcb]
        unfold oneAll
        exact all_oneCell_toArray bk_one
      have HHA := Lib.hid ha
      have HCB := Lib.hid hcb
      have HCV := Lib.hid hcv
      have HAL := Lib.hid hal
      have HN : Hid (∀ W, W = (wr.alloc (.cells cv.toArray 106)).drew.setCells g (a.1 * 64) cb → DkAt W L { D with f := updF (setl (liveOf xs) 0 (D.p.take t) D.f) a.1 a.2 } ∧ Keeps (fun k => L.sv.ownBlock = some k) w W) := Lib.hid (fun W hW => by
        have hq : Keeps (fun _ => False) wr ((wr.alloc (.cells cv.toArray 106)).drew) := ((Keeps.refl _ _).alloc _).drew
        obtain ⟨s1, s2⟩ := safe_store (w' := W) (hd.quiet hq) HSV.out rfl han hal (hW.trans (by rw [HCB.out]))
        exact ⟨s1, (hk.trans (hq.mono fun _ _ h => h.elim)).trans s2⟩)
      have HQ : Hid (DkAt (wr.alloc (.cells cv.toArray 106)) L { D with f := setl (liveOf xs) 0 (D.p.take t) D.f } ∧ Keeps (fun k => L.sv.ownBlock = some k) w (wr.alloc (.cells cv.toArray 106))) := Lib.hid ⟨hd.quiet ((Keeps.refl _ _).alloc _), hk.alloc _⟩
      clear ham hd hk hpv2 hrng hxr hb0 hgS ha hcb hcv hal
      go_wp2_with fail
      refine (keep_fn kb ka kn kc xs t _ (HKB.out _ HQ.out.2).1 (HKB.out _ HQ.out.2).2 hkn (by omega)).mono ?_
      rintro e w2 ⟨rfl, rfl⟩
      by_cases hlv : liveOf xs t = true
      · rw [hlv]
        have HLV := Lib.hid hlv
        clear hlv
        go_wp2_with fail
        go_region
        all_goals
          go_wp2_with fail
          have HT : Hid (DkAt ((wr.alloc (.cells cv.toArray 106)).drew.setCells g (a.1 * 64) cb) L { D with f := setl (liveOf xs) 0 (D.p.take (t + 1)) D.f } ∧ Keeps (fun k => L.sv.ownBlock = some k) w ((wr.alloc (.cells cv.toArray 106)).drew.setCells g (a.1 * 64) cb)) := Lib.hid (by
            rw [setl_take HHA.out, if_pos HLV.out]
            exact HN.out _ rfl)
          generalize (wr.alloc (.cells cv.toArray 106)).drew.setCells g (a.1 * 64) cb = wn at HT ⊢
          go_roundw
          case rel => exact ⟨t + 1, by omega, by go_num, HT.out.1, HT.out.2⟩
          case measure => simp [intOf]; omega

      · have hlf : liveOf xs t = false := by simpa using hlv
        rw [hlf]
        have HLF := Lib.hid hlf
        clear hlv hlf
        go_wp2_with fail
        have HT : Hid (DkAt (wr.alloc (.cells cv.toArray 106)) L { D with f := setl (liveOf xs) 0 (D.p.take (t + 1)) D.f }) := Lib.hid (by
          rw [setl_take HHA.out, HLF.out]
          exact HQ.out.1)
        go_roundw
        case rel => exact ⟨t + 1, by omega, by go_num, HT.out, HQ.out.2⟩
        case measure => simp [intOf]; omega
    · obtain rfl : t = D.p.length := by omega
      have HF : Hid (DMoved L { D with f := setl (liveOf xs) 0 D.p D.f, p := [] } w (wr.setCell ⟨L.B, 1, none⟩ (.slice none 0 0))) := Lib.hid (by
        rw [List.take_length] at hd
        have hk4 : Keeps (fun k => k = L.B) wr (wr.setCell ⟨L.B, 1, none⟩ (.slice none 0 0)) := (Keeps.refl (fun k => k = L.B) wr).store (p := ⟨L.B, 1, none⟩) (.inl rfl) _
        refine ⟨.slice none 0 0, ⟨hd.obj.store 1 _, hk4.own hd.safe fun g hg e => own_ne_blk hd.obj hd.safe (by decide) (by rw [← (show g = L.B from e)]; exact hg), World.ownsRow_nil _ _ _ _, hd.n1, hd.n2, hd.fl, (by intro a ha; cases ha), (by intro a ha; cases ha), Nat.zero_le _, hd.o1, hd.o2, hd.l1, hd.l2, hd.f1, hd.f2⟩, fun g hg => by simp [Value.ownBlock] at hg, (hk.mono fun k _ e => .inr (.inl e)).trans (hk4.mono fun k _ e => .inl e)⟩)
      obtain ⟨d0, d1, _⟩ := hd.cells
      try dsimp only at d0 d1
      have hfr := hd.obj.free 1
      clear hd hk
      go_wp2_with fail
      go_end0
      exact ⟨⟨_, rfl⟩, HF.out⟩
end Go.Proofs.Ytjiammhmeliogaa
