/- Read: what a sector holds. -/
import Derived.Test.YtjiammhmeliogaaHolds
import Derived.BigFrameIn
namespace Go.Proofs.Ytjiammhmeliogaa
open Go.RowKit Go.Shelf
set_option linter.unusedVariables false
set_option linter.unusedSimpArgs false

attribute [local go_sem] Oper.semAt_some
theorem sem_build27 (ro : Option Nat) (ρ : Operand → Value) (dst : Option Tmp) (ty : TypeId) (pos : String) (after : Array Edge) (guard : Option (Nat × Bool)) (w : World) :
    (Oper.semAt ro ρ ⟨dst, .build 27 #[], ty, pos, after, guard⟩).run Try.prog w = .ok (.value (.agg (bk zb).toArray)) w := by
  rw [Oper.semAt_eq _ _ _ (fun c hc => by cases hc)]
  have hr := run_build (P := Try.prog) w 27 #[] (bk zb).toArray (by kernel_rfl)
  unfold execOp
  simp only [List.map_toArray, List.map_nil, Sem.run_bind, hr, Result.andThen_ok, Sem.run_pure]
theorem sem_alloc27 (ro : Option Nat) (ρ : Operand → Value) (dst : Option Tmp) (ty : TypeId) (pos : String) (after : Array Edge) (guard : Option (Nat × Bool)) (w : World) :
    (Oper.semAt ro ρ ⟨dst, .alloc 27, ty, pos, after, guard⟩).run Try.prog w = .ok (.value (.pointer (some ⟨w.heap.size, 0, none⟩))) (w.alloc (.cells (bk zb).toArray 27)) := by
  rw [Oper.semAt_eq _ _ _ (fun c hc => by cases hc)]
  obtain ⟨it, z, h1, h2, h3, h4, h5⟩ := info27
  have hz : (zeroValue 27).run Try.prog w = .ok z w := by simp [zeroValue, typeInfo, h1, h2]
  unfold execOp
  simp [Instr.alloc, newVar, newRow, hz, h3]
attribute [local go_sem ↓] sem_load106 sem_load27 sem_store27 sem_new106 sem_build27 sem_alloc27
attribute [local go_sem] mayRow_drew padr_some rowAt_drew hasRow_drew zc_size

theorem putObj_keeps (E : World) (D : Nat) (o : Obj) : Keeps (fun k => k = D) E (E.putObj D o) :=
  (Keeps.of_grown (grownBy_putObj' E D o)).mono fun k _ h => by cases h; rfl

/-- On the way out the loop's block is shut. -/
theorem one_out {P : Program} {F : Fence} {n : Nat} {fn : Func} {tmps : Array Value} {R : Ending → World → Prop} {E : World} {D : Nat}
    (k1 : E.heap[D]? = some (.deferred (some []))) (h : ∀ E', Keeps (fun k => k = D) E E' → LeavesIn F n P fn tmps R [] .returning E') :
    LeavesInM F n P fn tmps R [{ target := .collected D, args := #[] }] .returning E :=
  ⟨by simp, .inl ⟨_, _, rfl, run_takeDeferred k1, h _ (putObj_keeps E D (.deferred none))⟩⟩

/-- Read's two results. -/
theorem read_results (b2 b3 : Nat) (cs : List Value) (v : Value) (tmps : Array Value) (w : World) (h4 : tmps.getD 4 undef = .pointer (some ⟨b2, 0, none⟩)) (h5 : tmps.getD 5 undef = .pointer (some ⟨b3, 0, none⟩)) (hc : cs.length = 64) (h2 : Blk w b2 27 cs) (h3 : w.cell? ⟨b3, 0, none⟩ = some v) :
    (results Try.f27 tmps).run Try.prog w = .ok (.tuple #[.agg cs.toArray, v]) w := by
  have hl := run_loadVar_mid (P := Try.prog) w b2 0 27 cs _ (fun j u hu => by rw [Nat.zero_add]; exact h2.cell hu) Try.underlying27 rfl (row27 cs hc)
  have hl2 : (loadVar 38 ⟨b3, 0, none⟩).run Try.prog w = .ok v w := by
    simp [loadVar, isAgg, run_underlying Try.underlying38, load, h3, go_sem, Sem.run]
  have h4' : tmps[4]?.getD undef = .pointer (some ⟨b2, 0, none⟩) := by simpa using h4
  have h5' : tmps[5]?.getD undef = .pointer (some ⟨b3, 0, none⟩) := by simpa using h5
  simp [results, Try.f27, h4', h5', asAddr, hl, hl2]

/-- What is there when Read returns. -/
structure RdS (w : World) (L : DL) (D' : DD) (b2 b3 : Nat) (cs : List Value) (c : Int) (W : World) : Prop where
  r2 : Blk W b2 27 cs
  r3 : Blk W b3 38 [.int .i64 c]
  at_ : DkAt W L D'
  keeps : Keeps (fun k => k = L.B ∨ w.heap.size ≤ k) w W

theorem rds_own {β : Type} (B : Nat) {w : World} (L : DL) (D' : DD) (b2 b3 : Nat) (cs : List Value) (c : Int) (hB : w.heap.size ≤ B) : OwnFrom B (fun (_ : β) W => RdS w L D' b2 b3 cs c W) := by
  intro s X Y row hs hg hr
  have hk : Keeps (fun k => row = some k) X Y := Keeps.of_grown hg
  have hnc : ∀ k cur t, X.heap[k]? = some (.cells cur t (0, 0)) → ¬ (row = some k) := by
    intro k cur t hc e
    obtain ⟨_, o, ho, hno⟩ := hr k e
    rw [hc] at ho
    cases ho
    cases hno
  refine ⟨hk.blk hs.r2 (hnc _ _ _ hs.r2), hk.blk hs.r3 (hnc _ _ _ hs.r3), hs.at_.keep hk fun k hkk => ?_, hs.keeps.trans (hk.mono fun k _ e => .inr (Nat.le_trans hB (hr k e).1))⟩
  rcases hkk with rfl | hkk | hkk
  · exact hnc _ _ _ hs.at_.obj
  · obtain ⟨_, _, cur, hc⟩ := own_heap hs.at_.safe hkk
    exact hnc _ _ _ hc
  · obtain ⟨_, _, cur, hc⟩ := own_heap hs.at_.pend hkk
    exact hnc _ _ _ hc

theorem setCells_others (g : Nat) : ∀ (vs : List Value) (o : Nat) (w : World), KeepsOthers w (w.setCells g o vs)
  | [], o, w => KeepsOthers.refl _
  | v :: r, o, w => (KeepsOthers.setCell w ⟨g, o, none⟩ v).trans (setCells_others g r (o + 1) _)

theorem RdS.fin {w : World} {L : DL} {D' : DD} {b2 b3 : Nat} {cs : List Value} {c : Int} {W E : World} {D : Nat} (h : RdS w L D' b2 b3 cs c W) (hD : W.heap[D]? = some (.deferred (some []))) (hw : w.heap.size ≤ D) (hk : Keeps (fun k => k = D) W E) : RdS w L D' b2 b3 cs c E := by
  have hnc : ∀ k cur t, W.heap[k]? = some (.cells cur t (0, 0)) → ¬ (k = D) := by
    rintro k cur t hc rfl
    rw [hc] at hD
    cases hD
  refine ⟨hk.blk h.r2 (hnc _ _ _ h.r2), hk.blk h.r3 (hnc _ _ _ h.r3), h.at_.keep hk fun k hkk => ?_, h.keeps.trans (hk.mono fun k _ e => .inr (by rw [show k = D from e]; exact hw))⟩
  rcases hkk with rfl | hkk | hkk
  · exact hnc _ _ _ h.at_.obj
  · obtain ⟨_, _, cur, hc⟩ := own_heap h.at_.safe hkk
    exact hnc _ _ _ hc
  · obtain ⟨_, _, cur, hc⟩ := own_heap h.at_.pend hkk
    exact hnc _ _ _ hc

/-- What Read hands back. -/
def ReadP (L : DL) (b : List Int) (c : Int) (D' : DD) (w : World) (e : Ending) (w' : World) : Prop := e = .returned (.tuple #[.agg (bk b).toArray, .int .i64 c]) ∧ DkAt w' L D' ∧ Keeps (fun k => k = L.B) w w'

theorem RdS.post {w : World} {L : DL} {D' : DD} {b2 b3 : Nat} {b : List Int} {c : Int} {W : World} (h : RdS w L D' b2 b3 (bk b) c W) : ReadP L b c D' w (.returned (.tuple #[.agg (bk b).toArray, .int .i64 c])) W :=
  ⟨rfl, h.at_, h.keeps.mono fun k hk e => e.elim id fun e => absurd e (Nat.not_le.2 hk)⟩

/-- A block stored over the whole of a block of its own. -/
theorem blk_over {w : World} {g : Nat} {old cs : List Value} (h : Blk w g 27 old) (hl : cs.length = old.length) : Blk (w.setCells g 0 cs) g 27 cs := by
  obtain ⟨cur', h1, h2⟩ := setCells_heap g 27 cs 0 w old.toArray h (by simp; omega)
  unfold Blk
  rw [h1]
  congr 2
  apply Array.ext'
  rw [h2]
  simp [hl]

/-- The results are filled. -/
theorem rds_mk {w w1 : World} {L : DL} {D' : DD} {b2 b3 : Nat} {old cs : List Value} {v : Value} {c : Int} (hown : ∀ k, L.own k → k < w.heap.size) (h2 : Blk w1 b2 27 old) (h3 : Blk w1 b3 38 [v]) (hd : DkAt w1 L D') (hk : Keeps (fun k => k = L.B ∨ w.heap.size ≤ k) w w1)
    (e2 : b2 = w.heap.size + 1 + 1) (e3 : b3 = w.heap.size + 1 + 1 + 1) (hc : cs.length = 64) (ho : old.length = 64) :
    RdS w L D' b2 b3 cs c ((w1.setCells b2 0 cs).setCell ⟨b3, 0, none⟩ (.int .i64 c)) := by
  have hne : b2 ≠ b3 := by omega
  have k1 := setCells_keeps b2 cs 0 w1
  have k2 : Keeps (fun k => k = b3) (w1.setCells b2 0 cs) ((w1.setCells b2 0 cs).setCell ⟨b3, 0, none⟩ (.int .i64 c)) := (Keeps.refl (fun k => k = b3) _).store (p := ⟨b3, 0, none⟩) (.inl rfl) _
  have x2 := blk_over h2 (cs := cs) (by omega)
  have x3 := k1.blk h3 (fun e => hne e.symm)
  refine ⟨k2.blk x2 hne, x3.store 0 (.int .i64 c), (hd.keep k1 fun k hkk e => ?_).keep k2 fun k hkk e => ?_, (hk.trans (k1.mono fun k _ e => .inr ?_)).trans (k2.mono fun k _ e => .inr ?_)⟩
  · have := hown k hkk
    have e' : k = b2 := e
    omega
  · have := hown k hkk
    have e' : k = b3 := e
    omega
  · have e' : k = b2 := e
    omega
  · have e' : k = b3 := e
    omega

theorem four_new (w : World) (a b c : Value) (cs : List Value) (W0 : World) (hW : W0 = (((w.alloc (.cells #[a] 24)).alloc (.cells #[b] 3)).alloc (.cells cs.toArray 27)).alloc (.cells #[c] 38)) :
    Blk W0 w.heap.size 24 [a] ∧ Blk W0 (w.heap.size + 1) 3 [b] ∧ Blk W0 (w.heap.size + 1 + 1) 27 cs ∧ Blk W0 (w.heap.size + 1 + 1 + 1) 38 [c] ∧ W0.heap.size = w.heap.size + 4 ∧ Keeps (fun _ => False) w W0 := by
  obtain ⟨h1, h2, h3⟩ := three_new w a b cs
  subst hW
  refine ⟨h1.alloc _, h2.alloc _, h3.alloc _, ?_, by simp, (((((Keeps.refl _ w).alloc _).alloc _).alloc _).alloc _)⟩
  have := Blk.new (((w.alloc (.cells #[a] 24)).alloc (.cells #[b] 3)).alloc (.cells cs.toArray 27)) 38 [c]
  rwa [World.size_alloc, World.size_alloc, World.size_alloc] at this

/-- One more operation is counted; the block is laid as the answer. -/
theorem read_turn {w w1 W : World} {L : DL} {D1 : DD} {b2 b3 : Nat} {cs : List Value} (hown : ∀ k, L.own k → k < w.heap.size) (hd : DkAt w1 L D1) (hk : Keeps (fun k => k = L.B ∨ w.heap.size ≤ k) w w1)
    (h2 : Blk w1 b2 27 (bk zb)) (h3 : Blk w1 b3 38 [.int .i64 0]) (e2 : b2 = w.heap.size + 1 + 1) (e3 : b3 = w.heap.size + 1 + 1 + 1) (hW : Keeps (fun _ => False) w1 W) (hop : D1.ops < 1000000000000) (hc : cs.length = 64) :
    RdS w L { D1 with ops := D1.ops + 1 } b2 b3 cs 0 (((W.setCell ⟨L.B, 6, none⟩ (.int .i64 (D1.ops + 1))).setCells b2 0 cs).setCell ⟨b3, 0, none⟩ (.int .i64 0)) ∧
      MayRow (W.setCell ⟨L.B, 6, none⟩ (.int .i64 (D1.ops + 1))) b2 0 64 ∧
      ((W.setCell ⟨L.B, 6, none⟩ (.int .i64 (D1.ops + 1))).setCells b2 0 cs).cell? ⟨b3, 0, none⟩ = some (.int .i64 0) ∧
      ((W.setCell ⟨L.B, 6, none⟩ (.int .i64 (D1.ops + 1))).setCells b2 0 cs).frozen? ⟨b3, 0, none⟩ = false := by
  have hBl := hown L.B (.inl rfl)
  have hd' := hd.quiet hW
  have k1 : Keeps (fun k => k = L.B) W (W.setCell ⟨L.B, 6, none⟩ (.int .i64 (D1.ops + 1))) := (Keeps.refl (fun k => k = L.B) W).store (p := ⟨L.B, 6, none⟩) (.inl rfl) _
  have hd1 : DkAt (W.setCell ⟨L.B, 6, none⟩ (.int .i64 (D1.ops + 1))) L { D1 with ops := D1.ops + 1 } := by
    have o1 := hd.o1
    refine hd'.turn k1 (hd'.obj.store 6 _) rfl rfl rfl ?_ ?_ hd.l1 hd.l2 hd.f1 hd.f2
    · show 0 ≤ D1.ops + 1
      omega
    · show D1.ops + 1 ≤ 1000000000000
      omega
  have x2 := k1.blk (hW.blk h2 id) (show ¬ (b2 = L.B) by omega)
  have x3 := k1.blk (hW.blk h3 id) (show ¬ (b3 = L.B) by omega)
  have hz64 : (bk zb).length = 64 := by rw [bk_len, zb_len]
  have hks := setCells_keeps b2 cs 0 (W.setCell ⟨L.B, 6, none⟩ (.int .i64 (D1.ops + 1)))
  refine ⟨rds_mk (old := bk zb) (v := .int .i64 0) hown x2 x3 hd1 ((hk.trans (hW.mono fun _ _ h => h.elim)).trans (k1.mono fun k _ e => .inl e)) e2 e3 hc hz64, fun j hj => ⟨?_, ?_⟩, ?_, ?_⟩
  · rw [Nat.zero_add, x2.cell (List.getElem?_eq_getElem (by omega))]
    rfl
  · rw [Nat.zero_add]
    exact x2.free j
  · exact (hks.cell (p := ⟨b3, 0, none⟩) x3.lt (by show ¬ (b3 = b2); omega)).trans (x3.cell (i := 0) rfl)
  · exact (hks.frozen (p := ⟨b3, 0, none⟩) x3.lt (by show ¬ (b3 = b2); omega)).trans (x3.free 0)

set_option maxRecDepth 100000 in
set_option maxHeartbeats 4000000 in
theorem read_any (L : DL) (D : DD) (w : World) (h : DkAt w L D) (hop : D.ops < 1000000000000) (i : Int) : Calls Try.prog 27 #[L.ptr, .int .i64 i] w (ReadP L (D.read i).1 (D.read i).2.1 (D.read i).2.2 w) := by
  refine (callsIn_wide (n := 3)).1 ?_
  have h1 : 1 ≤ 3 := by omega
  refine callsIn_of_wp_marks Try.func27 rfl trivial ?_ rfl
  simp only [Try.ntmps27, List.size_toArray, List.length_cons, List.length_nil, Nat.reduceAdd, Nat.reduceSub, Array.replicate_succ, Array.replicate_zero, List.push_toArray, List.append_toArray, List.nil_append, List.cons_append]
  obtain ⟨W0, hW0⟩ : ∃ W0, W0 = (((w.alloc (.cells #[L.ptr] 24)).alloc (.cells #[.int .i64 i] 3)).alloc (.cells (bk zb).toArray 27)).alloc (.cells #[.int .i64 0] 38) := ⟨_, rfl⟩
  obtain ⟨q1, q2, q3, q4, hs0, hk0⟩ := four_new w L.ptr (.int .i64 i) (.int .i64 0) (bk zb) W0 hW0
  have HR := Lib.hid (ready_any L D W0 (h.quiet hk0) i)
  have HC := Lib.hid (ready_cases D i)
  have HS := Lib.hid (ready_same D i)
  have hlB := h.obj.lt
  have HOWN := Lib.hid h.lt
  obtain ⟨c, hc⟩ : ∃ c, c = (D.ready i).1 := ⟨_, rfl⟩
  obtain ⟨D1, hD1⟩ : ∃ D1, D1 = (D.ready i).2 := ⟨_, rfl⟩
  rw [← hc, ← hD1] at HR
  rw [← hc] at HC
  rw [← hD1] at HS
  have HE : Hid (D.read i = if c ≠ 0 then (zb, c, D1) else (D.holds i.toNat, 0, { D1 with ops := D.ops + 1 })) := Lib.hid (by
    unfold DD.read
    rw [hc, hD1])
  have HB0 : Hid (∀ w1, Keeps (fun k => k = L.B) W0 w1 → Blk w1 w.heap.size 24 [L.ptr] ∧ Blk w1 (w.heap.size + 1) 3 [.int .i64 i] ∧ Blk w1 (w.heap.size + 1 + 1) 27 (bk zb) ∧ Blk w1 (w.heap.size + 1 + 1 + 1) 38 [.int .i64 0]) := Lib.hid (fun w1 hk =>
    ⟨hk.blk q1 (by show ¬ (_ = L.B); omega), hk.blk q2 (by show ¬ (_ = L.B); omega), hk.blk q3 (by show ¬ (_ = L.B); omega), hk.blk q4 (by show ¬ (_ = L.B); omega)⟩)
  have HK0 := Lib.hid hk0
  have hsz : w.heap.size + 4 ≤ W0.heap.size := by omega
  have hzl := zb_len
  have hz64 : (bk zb).length = 64 := by rw [bk_len, zb_len]
  clear hc hD1 hk0 q1 q2 q3 q4 hs0 h
  unfold DL.ptr at *
  gi_wp2
  refine ⟨trivial, ?_⟩
  rw [← hW0]
  clear hW0
  refine (callsIn_wide.2 HR.out).mono ?_
  rintro e w1 ⟨rfl, hd1, hk1⟩
  have hs1 := hk1.size
  obtain ⟨b0, b1, b2, b3⟩ := HB0.out w1 hk1
  have HD1 := Lib.hid hd1
  have HK1 : Hid (Keeps (fun k => k = L.B ∨ w.heap.size ≤ k) w w1) := Lib.hid ((HK0.out.mono fun _ _ h => h.elim).trans (hk1.mono fun k _ e => .inl e))
  have x0 := b0.cell (i := 0) rfl
  have x1 := b1.cell (i := 0) rfl
  have y3 := b3.cell (i := 0) rfl
  have z3 := b3.free 0
  have HX0 := Lib.hid b0
  have HX1 := Lib.hid b1
  have HX2 := Lib.hid b2
  have HX3 := Lib.hid b3
  have hmay : MayRow w1 (w.heap.size + 1 + 1) 0 64 := fun j hj => ⟨by rw [Nat.zero_add, b2.cell (List.getElem?_eq_getElem (by omega))]; rfl, by rw [Nat.zero_add]; exact b2.free j⟩
  clear hd1 hk1 b0 b1 b2 b3
  by_cases hc : c = 0
  · subst hc
    have hle : 0 ≤ i ∧ i < D.n := by
      rcases HC.out with h | h
      · exact absurd rfl h
      · exact h.2
    obtain ⟨m, rfl⟩ : ∃ m : Nat, i = (m : Int) := ⟨i.toNat, by omega⟩
    have hm : m < D.n := by omega
    have hod : D1.ops = D.ops := HS.out.2.2.2.2.2.2
    have h0o := HD1.out.o1
    have hop1 : D1.ops < 1000000000000 := by omega
    rw [← hod] at HE
    obtain ⟨pa, pc, hpv, _⟩ := own_slice HD1.out.pend
    have HPV := Lib.hid hpv
    obtain ⟨sa, sc, hsv, hsc, hsm⟩ := own_slice HD1.out.safe
    have hDn : D1.n = D.n := HS.out.1
    obtain ⟨c0, c1, c2, c3, c4, c5, c6⟩ := HD1.out.cells
    have k6 := HD1.out.obj.free 6
    have HNE : Hid (∀ W, Keeps (fun _ => False) w1 W → Blk W (w.heap.size + 1) 3 [.int .i64 (m : Int)] ∧ Blk W w.heap.size 24 [.pointer (some ⟨L.B, 0, none⟩)] ∧ DkAt W L D1) := Lib.hid (fun W hk => ⟨hk.blk HX1.out id, hk.blk HX0.out id, HD1.out.quiet hk⟩)
    clear hle hpv hsv c0 c2 c3 c4 c5 hod
    gi_wp2_with (refine ⟨trivial, ?_⟩; gi_at_call 58; refine (callsIn_wide.2 (backward_any L.pv w1 ⟨_, _, _, HPV.out⟩)).mono ?_; rintro e w2 ⟨rfl, rfl⟩)
    have X2 : Blk (w1.alloc (.cells #[L.pv] 93)) w1.heap.size 93 [L.pv] := Blk.new w1 93 [L.pv]
    have hpd2 : (w1.alloc (.cells #[L.pv] 93)).ownsRow 0 106 65 L.pv D1.p.length (pflat D1.p) := (HD1.out.quiet ((Keeps.refl _ _).alloc _)).pend
    have hsz2 : (w1.alloc (.cells #[L.pv] 93)).heap.size = w1.heap.size + 1 := by simp
    refine wpIn_rangeFunc_ownH rfl h1 (gf := 85) (lb := #[.pointer (some ⟨w1.heap.size, 0, none⟩)]) rfl trivial (enters_of Try.func85 (by kernel_rfl) rfl)
      (back_stops Fence.wide (3 - 1) trivial rfl (by omega) w1.heap.size D1.p L.pv HD1.out.pn HD1.out.pl (w1.alloc (.cells #[L.pv] 93)) (w1.alloc (.cells #[L.pv] 93)) X2 hpd2 (Below.refl _ _)) belowK_t (belowK_b (Nat.le_refl _)) (Below.refl _ _) (fun _ => rfl)
      (fun pre W => (∀ y ∈ pre, y.2.1 ≠ m) ∧ Below (w1.alloc (.cells #[L.pv] 93)).heap.size (w1.alloc (.cells #[L.pv] 93)) W)
      (fun c pre W => c = .ret ∧ ∃ pre0 x, pre = pre0 ++ [x] ∧ (∀ y ∈ pre0, y.2.1 ≠ m) ∧ x.2.1 = m ∧ RdS w L { D1 with ops := D1.ops + 1 } (w.heap.size + 1 + 1) (w.heap.size + 1 + 1 + 1) (bk (nbw x.2).2) 0 W)
      (OwnFrom.and (ownFrom_pure _ _) (ownFrom_below (Nat.le_refl _) (Nat.le_refl _))) ?ixo ⟨fun y hy => absurd hy (by simp), Below.refl _ _⟩
      (fun x a' W => ∃ Bx, w1.heap.size < Bx ∧ Blk W Bx 106 (wrc (nbw x.2)) ∧ a' = {
        tmps := #[.pointer (some ⟨L.B, 0, none⟩), .int .i64 (m : Int), .pointer (some ⟨w.heap.size, 0, none⟩), .pointer (some ⟨w.heap.size + 1, 0, none⟩), .pointer (some ⟨w.heap.size + 1 + 1, 0, none⟩), .pointer (some ⟨w.heap.size + 1 + 1 + 1, 0, none⟩), .int .i64 0, undef, .pointer (some ⟨Bx, 0, none⟩),
          .pointer (some ⟨L.B, 0, none⟩), .int .i64 (m : Int), .int .i64 0, .int .i64 0, .bool false, undef, undef, .pointer (some ⟨L.B, 0, none⟩), .pointer (some ⟨L.B, 0, none⟩), .pointer (some ⟨L.B, 1, none⟩), L.pv, .func (.func 85) #[] #[.pointer (some ⟨w1.heap.size, 0, none⟩)],
          .int .i64 (x.1 : Int), .agg (wrc (nbw x.2)).toArray, undef, undef, undef, undef, undef, undef, undef, undef, undef, undef, undef, undef, undef, undef, undef, undef, undef, undef, undef, undef, undef, undef, undef, undef, undef, undef, undef], defers := [] })
      ?axo ?assign ?body ?done ?stop
    case ixo =>
      intro c s X Y row hs hg hr
      obtain ⟨rfl, pre0, x, h2, h3, h4, h5⟩ := hs
      exact ⟨rfl, pre0, x, h2, h3, h4, rds_own (β := Unit) (w1.alloc (.cells #[L.pv] 93)).heap.size L _ _ _ _ _ (by omega) () X Y row h5 hg hr⟩
    case axo =>
      intro x a' _ X Y row hs hg hr
      obtain ⟨Bx, h2, h3, h4⟩ := hs
      refine ⟨Bx, h2, (Keeps.of_grown hg).blk h3 (fun e => ?_), h4⟩
      obtain ⟨_, o, ho, hno⟩ := hr Bx e
      rw [show X.heap[Bx]? = _ from h3] at ho
      cases ho
      cases hno
    case assign =>
      rintro l pre x W K ⟨hno, hB⟩ hK
      have hw65 : (wrc (nbw x.2)).length = 65 := wrc_len (nbw_len _)
      have hw1 : oneAll (wrc (nbw x.2)).toArray = true := all_oneCell_toArray wrc_one
      unfold encW
      gi_wp2
      exact hK _ _ ((KeepsOthers.alloc _ _).from _) ((Below.refl _ W).alloc hB.size _) ⟨hno, hB.alloc hB.size _⟩ ⟨W.heap.size, by have := hB.size; omega, Blk.new W 106 _, rfl⟩
    case body =>
      rintro l pre x a' W hl _ ⟨hno, hB⟩ ⟨Bx, hBx, bX, rfl⟩ hlt
      have hkW : Keeps (fun _ => False) w1 W := ((Keeps.refl _ w1).alloc _).trans (Below.keeps hB)
      obtain ⟨n1, n0, nd⟩ := HNE.out W hkW
      have hlBx : L.B ≠ Bx := by omega
      have u0 := n0.cell (i := 0) rfl
      have u1 := n1.cell (i := 0) rfl
      have u6 := (nd.cells).2.2.2.2.2.2
      have t6 := nd.obj.free 6
      have bx0 : W.cell? ⟨Bx, 0, none⟩ = some (.int .i64 (x.2.1 : Int)) := by
        have := bX.cell (i := 0) (v := .int .i64 ((nbw x.2).1 : Int)) rfl
        rwa [nbw_fst] at this
      have HNO := Lib.hid hno
      have HBB := Lib.hid hB
      have HT := fun cs (hc : cs.length = 64) => read_turn (cs := cs) HOWN.out HD1.out HK1.out HX2.out HX3.out rfl rfl hkW (by omega) hc
      by_cases hx : x.2.1 = m
      · have hbk : (bk (nbw x.2).2).length = 64 := by rw [bk_len]; exact nbw_len _
        obtain ⟨hfin, hm2, hc3, hf3⟩ := HT (bk (nbw x.2).2) hbk
        have hbx : (W.setCell ⟨L.B, 6, none⟩ (.int .i64 (D1.ops + 1))).rangeAt Bx 1 (bk (nbw x.2).2) := by
          intro j v hv
          exact (bX.other (p := ⟨L.B, 6, none⟩) (fun e => hlBx e.symm) _).cell (by rw [show 1 + j = j + 1 by omega]; exact hv)
        have hg1 := hasRow_of hbx hbk
        have hg2 := rowAt_of hbx hbk
        have hone : oneAll (bk (nbw x.2).2).toArray = true := all_oneCell_toArray bk_one
        have HFN := Lib.hid hfin
        have HX := Lib.hid hx
        rw [hx] at bx0
        clear hfin hbx HT hkW hB nd n0 n1 bX hx hno
        gi_wp2
        exact ⟨(((KeepsOthers.setCell W _ _).trans (setCells_others _ _ _ _)).trans (KeepsOthers.setCell _ _ _)).from _, rfl, pre, x, rfl, HNO.out, HX.out, HFN.out⟩
      · have hxne : ((x.2.1 : Int) == (m : Int)) = false := by rw [beq_eq_false_iff_ne]; omega
        have HX := Lib.hid hx
        clear hx HT hkW hB nd n0 n1 bX hno
        gi_wp2
        refine ⟨(KeepsOthers.refl _).from _, Below.refl _ _, fun y hy => ?_, HBB.out⟩
        rcases List.mem_append.1 hy with hy | hy
        · exact HNO.out y hy
        · rw [List.mem_singleton.1 hy]; exact HX.out
    case done =>
      rintro D2 ys W hD rfl ⟨hno, hB⟩ hK
      have hkW : Keeps (fun _ => False) w1 W := ((Keeps.refl _ w1).alloc _).trans (Below.keeps hB)
      obtain ⟨n1, n0, nd⟩ := HNE.out W hkW
      have u0 := n0.cell (i := 0) rfl
      have u1 := n1.cell (i := 0) rfl
      have u6 := (nd.cells).2.2.2.2.2.2
      have us := (nd.cells).1
      have t6 := nd.obj.free 6
      obtain ⟨sa, sc, hsv, hsc, hsm⟩ := own_slice nd.safe
      have hmD : m < D1.n := by omega
      have hpos : 0 < D1.n := by omega
      obtain ⟨g, cap, hsv, _, _, hgl⟩ := own_some nd.safe hpos
      have hbl : (D1.f m).length = 64 := nd.fl m hmD
      have HM := Lib.hid (read_turn (cs := bk (D1.f m)) HOWN.out HD1.out HK1.out HX2.out HX3.out rfl rfl hkW hop1 (by rw [bk_len]; exact hbl)).2.1
      have HF := Lib.hid (read_turn (cs := bk (D1.f m)) HOWN.out HD1.out HK1.out HX2.out HX3.out rfl rfl hkW.drew hop1 (by rw [bk_len]; exact hbl))
      have hrow : W.rangeAt g (m * 64) (bk (D1.f m)) := by
        have h1 := nd.safe
        rw [hsv] at h1
        obtain ⟨post, hp⟩ := flat_split D1.f hmD
        rw [hp D1.f (fun _ _ _ => rfl)] at h1
        have h2 := own_range h1
        rwa [flat_len (fun j hj => nd.fl j (by omega))] at h2
      have hgB : g ≠ L.B := fun e => own_ne_blk nd.obj nd.safe (by decide) (by rw [hsv, e]; rfl)
      have hrow' : (W.setCell ⟨L.B, 6, none⟩ (.int .i64 (D1.ops + 1))).rangeAt g (m * 64) (bk (D1.f m)) := by
        intro j v hv
        rw [World.cell?_setCell_far _ _ _ _ (fun e => hgB e.symm)]
        exact hrow j v hv
      have hg1 := hasRow_of hrow' (n := 64) (by rw [bk_len]; exact hbl)
      have hg2 := rowAt_of hrow' (n := 64) (by rw [bk_len]; exact hbl)
      have hone : oneAll (bk (D1.f m)).toArray = true := all_oneCell_toArray bk_one
      have hbk : (bk (D1.f m)).length = 64 := by rw [bk_len]; exact hbl
      have us' := (World.cell?_setCell_far W ⟨L.B, 6, none⟩ ⟨L.B, 0, none⟩ (.int .i64 (D1.ops + 1)))
      rw [hsv] at us
      have HNO := Lib.hid hno
      have HK := Lib.hid hK
      have hlt1 : (m : Int) < (D1.n : Int) := by omega
      clear us' hno hK hrow hrow' n1 n0 nd hkW hB
      gi_wp2
      obtain ⟨V, hV⟩ : ∃ V, V = W.setCell ⟨L.B, 6, none⟩ (.int .i64 (D1.ops + 1)) := ⟨_, rfl⟩
      have v0 : V.cell? ⟨w.heap.size, 0, none⟩ = some (.pointer (some ⟨L.B, 0, none⟩)) := by
        rw [hV, World.cell?_setCell_far _ _ _ _ (by show L.B ≠ w.heap.size; omega)]; exact u0
      have v1 : V.cell? ⟨w.heap.size + 1, 0, none⟩ = some (.int .i64 (m : Int)) := by
        rw [hV, World.cell?_setCell_far _ _ _ _ (by show L.B ≠ w.heap.size + 1; omega)]; exact u1
      have vs : V.cell? ⟨L.B, 0, none⟩ = some (.slice (some ⟨g, 0, none⟩) D1.n cap) := by
        rw [hV]; exact (World.cell?_setCell_other W (.int .i64 (D1.ops + 1)) (a := ⟨L.B, 6, none⟩) (b := ⟨L.B, 0, none⟩) (fun e => by injection e with _ h2; exact absurd h2 (by decide))).trans us
      have eD : W.drew.setCell ⟨L.B, 6, none⟩ (.int .i64 (D1.ops + 1)) = V.drew := by rw [hV]; rfl
      rw [← hV] at hg1 hg2 HM
      rw [eD] at HF
      have hm2 := HM.out
      obtain ⟨hfin, _, hc3, hf3⟩ := HF.out
      have HFN := Lib.hid hfin
      have HKV : Hid (V.heap[D2]? = some (.deferred (some []))) := Lib.hid (by rw [hV]; exact (KeepsOthers.setCell W _ _).same D2 _ HK.out rfl)
      clear hfin HF HM eD
      rw [← hV]
      clear u0 u1 us u6 t6 hV
      gi_region
      gi_wp2
      have hKE := ((setCells_others (w.heap.size + 1 + 1) (bk (D1.f m)) 0 V.drew).trans (KeepsOthers.setCell _ ⟨w.heap.size + 1 + 1 + 1, 0, none⟩ (.int .i64 0))).same D2 (.deferred (some [])) HKV.out rfl
      refine one_out hKE fun E hkE => ?_
      have hf := HFN.out.fin hKE (by omega) hkE
      have hhd : D.holds (((m : Nat) : Int)).toNat = D1.f m := by
        rw [Int.toNat_natCast, HS.out.2.1]
        refine holds_none fun y hy => ?_
        refine HNO.out y ?_
        rw [HS.out.2.2.1]
        exact hy
      have hg := hf.r3.cell (i := 0) (v := .int .i64 0) rfl
      refine ⟨.tuple #[.agg (bk (D1.f m)).toArray, .int .i64 0], ?_, ?_⟩
      · exact read_results (w.heap.size + 1 + 1) (w.heap.size + 1 + 1 + 1) (bk (D1.f m)) (.int .i64 0) _ _ rfl rfl hbk hf.r2 hg
      · rw [HE.out, if_neg (by simp), hhd]
        exact hf.post
    case stop =>
      rintro D2 c pre W hD hSp ⟨rfl, pre0, x, rfl, hn0, hx, hS⟩ hKD
      have HH := Lib.hid hn0
      have HX := Lib.hid hx
      have HSP := Lib.hid hSp
      have HFN := Lib.hid hS
      have HKD := Lib.hid hKD
      clear hn0 hx hSp hS hKD
      gi_wp2
      refine one_out HKD.out fun E hkE => ?_
      have hf := HFN.out.fin HKD.out (by omega) hkE
      have hxm : x.2 ∈ D1.p := revp_mem (HSP.out.subset (by simp))
      have hnb : nbw x.2 = x.2 := nbw_of (HD1.out.pl _ hxm)
      have hhd : D.holds (((m : Nat) : Int)).toNat = x.2.2 := by
        rw [Int.toNat_natCast]
        exact holds_some (by have := HSP.out; rwa [HS.out.2.2.1] at this) HH.out HX.out
      rw [hnb] at hf
      have hg := hf.r3.cell (i := 0) (v := .int .i64 0) rfl
      have hl64 : (bk x.2.2).length = 64 := by rw [bk_len]; exact HD1.out.pl _ hxm
      refine ⟨.tuple #[.agg (bk x.2.2).toArray, .int .i64 0], ?_, ?_⟩
      · exact read_results (w.heap.size + 1 + 1) (w.heap.size + 1 + 1 + 1) (bk x.2.2) (.int .i64 0) _ _ rfl rfl hl64 hf.r2 hg
      · rw [HE.out, if_neg (by simp), hhd]
        exact hf.post
  · have hne : (c != 0) = true := by rw [bne_iff_ne]; exact hc
    have HN := Lib.hid hc
    clear hc
    have hz1 : oneAll (bk zb).toArray = true := all_oneCell_toArray bk_one
    have hks := setCells_keeps (w.heap.size + 1 + 1) (bk zb) 0 w1
    have y4 := (hks.cell (p := ⟨w.heap.size + 1 + 1 + 1, 0, none⟩) HX3.out.lt (by show ¬ (w.heap.size + 1 + 1 + 1 = w.heap.size + 1 + 1); omega)).trans y3
    have z4 := (hks.frozen (p := ⟨w.heap.size + 1 + 1 + 1, 0, none⟩) HX3.out.lt (by show ¬ (w.heap.size + 1 + 1 + 1 = w.heap.size + 1 + 1); omega)).trans z3
    have HKS := Lib.hid hks
    clear hks
    gi_wp2
    have hf := rds_mk (w := w) (w1 := w1) (L := L) (D' := D1) (b2 := w.heap.size + 1 + 1) (b3 := w.heap.size + 1 + 1 + 1) (old := bk zb) (cs := bk zb) (v := .int .i64 0) (c := c) HOWN.out HX2.out HX3.out HD1.out HK1.out rfl rfl hz64 hz64
    have hg := hf.r3.cell (i := 0) (v := .int .i64 c) rfl
    refine ⟨.tuple #[.agg (bk zb).toArray, .int .i64 c], ?_, ?_⟩
    · refine read_results (w.heap.size + 1 + 1) (w.heap.size + 1 + 1 + 1) (bk zb) (.int .i64 c) _ _ rfl rfl hz64 ?_ ?_
      · exact hf.r2
      · exact hg
    · rw [HE.out, if_pos HN.out]
      exact hf.post
end Go.Proofs.Ytjiammhmeliogaa
