/- Write: a write is pending behind the others, or the power goes. -/
import Derived.Test.YtjiammhmeliogaaSmall
import Derived.Deep.RegionHeld3
namespace Go.Proofs.Ytjiammhmeliogaa
open Go.RowKit
set_option linter.unusedVariables false
attribute [local go_sem ↓] exec_row106 exec_load27
attribute [local go_sem] padr_some rowAt_drew hasRow_drew rowAt_alloc hasRow_alloc

/-- append onto a row of the call's own, as a step of a region; where the new row lies. -/
theorem step_own {P : Program} {w : World} {ops : Array Oper} {o : Oper} {a : Act} {K : Act → World → Prop} {Q : Exit → Act → World → Prop} {E : Prop} (hgd : o.guard = none) (s x : Operand) (t : TypeId)
    (ho : o.op = .call { callee := .builtin .append, args := #[s, x], argTypes := #[t, t] })
    (base : Nat) (e : TypeId) (i : TypeInfo) (z : Value) (size bytes : Nat) (ht : P.underlying t = some (.slice e)) (hi : P.info? e = some i) (hz : i.zero = some z)
    (hsize : i.size = size) (hby : i.bytes = bytes) (hzs : z.cells.size = size) (hsz : 0 < size)
    (v : Value) (n : Nat) (xs : List Value) (hs : a.eval s = v) (hown : w.ownsRow base e size v n xs)
    (ad : Addr) (m c : Nat) (news : List Value) (hx : a.eval x = .slice (some ad) m c) (hl : news.length = m * size) (hnews : ∀ j u, news[j]? = some u → w.cell? (ad.add j) = some u) (h1 : ∀ u ∈ news, u.oneCell' = true)
    (h63 : n + m ≤ maxLen) (hbytes : (n + m) * bytes ≤ 140737488355328) (hbase : base ≤ w.heap.size)
    (h : ∀ v' w', w'.ownsRow base e size v' (n + m) (xs ++ news) → w.grownBy w' v.ownBlock → (v'.ownBlock = v.ownBlock ∨ v'.ownBlock = some w.heap.size) → K (a.put o.dst v') w') :
    if Region.wanted o (yielded ops a.tmps) = true then Oper.wp P o a w K Q else E := by
  have hw : Region.wanted o (yielded ops a.tmps) = true := by simp [Region.wanted, hgd]
  rw [if_pos hw]
  obtain ⟨v', w', hr, h2, h3, _, h4⟩ := run_append_own_at (P := P) w base t o.type e i z size bytes ht hi hz hsize hby hzs hsz v n xs hown ad m c news hl hnews h1 h63 hbytes hbase
  unfold Oper.wp execOp
  simp only [ho, resolve, invoke, builtin, Sem.run_bind, Sem.run_pure, Result.andThen_ok, List.map_toArray, List.map_cons, List.map_nil, hs, hx, hr]
  exact h v' w' h2 h3 h4

theorem grown_keeps {w W w3 : World} {row : Option Nat} (h : W.grownBy w3 row) (h1 : Keeps (fun _ => False) w W) : Keeps (fun k => row = some k) w w3 :=
  (h1.mono fun _ _ h => h.elim).trans (Keeps.of_grown h)

/-- The disk moves on: the pending writes may lie elsewhere. -/
def DMoved (L : DL) (D' : DD) (w w' : World) : Prop := ∃ pv, DkAt w' ⟨L.B, L.sv, pv⟩ D' ∧ (∀ g, pv.ownBlock = some g → L.pv.ownBlock = some g ∨ w.heap.size ≤ g) ∧ Keeps L.own w w'

theorem load27 (W : World) (bb : Nat) (b : List Int) (hb : b.length = 64) (h : Blk W bb 27 (bk b)) : (Instr.loadAt 27 (.pointer (some ⟨bb, 0, none⟩))).run Try.prog W = .ok (.agg (bk b).toArray) W := by
  refine run_loadAt_mid (P := Try.prog) W bb 0 27 (bk b) _ ?_ Try.underlying27 rfl (by rw [bk_len, hb]; kernel_rfl)
  intro j v hv
  rw [Nat.zero_add]
  exact h.cell hv

theorem write_fin {L : DL} {D : DD} {w w3 : World} {v' : Value} {i : Nat} {b : List Int} {z : Nat} (h : DkAt w L D) (hi : i < D.n) (hb : b.length = 64) (hpn : D.p.length < 1000000) (hk3 : Keeps (fun k => L.pv.ownBlock = some k) w w3)
    (hown : w3.ownsRow 0 106 65 v' (D.p.length + 1) (pflat D.p ++ wrc (i, b))) (hat : v'.ownBlock = L.pv.ownBlock ∨ v'.ownBlock = some z) (hz : w.heap.size ≤ z) :
    DMoved L { D with p := D.p ++ [(i, b)] } w (w3.setCell ⟨L.B, 1, none⟩ v') := by
  have hnb : ¬ (L.pv.ownBlock = some L.B) := own_ne_blk h.obj h.pend (by decide)
  have ho3 : Blk w3 L.B 95 (L.obj D) := hk3.blk h.obj hnb
  have hk4 : Keeps (fun k => k = L.B) w3 (w3.setCell ⟨L.B, 1, none⟩ v') := (Keeps.refl (fun k => k = L.B) w3).store (p := ⟨L.B, 1, none⟩) (.inl rfl) v'
  refine ⟨v', ⟨?_, ?_, ?_, h.n1, h.n2, h.fl, ?_, ?_, ?_, h.o1, h.o2, h.l1, h.l2, h.f1, h.f2⟩, fun g hg => ?_, ?_⟩
  · exact ho3.store 1 v'
  · refine hk4.own (hk3.own h.safe fun g hg hp => own_ne_own h.safe h.pend (by decide) hg hp) fun g hg e => ?_
    exact own_ne_blk h.obj h.safe (by decide) (by rw [← (show g = L.B from e)]; exact hg)
  · have := hk4.own hown fun g hg e => own_ne_blk ho3 hown (by decide) (by rw [← (show g = L.B from e)]; exact hg)
    show (w3.setCell ⟨L.B, 1, none⟩ v').ownsRow 0 106 65 v' (D.p ++ [(i, b)]).length (pflat (D.p ++ [(i, b)]))
    rw [pflat_append, List.length_append]
    simpa [pflat] using this
  · intro a ha
    rcases List.mem_append.1 ha with ha | ha
    · exact h.pl a ha
    · rw [List.mem_singleton.1 ha]; exact hb
  · intro a ha
    rcases List.mem_append.1 ha with ha | ha
    · exact h.pa a ha
    · rw [List.mem_singleton.1 ha]; exact hi
  · show (D.p ++ [(i, b)]).length ≤ 1000000
    simp
    omega
  · rcases hat with e | e
    · exact .inl (by rw [← e]; exact hg)
    · have hg' : v'.ownBlock = some g := hg
      rw [e] at hg'
      injection hg' with hg'
      exact .inr (by omega)
  · exact (hk3.mono fun k _ hk => .inr (.inr hk)).trans (hk4.mono fun k _ hk => .inl hk)

set_option maxRecDepth 100000 in
set_option maxHeartbeats 4000000 in
theorem write_fn (L : DL) (D : DD) (w : World) (h : DkAt w L D) (pb ib bb i : Nat) (b : List Int) (hi : i < D.n) (hb : b.length = 64) (h1 : Blk w pb 24 [L.ptr]) (h2 : Blk w ib 3 [.int .i64 (i : Int)]) (h3 : Blk w bb 27 (bk b)) (hpn : D.p.length < 1000000) :
    Calls Try.prog 81 #[.pointer (some ⟨pb, 0, none⟩), .pointer (some ⟨ib, 0, none⟩), .pointer (some ⟨bb, 0, none⟩)] w fun e w' => (∃ v, e = .returned v) ∧ DMoved L { D with p := D.p ++ [(i, b)] } w w' := by
  have HD := Lib.hid h
  obtain ⟨c0, c1, c2, c3, c4, c5, c6⟩ := h.cells
  have k1 := h.obj.free 1
  have q0 := h1.cell (i := 0) rfl
  have q1 := h2.cell (i := 0) rfl
  have l1 := h.obj.lt
  have l2 := h1.lt
  have l3 := h2.lt
  have l4 := h3.lt
  obtain ⟨cs, hcs⟩ : ∃ cs, cs = bk b := ⟨_, rfl⟩
  have hcl : cs.length = 64 := by rw [hcs, bk_len, hb]
  have hc1 : ∀ v ∈ cs, v.oneCell' = true := by rw [hcs]; exact bk_one
  obtain ⟨cv, hcv⟩ : ∃ cv, cv = (wrc (i, b)).toArray := ⟨_, rfl⟩
  have hcvs : cv.size = 65 := by rw [hcv]; simpa using wrc_len hb (a := (i, b))
  have hwc := fold106 (.int .i64 (i : Int)) cs hcl
  rw [show (Value.int IntKind.i64 (i : Int) :: cs).toArray = cv from by rw [hcv, hcs]; rfl] at hwc
  have hr0 : w.rangeAt bb 0 cs := by
    intro j v hv
    rw [Nat.zero_add]
    rw [hcs] at hv
    exact h3.cell hv
  have hg1 := hasRow_of hr0 hcl
  have hg2 := rowAt_of hr0 hcl
  obtain ⟨it, z, i1, i2, i3, i4, i5⟩ := info106
  have hzs : z.cells.size = 65 := by rw [i3]; simp [z106]
  have H1 := Lib.hid h1
  have H2 := Lib.hid h2
  have HCV := Lib.hid hcv
  have HNE : Hid (L.pv.ownBlock ≠ some L.B ∧ L.pv.ownBlock ≠ some pb ∧ L.pv.ownBlock ≠ some ib ∧ L.pv.ownBlock ≠ some bb) := Lib.hid ⟨own_ne_blk h.obj h.pend (by decide), own_ne_blk h1 h.pend (by decide), own_ne_blk h2 h.pend (by decide), own_ne_blk h3 h.pend (by decide)⟩
  have HNB : Hid (pb ≠ L.B ∧ ib ≠ L.B ∧ bb ≠ L.B) := Lib.hid ⟨h1.ne h.obj (by decide), h2.ne h.obj (by decide), h3.ne h.obj (by decide)⟩
  have HNW : Hid (∀ (W : World) (d : Nat), ∀ j u, (wrc (i, b))[j]? = some u → ((W.drewN d).alloc (.cells cv 106)).cell? ((⟨W.heap.size, 0, none⟩ : Addr).add j) = some u) := Lib.hid (fun W d j u hu => by
    rw [add0, hcv]
    exact (Blk.new (W.drewN d) 106 (wrc (i, b))).cell hu)
  have HFN : Hid (∀ w3 v' z, Keeps (fun k => L.pv.ownBlock = some k) w w3 → w3.ownsRow 0 106 65 v' (D.p.length + 1) (pflat D.p ++ wrc (i, b)) → (v'.ownBlock = L.pv.ownBlock ∨ v'.ownBlock = some z) → w.heap.size ≤ z → DMoved L { D with p := D.p ++ [(i, b)] } w (w3.setCell ⟨L.B, 1, none⟩ v')) :=
    Lib.hid (fun w3 v' z a1 a2 a3 a4 => write_fin h hi hb hpn a1 a2 a3 a4)
  have HLN : Hid ((wrc (i, b)).length = 1 * 65) := Lib.hid (wrc_len hb)
  have HON : Hid (∀ u ∈ wrc (i, b), u.oneCell' = true) := Lib.hid wrc_one
  have HSW : Hid (w.cell? ⟨pb, 0, none⟩ = some (.pointer (some ⟨L.B, 0, none⟩)) ∧ w.cell? ⟨ib, 0, none⟩ = some (.int .i64 (i : Int)) ∧ w.rangeAt bb 0 cs) := Lib.hid ⟨q0, q1, hr0⟩
  clear h h1 h2 h3 hcs hcv hr0 c0 c2 c3 c4 c5 c6 hc1 hi hb HSW HNB H1 H2 HCV
  unfold DL.ptr at *
  go_enter Try.func81, Try.ntmps81
  go_wp2_with fail
  go_region_law
    ((refine step_own rfl (.tmp 7) (.tmp 11) 93 rfl 0 106 it z 65 72 Try.underlying93 i1 i2 i4 i5 hzs (by decide) L.pv D.p.length (pflat D.p) rfl (HD.out.pend.alloc _) ⟨w.heap.size, 0, none⟩ 1 1 (wrc (i, b)) rfl HLN.out ?_ HON.out (by unfold maxLen; omega) (by omega) (Nat.zero_le _) ?_; (first | exact HNW.out w 0 | exact HNW.out w 1); intro v' w3 hown' hgrow hat; obtain ⟨va, vc, rfl, _⟩ := own_slice hown'; have HK3 : Hid (Keeps (fun k => L.pv.ownBlock = some k) w w3) := Lib.hid (grown_keeps hgrow (by first | exact (Keeps.refl _ _).alloc _ | exact ((Keeps.refl _ _).alloc _).drew)); have HF : Hid (DMoved L { D with p := D.p ++ [(i, b)] } w (w3.setCell ⟨L.B, 1, none⟩ (.slice va (D.p.length + 1) vc))) := Lib.hid (HFN.out w3 _ _ HK3.out hown' hat (by simp)); have t1 := (HK3.out.cell (p := ⟨L.B, 1, none⟩) l1 HNE.out.1).trans c1; have t2 := (HK3.out.frozen (p := ⟨L.B, 1, none⟩) l1 HNE.out.1).trans k1; have t3 := (HK3.out.cell (p := ⟨pb, 0, none⟩) l2 HNE.out.2.1).trans q0; clear hown' hgrow hat))
  all_goals
    go_wp2_with fail
    go_end0
    exact ⟨⟨_, rfl⟩, HF.out⟩
end Go.Proofs.Ytjiammhmeliogaa
