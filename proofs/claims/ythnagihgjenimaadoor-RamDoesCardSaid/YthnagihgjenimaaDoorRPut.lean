/- Merged of: RCop RPut. -/
import Derived.Test.YthnagihgjenimaaDoorRByt
import Derived.Test.YthnagihgjenimaaDoorOpsB
/- icehouselaw13: copied. -/
namespace Go.Proofs.YthnagihgjenimaaDoor
open Go.RowKit
set_option linter.unusedVariables false
set_option linter.unusedSimpArgs false
theorem run_byt2 (w : World) (base : Nat) (ty : TypeId) (v : Value) (n : Nat) (xs : List Value) (hown : w.ownsRow base 5 1 v n xs) (x : Value) (us : List Int) (hx : SlB w x us) (hle : n + us.length ≤ 140737488351232) (hbase : base ≤ w.heap.size) :
    ∃ v' w', (Builtin.append_ #[56, 56] ty #[v, x]).run Tryd.prog w = .ok v' w' ∧ w'.ownsRow base 5 1 v' (n + us.length) (xs ++ nb us) ∧ w.grownBy w' v.ownBlock ∧ (v'.ownBlock = v.ownBlock ∨ v'.ownBlock = some w.heap.size) := by
  obtain ⟨i0, hi1, hz0, hz1, hz2⟩ := info_parts info5r
  obtain ⟨a, c, rfl, hr⟩ := hx
  cases a with
  | none =>
    have h0 : us.length = 0 := by
      rcases Nat.eq_zero_or_pos us.length with e | e
      · exact e
      · obtain ⟨_, e2, _⟩ := hr.2 0 e; cases e2
    have hu : us = [] := List.eq_nil_of_length_eq_zero h0
    subst hu
    have hr : (Builtin.append_ #[56, 56] ty #[v, .slice none 0 c]).run Tryd.prog w = .ok v w := by
      rcases hown.2 with ⟨rfl, rfl⟩ | ⟨g, cap, cur, rfl, _, _, hnc, _⟩
      · simp [Builtin.append_, run_underlying Tryd.underlying56, sizeOf, typeInfo, hi1, Builtin.lenOf, Builtin.firstCells]
      · simp [Builtin.append_, run_underlying Tryd.underlying56, sizeOf, typeInfo, hi1, Builtin.lenOf, Builtin.firstCells, hnc, storeCells]
    exact ⟨v, w, hr, by simpa [nb] using hown, World.grownBy.refl _ _, .inl rfl⟩
  | some ad =>
    have hl : (nb us).length = us.length * 1 := by rw [nb_len]; omega
    have hnw := row_new hr
    obtain ⟨v', w', h1, h2, h3, _, h5⟩ := run_append_own_at (P := Tryd.prog) w base 56 ty 5 i0 (.int .u8 0) 1 1 Tryd.underlying56 hi1 hz0 hz1 hz2 rfl (by omega) v n xs hown ad us.length c (nb us) (by omega) hnw (nb_one _) (by unfold maxLen; omega) (by omega) hbase
    exact ⟨v', w', h1, h2, h3, h5⟩
/-- A row of bytes laid since W0. -/
structure One (W0 w : World) (v : Value) (xs : List Int) : Prop where
  own : w.ownsRow W0.heap.size 5 1 v xs.length (nb xs)
  keeps : Keeps (fun _ => False) W0 w
structure Two (W0 w : World) (v : Value) (xs : List Int) (u : Value) (ys : List Int) : Prop where
  a : One W0 w v xs
  b : One W0 w u ys
  ne : ∀ g, v.ownBlock = some g → u.ownBlock ≠ some g
theorem One.new (W0 w : World) (hk : Keeps (fun _ => False) W0 w) (g : Nat) (hg : g = w.heap.size) : One W0 (w.alloc (.cells #[] 5)) (.slice (some ⟨g, 0, none⟩) 0 0) [] := by
  subst hg
  exact ⟨own_base (own_none w 5 1) hk.size, hk.alloc _⟩
theorem Two.new {W0 w : World} {v : Value} {xs : List Int} (h : One W0 w v xs) (g : Nat) (hg : g = w.heap.size) : Two W0 (w.alloc (.cells #[] 5)) v xs (.slice (some ⟨g, 0, none⟩) 0 0) [] := by
  refine ⟨⟨((Keeps.refl (fun _ => False) w).alloc _).own' h.own (fun _ _ => id), h.keeps.alloc _⟩, One.new W0 w h.keeps g hg, fun k hk e => ?_⟩
  have h1 := (own_heap h.own hk).2.1
  simp [Value.ownBlock] at e
  omega
theorem Two.swap {W0 w : World} {v u : Value} {xs ys : List Int} (h : Two W0 w v xs u ys) : Two W0 w u ys v xs := ⟨h.b, h.a, fun g hg e => h.ne g e hg⟩
theorem step_one {ops : Array Oper} {o : Oper} {a : Act} {w : World} {K : Act → World → Prop} {Q : Exit → Act → World → Prop} {E : Prop} {W0 : World} (hgd : o.guard = none) (s x : Operand)
    (ho : o.op = .call { callee := .builtin .append, args := #[s, x], argTypes := #[56, 56] })
    (v : Value) (hs : a.eval s = v) (hone : One W0 w v []) (u : Value) (us : List Int) (hx : a.eval x = u) (hu : SlB W0 u us)
    (hle : us.length ≤ 140737488351232)
    (h : ∀ v' w', One W0 w' v' us → K (a.put o.dst v') w') :
    if Region.wanted o (yielded ops a.tmps) = true then Oper.wp Tryd.prog o a w K Q else E := by
  have hw : Region.wanted o (yielded ops a.tmps) = true := by simp [Region.wanted, hgd]
  rw [if_pos hw]
  obtain ⟨v', w', hr, h2, h3, _⟩ := run_byt2 w W0.heap.size o.type v 0 [] hone.own u us (hu.quiet hone.keeps) (by omega) hone.keeps.size
  unfold Oper.wp execOp
  simp only [ho, resolve, invoke, builtin, Sem.run_bind, Sem.run_pure, Result.andThen_ok, List.map_toArray, List.map_cons, List.map_nil, hs, hx, hr]
  refine h v' w' ⟨by simpa using h2, grow_keeps hone.keeps h3 fun g hg => (own_heap hone.own hg).1⟩
theorem step_two {ops : Array Oper} {o : Oper} {a : Act} {w : World} {K : Act → World → Prop} {Q : Exit → Act → World → Prop} {E : Prop} {W0 : World} (hgd : o.guard = none) (s x : Operand)
    (ho : o.op = .call { callee := .builtin .append, args := #[s, x], argTypes := #[56, 56] })
    (v : Value) (hs : a.eval s = v) (u : Value) (us : List Int) (hx : a.eval x = u) (v2 : Value) (ys : List Int) (htwo : Two W0 w v [] v2 ys) (hu : SlB W0 u us)
    (hle : us.length ≤ 140737488351232)
    (h : ∀ v' w', Two W0 w' v' us v2 ys → K (a.put o.dst v') w') :
    if Region.wanted o (yielded ops a.tmps) = true then Oper.wp Tryd.prog o a w K Q else E := by
  have hw : Region.wanted o (yielded ops a.tmps) = true := by simp [Region.wanted, hgd]
  rw [if_pos hw]
  obtain ⟨v', w', hr, h2, h3, h5⟩ := run_byt2 w W0.heap.size o.type v 0 [] htwo.a.own u us (hu.quiet htwo.a.keeps) (by omega) htwo.a.keeps.size
  unfold Oper.wp execOp
  simp only [ho, resolve, invoke, builtin, Sem.run_bind, Sem.run_pure, Result.andThen_ok, List.map_toArray, List.map_cons, List.map_nil, hs, hx, hr]
  have hkk := grow_keeps htwo.a.keeps h3 fun g hg => (own_heap htwo.a.own hg).1
  refine h v' w' ⟨⟨by simpa using h2, hkk⟩, ⟨(Keeps.of_grown h3).own' htwo.b.own fun g hg e => htwo.ne g e hg, hkk⟩, fun g hg e => ?_⟩
  rcases h5 with e' | e'
  · exact htwo.ne g (e'.symm.trans hg) e
  · have h1 := (own_heap htwo.b.own e).2.1
    rw [e'] at hg
    injection hg with hg
    omega
attribute [local go_sem ↓] empty56
set_option maxRecDepth 100000 in
set_option maxHeartbeats 2000000 in
theorem copied_any (i : IT) (kv vv : Value) (w : World) (h : ItB w i kv vv) (hk : i.key.length ≤ 140737488351232) (hv : i.val.length ≤ 140737488351232) : Calls Tryd.prog 39 #[i.agg kv vv] w (OwnP i w) := by
  obtain ⟨W0, hW0⟩ : ∃ W0, W0 = (w.alloc (.cells (i.cells kv vv).toArray 64)).alloc (.cells zItem.toArray 64) := ⟨_, rfl⟩
  have k0 : Keeps (fun _ => False) w W0 := by rw [hW0]; exact ((Keeps.refl _ _).alloc _).alloc _
  have hb : Blk W0 w.heap.size 64 (i.cells kv vv) := by rw [hW0]; exact (Blk.new w 64 _).alloc _
  have hz : Blk W0 (w.heap.size + 1) 64 zItem := by
    rw [hW0]
    have := Blk.new (w.alloc (.cells (i.cells kv vv).toArray 64)) 64 zItem
    rwa [World.size_alloc] at this
  have hs : W0.heap.size = w.heap.size + 2 := by rw [hW0]; simp
  have HSK := Lib.hid (h.k.quiet k0)
  have HSV := Lib.hid (h.v.quiet k0)
  obtain ⟨⟨a, c, rfl, hr⟩, ⟨b, d, rfl, hq⟩⟩ := h
  obtain ⟨key, val, fg, ex, sq, dt⟩ := i
  unfold IT.agg IT.cells at *
  dsimp only at HSK HSV hb hW0 hk hv ⊢
  obtain ⟨n, hn⟩ : ∃ n, n = key.length := ⟨_, rfl⟩
  obtain ⟨m, hm⟩ : ∃ m, m = val.length := ⟨_, rfl⟩
  have HN := Lib.hid hn
  have HM := Lib.hid hm
  have HLK := Lib.hid hk
  have HLV := Lib.hid hv
  rw [← hn] at HSK hb hW0
  rw [← hm] at HSV hb hW0
  have HB := Lib.hid hb
  have HZ := Lib.hid hz
  have HK0 := Lib.hid k0
  have HW0 := Lib.hid hW0
  have HS := Lib.hid hs
  clear hr hq hb hz k0 hs hk hv
  have F : Hid (∀ W, Keeps (fun _ => False) W0 W → (W.cell? ⟨w.heap.size, 0, none⟩ = some (.slice a n c) ∧ W.cell? ⟨w.heap.size, 1, none⟩ = some (.slice b m d)) ∧ W.frozen? ⟨w.heap.size, 0, none⟩ = false ∧ W.frozen? ⟨w.heap.size, 1, none⟩ = false) := Lib.hid (fun W hk => by
    have h := hk.blk HB.out id
    exact ⟨⟨h.cell (i := 0) rfl, h.cell (i := 1) rfl⟩, h.free 0, h.free 1⟩)
  rw [← hn, ← hm]
  clear hn hm hW0
  go_enter Tryd.func39, Tryd.ntmps39
  go_upto_region 1 with fail
  rw [show (w.alloc (Obj.cells #[Value.slice a n c, Value.slice b m d, Value.int .u32 fg, Value.int .u32 ex, Value.int .u64 sq, Value.bool dt] 64)).alloc (Obj.cells #[Value.slice none 0 0, Value.slice none 0 0, Value.int .u32 0, Value.int .u32 0, Value.int .u64 0, Value.bool false] 64) = W0 from HW0.out.symm]
  go_cut [] (fun wx => OwnR w W0 key val fg ex sq dt wx)
  case first =>
    obtain ⟨⟨q0, q1⟩, q2, q3⟩ := F.out _ (Keeps.refl _ _).drew
    obtain ⟨⟨r0, r1⟩, r2, r3⟩ := F.out _ ((Keeps.refl _ W0).alloc (.cells #[] 5))
    obtain ⟨⟨s0, s1⟩, s2, s3⟩ := F.out _ (((Keeps.refl _ W0).alloc (.cells #[] 5)).alloc (.cells #[] 5))
    have HD : Hid (Keeps (fun _ => False) W0 W0.drew) := Lib.hid (Keeps.refl _ _).drew
    have O1 : Hid (One W0 (W0.drew.alloc (.cells #[] 5)) (.slice (some ⟨W0.heap.size, 0, none⟩) 0 0) []) := Lib.hid (One.new W0 W0.drew (Keeps.refl _ _).drew _ rfl)
    have O2 : Hid (Two W0 ((W0.drew.alloc (.cells #[] 5)).alloc (.cells #[] 5)) (.slice (some ⟨W0.heap.size, 0, none⟩) 0 0) [] (.slice (some ⟨W0.heap.size + 1, 0, none⟩) 0 0) []) := Lib.hid (Two.new O1.out _ (by simp))
    go_region_law (first
      | (refine step_one rfl (.tmp 3) (.tmp 5) rfl _ rfl O1.out _ key rfl HSK.out HLK.out ?_; intro v1 wA hA; obtain ⟨ka, kc, rfl⟩ := own_formQ hA.own; obtain ⟨⟨t0, t1⟩, t2, t3⟩ := F.out _ hA.keeps; obtain ⟨⟨u0, u1⟩, u2, u3⟩ := F.out _ (hA.keeps.alloc (.cells #[] 5)))
      | (refine step_two rfl (.tmp 3) (.tmp 5) rfl _ rfl _ key rfl _ [] O2.out HSK.out HLK.out ?_; intro v1 wA hA; obtain ⟨ka, kc, rfl⟩ := own_formQ hA.a.own; obtain ⟨⟨t0, t1⟩, t2, t3⟩ := F.out _ hA.a.keeps)
      | (refine step_two rfl (.tmp 3) (.tmp 5) rfl _ rfl _ key rfl _ [] O2.out.swap HSK.out HLK.out ?_; intro v1 wA hA; obtain ⟨ka, kc, rfl⟩ := own_formQ hA.a.own; obtain ⟨⟨t0, t1⟩, t2, t3⟩ := F.out _ hA.a.keeps)
      | (refine step_two rfl (.tmp 7) (.tmp 9) rfl _ rfl _ val rfl _ key (Two.new hA _ rfl).swap HSV.out HLV.out ?_; intro v2 wB hB; obtain ⟨va, vc, rfl⟩ := own_formQ hB.a.own; obtain ⟨⟨x0, x1⟩, x2, x3⟩ := F.out _ hB.a.keeps)
      | (refine step_two rfl (.tmp 7) (.tmp 9) rfl _ rfl _ val rfl _ key hA.swap HSV.out HLV.out ?_; intro v2 wB hB; obtain ⟨va, vc, rfl⟩ := own_formQ hB.a.own; obtain ⟨⟨x0, x1⟩, x2, x3⟩ := F.out _ hB.a.keeps))
    all_goals
      go_wp2_with fail
      go_meet
      first
        | exact (own_fin (W0 := W0) (hB.a.keeps.blk HB.out id) (hB.a.keeps.blk HZ.out id) hB.b.own hB.a.own hB.a.keeps).1
        | exact (own_fin (W0 := W0) (hB.a.keeps.blk HB.out id) (hB.a.keeps.blk HZ.out id) hB.b.own hB.a.own hB.a.keeps).2
        | fail
  case rest =>
    obtain ⟨kv, vv, hb, hz, ok, ov, hk⟩ := hcut
    obtain ⟨wx, rfl⟩ : ∃ wx, wx = wc := ⟨_, rfl⟩
    have hle : w.heap.size ≤ W0.heap.size := HK0.out.size
    have OK := Lib.hid (own_base ok hle)
    have OV := Lib.hid (own_base ov hle)
    have HKX : Hid (Keeps (fun _ => False) w wx) := Lib.hid (((HK0.out.mono (S' := fun k => k = w.heap.size) (fun _ _ h => h.elim)).trans hk).mono fun k hk' e => by
      have e : k = w.heap.size := e
      omega)
    obtain ⟨ka, kc, rfl, _⟩ := own_bytes ok
    obtain ⟨va, vc, rfl, _⟩ := own_bytes ov
    have b0 := hb.cell (i := 0) rfl
    have b1 := hb.cell (i := 1) rfl
    have b2 := hb.cell (i := 2) rfl
    have b3 := hb.cell (i := 3) rfl
    have b4 := hb.cell (i := 4) rfl
    have b5 := hb.cell (i := 5) rfl
    have z0 := hz.cell (i := 0) rfl
    have z1 := hz.cell (i := 1) rfl
    have z2 := hz.cell (i := 2) rfl
    have z3 := hz.cell (i := 3) rfl
    have z4 := hz.cell (i := 4) rfl
    have z5 := hz.cell (i := 5) rfl
    have f0 := hz.free 0
    have f1 := hz.free 1
    have f2 := hz.free 2
    have f3 := hz.free 3
    have f4 := hz.free 4
    have f5 := hz.free 5
    have HZX := Lib.hid hz
    clear hb hz ok ov hk HSK HSV HB HZ F
    go_wp2_with fail
    have ho := (((((HZX.out.store 0 (.slice ka key.length kc)).store 1 (.slice va val.length vc)).store 2 (.int .u32 fg)).store 3 (.int .u32 ex)).store 4 (.int .u64 sq)).store 5 (.bool dt)
    have hk6 : Keeps (fun k => k = w.heap.size + 1) wx ((((((wx.setCell ⟨w.heap.size + 1, 0, none⟩ (.slice ka key.length kc)).setCell ⟨w.heap.size + 1, 1, none⟩ (.slice va val.length vc)).setCell ⟨w.heap.size + 1, 2, none⟩ (.int .u32 fg)).setCell ⟨w.heap.size + 1, 3, none⟩ (.int .u32 ex)).setCell ⟨w.heap.size + 1, 4, none⟩ (.int .u64 sq)).setCell ⟨w.heap.size + 1, 5, none⟩ (.bool dt)) :=
      ((((((Keeps.refl (fun k => k = w.heap.size + 1) wx).store (p := ⟨w.heap.size + 1, 0, none⟩) (.inl rfl) _).store (p := ⟨w.heap.size + 1, 1, none⟩) (.inl rfl) _).store (p := ⟨w.heap.size + 1, 2, none⟩) (.inl rfl) _).store (p := ⟨w.heap.size + 1, 3, none⟩) (.inl rfl) _).store (p := ⟨w.heap.size + 1, 4, none⟩) (.inl rfl) _).store (p := ⟨w.heap.size + 1, 5, none⟩) (.inl rfl) _
    have q0 := ho.cell (i := 0) rfl
    have q1 := ho.cell (i := 1) rfl
    have q2 := ho.cell (i := 2) rfl
    have q3 := ho.cell (i := 3) rfl
    have q4 := ho.cell (i := 4) rfl
    have q5 := ho.cell (i := 5) rfl
    have ok2 := hk6.own' OK.out fun g hg e => own_ne_blk HZX.out OK.out (by decide) ((show g = w.heap.size + 1 from e) ▸ hg)
    have ov2 := hk6.own' OV.out fun g hg e => own_ne_blk HZX.out OV.out (by decide) ((show g = w.heap.size + 1 from e) ▸ hg)
    have hkf : Keeps (fun _ => False) w _ := ((HKX.out.mono (S' := fun k => k = w.heap.size + 1) (fun _ _ h => h.elim)).trans hk6).mono (S' := fun _ => False) fun k hk' e => by
      have e : k = w.heap.size + 1 := e
      omega
    refine bodyPost_ret (v := .agg #[.slice ka key.length kc, .slice va val.length vc, .int .u32 fg, .int .u32 ex, .int .u64 sq, .bool dt]) (by simp [results, Tryd.f39, go_sem, q0, q1, q2, q3, q4, q5]) rfl ⟨_, _, rfl, ok2, ov2, hkf⟩
end Go.Proofs.YthnagihgjenimaaDoor

/- icehouseref13: Put. -/
namespace Go.Proofs.YthnagihgjenimaaDoor
open Go.RowKit
set_option linter.unusedVariables false
set_option linter.unusedSimpArgs false
theorem took_less {D : AD} {xs ys : List HM} {x : HM} (h : RInv D (xs ++ x :: ys)) : D.took (x.ch : Int) = D.less x.ch := by
  unfold AD.took
  rw [if_pos h.at_.find]
  rfl
/-- The document's memory: what is held, in the order of its row. -/
theorem HdAt.from {w w' : World} {v v0 : Value} {l l0 : List HM} (h0 : HdAt w v0 l0) (hsub : ∀ x ∈ l, x ∈ l0) (hlen : l.length ≤ l0.length) (hk : Keeps (fun _ => False) w w') {base : Nat} (hr : w'.ownsRow base 86 8 v l.length (heldC l)) : HdAt w' v l :=
  ⟨own_low hr (Nat.zero_le _), fun x hx => (h0.rd x (hsub x hx)).quiet hk, fun x hx => h0.ok x (hsub x hx), Nat.le_trans hlen h0.le⟩
/-- Behind the document's Put. -/
def RPutD (X : RG) (D : AD) (l : List HM) (i : IT) (kv vv : Value) (w : World) (e : Ending) (w' : World) : Prop :=
  ∃ D1 l1 D2 l2 gone r D3 Y v gv', e = .returned (.tuple #[.agg #[.slice (some ⟨Y.O, 0, none⟩) D.n Y.cap, v], gv']) ∧ Less D l i.key D1 l1 ∧ Reach (cls (i.chg : Int)) D1 l1 gone D2 l2 ∧ GiveS D2 (cls (i.chg : Int)) ((r : Nat) : Int) 0 D3 ∧
    RgAt w' Y D.n (gv D3) ∧ HdAt w' v (⟨i, r, cls (i.chg : Int), kv, vv⟩ :: l2) ∧ w'.ownsRow w.heap.size 64 6 gv' gone.length (itemCells gone) ∧ Keeps (fun _ => False) w w' ∧ (Y = X ∨ Y.Over D.n w.heap.size)
/-- What has been found is put out. -/
def RLessC (X : RG) (D : AD) (l : List HM) (k : List Int) (B : Nat) (W0 wx : World) : Prop :=
  ∃ D1 l1 Y v, Less D l k D1 l1 ∧ Blk wx B 74 [.slice (some ⟨Y.O, 0, none⟩) D.n Y.cap, v] ∧ RgAt wx Y D.n (gv D1) ∧ wx.ownsRow 0 86 8 v l1.length (heldC l1) ∧ Keeps (fun k => k = B) W0 wx ∧ (Y = X ∨ Y.Over D.n W0.heap.size)
theorem Less.inv {D D' : AD} {hs hs' : List HM} {k : List Int} (h : Less D hs k D' hs') (hi : RInv D hs) : RInv D' hs' ∧ D'.n = D.n := by
  rcases h with ⟨_, rfl, rfl⟩ | ⟨xs, x, ys, rfl, _, rfl, rfl⟩
  · exact ⟨hi, rfl⟩
  · exact ⟨hi.out, rfl⟩
theorem Less.len {D D' : AD} {hs hs' : List HM} {k : List Int} (h : Less D hs k D' hs') : hs'.length ≤ hs.length := by
  rcases h with ⟨_, rfl, rfl⟩ | ⟨xs, x, ys, rfl, _, rfl, rfl⟩
  · exact Nat.le_refl _
  · simp
/-- The oldest, as far as it was looked for. -/
def OldK (l : List HM) (cl c : Nat) (z : Int) : Prop :=
  (z = -1 ∧ lsOf l cl = [] ∧ ∀ j, j < c → lsOf l j = []) ∨ ∃ xs x ys, l = xs ++ x :: ys ∧ Pick l cl x.cl ∧ lsOf ys x.cl = [] ∧ z = (xs.length : Int)
theorem RInv.empty {D : AD} {hs : List HM} (h : RInv D hs) (he : ∀ j, j < 8 → lsOf hs j = []) : hs = [] := by
  cases hs with
  | nil => rfl
  | cons x r =>
    have := he x.cl (by rw [(h.good x (List.mem_cons_self ..)).2]; exact cls_lt _)
    rw [lsOf_cons, upd_same] at this
    cases this
/-- Behind a Give. -/
def RGvC (D : AD) (cl n : Nat) (X : RG) (s10 s11 s12 : Value) (wr wx : World) : Prop :=
  ∃ r q D' Y A, s10 = .pointer (some ⟨A, 0, none⟩) ∧ s11 = .int .i64 r ∧ s12 = .int .i64 q ∧ GiveS D cl r q D' ∧ RgAt wx Y n (gv D') ∧ Blk wx A 40 [.slice (some ⟨RG.O Y, 0, none⟩) n Y.cap] ∧ Keeps (fun _ => False) wr wx ∧ (Y = X ∨ Y.Over n wr.heap.size)
theorem rgv_new {D D' : AD} {cl n : Nat} {X Y : RG} {r q : Int} {wr w5 w6 : World} (hg : GiveS D cl r q D') (hY : RgAt w6 Y n (gv D')) (hk5 : Keeps (fun _ => False) wr w5) (hk6 : Keeps (fun _ => False) w5 w6) (ho : Y = X ∨ Y.Over n w5.heap.size) :
    RGvC D cl n X (.pointer (some ⟨w6.heap.size, 0, none⟩)) (.int .i64 r) (.int .i64 q) wr (w6.alloc (.cells #[.slice (some ⟨Y.O, 0, none⟩) n Y.cap] 40)) :=
  ⟨r, q, D', Y, _, rfl, rfl, rfl, hg, hY.quiet ((Keeps.refl _ _).alloc _), Blk.new w6 40 _, (hk5.trans hk6).alloc _, ho.imp id fun h => h.mono hk5.size⟩
theorem rgv_old {D D' : AD} {cl n A : Nat} {X Y : RG} {r q : Int} {wr w5 w6 : World} (hg : GiveS D cl r q D') (hY : RgAt w6 Y n (gv D')) (hk5 : Keeps (fun _ => False) wr w5) (hk6 : Keeps (fun _ => False) w5 w6) (ho : Y = X ∨ Y.Over n w5.heap.size) (hA : Blk w6 A 40 [.slice none 0 0]) (hAw : wr.heap.size ≤ A) :
    RGvC D cl n X (.pointer (some ⟨A, 0, none⟩)) (.int .i64 r) (.int .i64 q) wr (w6.setCell ⟨A, 0, none⟩ (.slice (some ⟨Y.O, 0, none⟩) n Y.cap)) := by
  have hst : Keeps (fun k => k = A) w6 (w6.setCell ⟨A, 0, none⟩ (.slice (some ⟨Y.O, 0, none⟩) n Y.cap)) := (Keeps.refl (fun k => k = A) w6).store (p := ⟨A, 0, none⟩) (.inl rfl) _
  refine ⟨r, q, D', Y, A, rfl, rfl, rfl, hg, rg_keepB hY hA (by decide) (by decide) hst, hA.store 0 _, (((hk5.trans hk6).mono fun _ _ h => h.elim).trans hst).mono fun k hk e => ?_, ho.imp id fun h => h.mono hk5.size⟩
  have e : k = A := e
  omega
/-- At the head of the loop. -/
structure RPI (W0 : World) (B : Nat) (X0 : RG) (n cl : Nat) (D1 : AD) (l1 : List HM) (D : AD) (l gone : List HM) (X : RG) (v s9 : Value) (wr : World) : Prop where
  box : Blk wr B 74 [.slice (some ⟨X.O, 0, none⟩) n X.cap, v]
  ar : RgAt wr X n (gv D)
  hd : wr.ownsRow 0 86 8 v l.length (heldC l)
  reach : Reach cl D1 l1 gone D l
  row : wr.ownsRow W0.heap.size 64 6 s9 gone.length (itemCells gone)
  keeps : Keeps (fun k => k = B) W0 wr
  over : X = X0 ∨ X.Over n W0.heap.size
set_option maxRecDepth 100000 in
set_option maxHeartbeats 4000000 in
theorem rput_any (X : RG) (D : AD) (v : Value) (l : List HM) (i : IT) (kv vv : Value) (w : World) (hX : RgAt w X D.n (gv D)) (h : HdAt w v l) (hl : l.length ≤ 99999) (hinv : RInv D l) (hi : i.Ok) (hb : ItB w i kv vv) :
    Calls Tryd.prog 42 #[.agg #[.slice (some ⟨X.O, 0, none⟩) D.n X.cap, v], i.agg kv vv] w (RPutD X D l i kv vv w) := by
  have HH := Lib.hid h
  have HIN := Lib.hid hinv
  have HI := Lib.hid hi
  have HX := Lib.hid hX
  have HIT := Lib.hid hb
  have hchg := hi.chg
  have hk2 := hi.k2
  have hv2 := hi.v2
  obtain ⟨va, vc, hv⟩ := h.form
  subst hv
  obtain ⟨⟨a, c, rfl, _⟩, ⟨b, d, rfl, _⟩⟩ := hb
  obtain ⟨W0, hW0⟩ : ∃ W0, W0 = ((w.alloc (.cells #[.slice (some ⟨X.O, 0, none⟩) D.n X.cap, .slice va l.length vc] 74)).alloc (.cells #[.slice a i.key.length c, .slice b i.val.length d, .int .u32 i.fg, .int .u32 i.ex, .int .u64 i.sq, .bool i.dt] 64)).alloc (.cells #[.slice none 0 0, .slice none 0 0] 74) := ⟨_, rfl⟩
  have hk0 : Keeps (fun _ => False) w W0 := by rw [hW0]; exact (((Keeps.refl _ _).alloc _).alloc _).alloc _
  have hb0 : Blk W0 w.heap.size 74 [.slice (some ⟨X.O, 0, none⟩) D.n X.cap, .slice va l.length vc] := by rw [hW0]; exact ((Blk.new w 74 _).alloc _).alloc _
  have hb1 : Blk W0 (w.heap.size + 1) 64 [.slice a i.key.length c, .slice b i.val.length d, .int .u32 i.fg, .int .u32 i.ex, .int .u64 i.sq, .bool i.dt] := by
    rw [hW0]
    have := (Blk.new (w.alloc (.cells #[.slice (some ⟨X.O, 0, none⟩) D.n X.cap, .slice va l.length vc] 74)) 64 [.slice a i.key.length c, .slice b i.val.length d, .int .u32 i.fg, .int .u32 i.ex, .int .u64 i.sq, .bool i.dt]).alloc (.cells #[.slice none 0 0, .slice none 0 0] 74)
    rwa [World.size_alloc] at this
  have hb2 : Blk W0 (w.heap.size + 2) 74 [.slice none 0 0, .slice none 0 0] := by
    rw [hW0]
    have := Blk.new ((w.alloc (.cells #[.slice (some ⟨X.O, 0, none⟩) D.n X.cap, .slice va l.length vc] 74)).alloc (.cells #[.slice a i.key.length c, .slice b i.val.length d, .int .u32 i.fg, .int .u32 i.ex, .int .u64 i.sq, .bool i.dt] 64)) 74 [.slice none 0 0, .slice none 0 0]
    rwa [World.size_alloc, World.size_alloc] at this
  have hs0 : W0.heap.size = w.heap.size + 3 := by rw [hW0]; simp
  have HK0 := Lib.hid hk0
  have HB0 := Lib.hid hb0
  have HB1 := Lib.hid hb1
  have HB2 := Lib.hid hb2
  have HW0 := Lib.hid hW0
  have HS0 := Lib.hid hs0
  have HF : Hid (Calls Tryd.prog 40 #[.agg #[.slice (some ⟨X.O, 0, none⟩) D.n X.cap, .slice va l.length vc], .slice a i.key.length c] W0 (RFindP l i.key W0)) := Lib.hid (rfind_any _ _ _ _ _ l i.key W0 (HH.out.quiet hk0) (HIT.out.k.quiet hk0) (by omega))
  obtain ⟨C, hC⟩ : ∃ C : Nat, C = i.chg := ⟨_, rfl⟩
  have HC := Lib.hid hC
  have HCH : Hid (∀ W, Keeps (fun k => k = w.heap.size) W0 W → Calls Tryd.prog 71 #[i.agg (.slice a i.key.length c) (.slice b i.val.length d)] W (IntP (C : Nat) W)) := Lib.hid (fun W hk => by
    rw [HC.out]
    exact rcharge_any i _ _ W (HIT.out.old ((HK0.out.mono (S' := fun k => k = w.heap.size) fun _ _ h => h.elim).trans hk) (fun k e => by omega)) (by omega) (by omega))
  rw [← hC] at hchg
  obtain ⟨key, val, fg, ex, sq, dt⟩ := i
  unfold IT.agg at *
  dsimp only at HF HCH HB1 HW0 hk2 hv2
  obtain ⟨n, hn⟩ : ∃ n, n = key.length := ⟨_, rfl⟩
  obtain ⟨m, hm⟩ : ∃ m, m = val.length := ⟨_, rfl⟩
  have HN := Lib.hid hn
  have HMV := Lib.hid hm
  dsimp only at hb1
  rw [← hn] at HF HCH HB1 HW0 hk2 hb1
  rw [← hm] at HCH HB1 HW0 hv2 hb1
  rw [← hn, ← hm]
  obtain ⟨q, hq⟩ : ∃ q, q = l.length := ⟨_, rfl⟩
  have HQ := Lib.hid hq
  rw [← hq] at HF HB0 HW0 hb0 hl ⊢
  obtain ⟨N, hN⟩ : ∃ N, N = D.n := ⟨_, rfl⟩
  have HNN := Lib.hid hN
  rw [← hN] at HF HB0 HW0 hb0 ⊢
  have y0 := hb0.cell (i := 0) rfl
  have y1 := hb0.cell (i := 1) rfl
  have x0 := hb1.cell (i := 0) rfl
  clear h hinv hi hX hk0 hb0 hb1 hb2 hW0 hs0 hC hn hm hq hN
  unfold RFindP at HF
  go_enter Tryd.func42, Tryd.ntmps42
  go_upto_region 1 with fail
  rw [← HW0.out]
  go_wp2_with fail
  refine HF.out.mono ?_
  rintro e w1 ⟨z, rfl, hk1, hz⟩
  have HZ := Lib.hid hz
  have HK1 := Lib.hid hk1
  have b1 := hk1.blk HB0.out id
  have y0 := b1.cell (i := 0) rfl
  have y1 := b1.cell (i := 1) rfl
  clear hz hk1 HF x0
  go_upto_if 22 with fail
  go_cut [] (fun wx => RLessC X D l key w.heap.size W0 wx)
  case first =>
    rcases HZ.out with ⟨rfl, hno⟩ | ⟨xs, x, ys, hxs, hxk, hz⟩
    · have HNO := Lib.hid hno
      have e0 : decide ((0 : Int) ≤ -1) = false := by decide
      clear hno
      go_wp2_with fail
      go_meet
      refine ⟨D, l, X, .slice va q vc, .inl ⟨HNO.out, rfl, rfl⟩, ?_, HX.out.quiet (HK0.out.trans HK1.out), ?_, HK1.out.mono fun _ _ h => h.elim, .inl rfl⟩
      · rw [← HNN.out]; exact HK1.out.blk HB0.out id
      · rw [HQ.out]; exact (HH.out.quiet (HK0.out.trans HK1.out)).row
    · have HXS := Lib.hid hxs
      have HXK := Lib.hid hxk
      have HHX := Lib.hid (show HdAt w1 (.slice va q vc) (xs ++ x :: ys) from by rw [← hxs, HQ.out]; exact HH.out.quiet (HK0.out.trans HK1.out))
      have HIX : Hid (RInv D (xs ++ x :: ys)) := Lib.hid (by rw [← hxs]; exact HIN.out)
      have HO : Hid (Calls Tryd.prog 48 #[.agg #[.slice (some ⟨X.O, 0, none⟩) N X.cap, .slice va q vc], .int .i64 (xs.length : Int)] w1 (ROutP X D x.ch (xs ++ ys) w1)) := Lib.hid (by
        rw [HNN.out]
        exact rout_any X D HIN.out.ok _ xs ys x w1 (HX.out.quiet (HK0.out.trans HK1.out)) HHX.out)
      obtain ⟨t, ht⟩ : ∃ t, t = xs.length := ⟨_, rfl⟩
      rw [← ht] at HO hz
      subst hz
      have e0 : decide ((0 : Int) ≤ (t : Int)) = true := by simp
      unfold ROutP at HO
      clear hxs hxk ht
      go_wp2_with fail
      refine HO.out.mono ?_
      rintro e w2 ⟨Y, v', rfl, hY, hHd, hk2, ho⟩
      obtain ⟨ua, uc, hu⟩ := hHd.form
      subst hu
      obtain ⟨q', hq'⟩ : ∃ q', q' = (xs ++ ys).length := ⟨_, rfl⟩
      have HQ' := Lib.hid hq'
      rw [← hq'] at hHd ⊢
      clear hq'
      have b2 := hk2.blk b1 id
      have y0 := b2.cell (i := 0) rfl
      have y1 := b2.cell (i := 1) rfl
      have f0 := b2.free 0
      have f1 := b2.free 1
      have HY := Lib.hid hY
      have HHD := Lib.hid hHd
      have HO2 := Lib.hid ho
      have HB2' := Lib.hid b2
      have HK2 := Lib.hid (HK1.out.trans hk2)
      clear hY hHd ho b2 b1 hk2 HO
      go_wp2_with fail
      go_meet
      obtain ⟨hb3, hk3⟩ := st2 HB2'.out (.slice (some ⟨Y.O, 0, none⟩) D.n Y.cap) (.slice ua q' uc)
      refine ⟨D.less x.ch, xs ++ ys, Y, .slice ua q' uc, .inr ⟨xs, x, ys, HXS.out, HXK.out, rfl, rfl⟩, hb3, ?_, ?_, (HK2.out.mono fun _ _ h => h.elim).trans hk3, HO2.out.imp id fun h => h.mono (by have := HK1.out.size; omega)⟩
      · have := rg_keepB HY.out HB2'.out (by decide) (by decide) hk3
        rwa [took_less HIX.out] at this
      · exact hk3.own' HHD.out.row fun g hg e => own_ne_blk HB2'.out HHD.out.row (by decide) ((show g = w.heap.size from e) ▸ hg)
  case rest =>
    obtain ⟨D1, l1, X1, v1, hls, hbx, hr1, hrow1, hkw, ho1⟩ := hcut
    obtain ⟨w2, rfl⟩ : ∃ w2, w2 = wc := ⟨_, rfl⟩
    have HLS := Lib.hid hls
    have HBX := Lib.hid hbx
    have HR1 := Lib.hid hr1
    have HROW1 := Lib.hid hrow1
    have HKW := Lib.hid hkw
    have HO1 := Lib.hid ho1
    have hbi := hkw.blk HB1.out (by omega)
    have x0 := hbi.cell (i := 0) rfl
    have x1 := hbi.cell (i := 1) rfl
    have x2 := hbi.cell (i := 2) rfl
    have x3 := hbi.cell (i := 3) rfl
    have x4 := hbi.cell (i := 4) rfl
    have x5 := hbi.cell (i := 5) rfl
    clear hls hbx hr1 hrow1 hkw ho1 hbi b1 y0 y1
    go_wp2_with fail
    refine (HCH.out w2 HKW.out).mono ?_
    rintro e w3 ⟨rfl, hk3⟩
    have HK3 := Lib.hid hk3
    clear hk3
    go_wp2_with fail
    refine (rclass_any _ w3).mono ?_
    rintro e w4 ⟨cc, qq, rfl, hcs, hk4⟩
    obtain ⟨rfl, rfl⟩ : cc = (cls (C : Int) : Nat) ∧ qq = 0 := by
      rcases hcs with ⟨h, _⟩ | ⟨_, _, h1, h2⟩ | ⟨h, _⟩
      · omega
      · exact ⟨h1, h2⟩
      · omega
    obtain ⟨cl, hcl⟩ : ∃ cl, cl = cls (C : Int) := ⟨_, rfl⟩
    rw [← hcl]
    have HCL := Lib.hid hcl
    have hk24 : Keeps (fun _ => False) w2 w4 := HK3.out.trans hk4
    have HP0 : Hid (RPI W0 w.heap.size X N cl D1 l1 D1 l1 [] X1 v1 (.slice none 0 0) w4) := Lib.hid (by
      rw [HNN.out]
      exact ⟨hk24.blk HBX.out id, HR1.out.quiet hk24, hk24.own' HROW1.out (fun _ _ => id), .start, World.ownsRow_nil _ _ _ _, HKW.out.trans (hk24.mono fun _ _ h => h.elim), HO1.out⟩)
    clear hcs hk4 hcl hk24 x0 x1 x2 x3 x4 x5 HK3
    go_wp2_with fail
    go_loopw [9] (fun s9 wr => ∃ Dc lc gone Xc vc, RPI W0 w.heap.size X N cl D1 l1 Dc lc gone Xc vc s9 wr) (fun s9 _ => l1.length - slen8 s9)
    case atStart => exact ⟨_, _, _, _, _, HP0.out⟩
    case round =>
      obtain ⟨Dc, lc, gone, Xc, vc', hP⟩ := hrel
      have HPI := Lib.hid hP
      have HI1 : Hid (RInv D1 l1 ∧ D1.n = N) := Lib.hid (by rw [HNN.out]; exact HLS.out.inv HIN.out)
      have HIC : Hid (RInv Dc lc) := Lib.hid (hP.reach.inv HI1.out.1)
      have HNC : Hid (Dc.n = N) := Lib.hid (by rw [hP.reach.sub.2.2.1]; exact HI1.out.2)
      have HCHR : Hid (∀ W, Keeps (fun _ => False) wr W → Calls Tryd.prog 71 #[.agg #[.slice a n c, .slice b m d, .int .u32 fg, .int .u32 ex, .int .u64 sq, .bool dt]] W (IntP (C : Nat) W)) := Lib.hid (fun W hk => HCH.out W (HPI.out.keeps.trans (hk.mono fun _ _ h => h.elim)))
      have HGV : Hid (∀ W, Keeps (fun _ => False) wr W → Calls Tryd.prog 29 #[.agg #[.slice (some ⟨Xc.O, 0, none⟩) N Xc.cap], .int .i64 (C : Int)] W (fun e w' => ∃ r q D' Y, e = .returned (.tuple #[.agg #[.slice (some ⟨RG.O Y, 0, none⟩) N Y.cap], .int .i64 r, .int .i64 q]) ∧ GiveS Dc cl r q D' ∧ RgAt w' Y N (gv D') ∧ Keeps (fun _ => False) W w' ∧ (Y = Xc ∨ Y.Over N W.heap.size))) := Lib.hid (fun W hk => by
        have hg := rgive_any Xc Dc HIC.out.ok W (by rw [HNC.out]; exact HPI.out.ar.quiet hk) (C : Int)
        unfold RG.val at hg
        rw [HNC.out] at hg
        refine hg.mono ?_
        rintro e w' ⟨r, q, D', Y, rfl, h1, h2, h3, h4⟩
        rw [HNC.out] at h1 h3
        refine ⟨r, q, D', Y, by unfold RG.val; rw [HNC.out], ?_, h1, h2, h3⟩
        rcases h4 with ⟨h, _⟩ | ⟨_, _, h⟩ | ⟨h, _⟩
        · omega
        · rw [HCL.out]; exact h
        · omega)
      have FB : Hid (∀ W, Keeps (fun _ => False) wr W → Blk W w.heap.size 74 [.slice (some ⟨Xc.O, 0, none⟩) N Xc.cap, vc'] ∧ Blk W (w.heap.size + 1) 64 [.slice a n c, .slice b m d, .int .u32 fg, .int .u32 ex, .int .u64 sq, .bool dt]) := Lib.hid (fun W hk => ⟨hk.blk HPI.out.box id, (HPI.out.keeps.trans (hk.mono fun _ _ h => h.elim)).blk HB1.out (by omega)⟩)
      clear hP
      go_upto_region 6 with fail
      go_cut [10, 11, 12] (fun s10 s11 s12 wx => RGvC Dc cl N Xc s10 s11 s12 wr wx)
      case first =>
        have hE : Blk (wr.drew.alloc (.cells #[.slice none 0 0] 40)) wr.heap.size 40 [.slice none 0 0] := Blk.new wr.drew 40 [.slice none 0 0]
        have kE : Keeps (fun _ => False) wr (wr.drew.alloc (.cells #[.slice none 0 0] 40)) := ((Keeps.refl (fun _ => False) wr).drew).alloc _
        have HE := Lib.hid hE
        have KE := Lib.hid kE
        obtain ⟨q0, q1⟩ := FB.out _ (Keeps.refl _ _).drew
        have a0 := q0.cell (i := 0) rfl
        have a2 := q1.cell (i := 0) rfl
        have a3 := q1.cell (i := 1) rfl
        have a4 := q1.cell (i := 2) rfl
        have a5 := q1.cell (i := 3) rfl
        have a6 := q1.cell (i := 4) rfl
        have a7 := q1.cell (i := 5) rfl
        obtain ⟨q0, q1⟩ := FB.out _ ((Keeps.refl (fun _ => False) wr).alloc (.cells #[.slice none 0 0] 40))
        have c0 := q0.cell (i := 0) rfl
        have c2 := q1.cell (i := 0) rfl
        have c3 := q1.cell (i := 1) rfl
        have c4 := q1.cell (i := 2) rfl
        have c5 := q1.cell (i := 3) rfl
        have c6 := q1.cell (i := 4) rfl
        have c7 := q1.cell (i := 5) rfl
        clear hE kE q0 q1
        go_region_with (first
          | (go_at_call 71; refine (HCHR.out _ (Keeps.refl _ _).drew).mono ?_; rintro e w5 ⟨rfl, hk5⟩; have k5 : Keeps (fun _ => False) wr w5 := (Keeps.refl (fun _ => False) wr).drew.trans hk5; obtain ⟨q0, q1⟩ := FB.out _ k5; have d0 := q0.cell (i := 0) rfl; obtain ⟨q0, q1⟩ := FB.out _ (k5.alloc (.cells #[.slice none 0 0] 40)); have e0 := q0.cell (i := 0) rfl; clear q0 q1)
          | (go_at_call 71; refine (HCHR.out _ KE.out).mono ?_; rintro e w5 ⟨rfl, hk5⟩; have k5 : Keeps (fun _ => False) wr w5 := KE.out.trans hk5; have hA5 := hk5.blk HE.out id; obtain ⟨q0, q1⟩ := FB.out _ k5; have d0 := q0.cell (i := 0) rfl; clear q0 q1)
          | (go_at_call 29; refine (HGV.out w5 k5).mono ?_; rintro e w6 ⟨r, q, D', Y, rfl, hgs, hY, hk6, ho⟩; have hA6 := hk6.blk hA5 id; have g0 := hA6.cell (i := 0) rfl; have g1 := hA6.free 0)
          | (go_at_call 29; refine (HGV.out w5 k5).mono ?_; rintro e w6 ⟨r, q, D', Y, rfl, hgs, hY, hk6, ho⟩)
          | (go_at_call 29; refine (HGV.out _ (k5.alloc (.cells #[.slice none 0 0] 40))).mono ?_; rintro e w6 ⟨r, q, D', Y, rfl, hgs, hY, hk6, ho⟩; have hA6 := hk6.blk (Blk.new w5 40 [.slice none 0 0]) id; have g0 := hA6.cell (i := 0) rfl; have g1 := hA6.free 0))
        all_goals
          go_wp2_with fail
          go_meet
          first
            | exact rgv_new hgs hY k5 hk6 ho
            | exact rgv_old hgs hY k5 hk6 ho hA6 (Nat.le_refl _)
            | exact rgv_old hgs hY (k5.alloc (.cells #[.slice none 0 0] 40)) hk6 ho hA6 k5.size
            | fail
      case rest =>
        obtain ⟨r, e6, D', Y, A, rfl, rfl, rfl, hgs, hY, hA, hk, ho⟩ := hcut
        obtain ⟨wg, rfl⟩ : ∃ wg, wg = wc := ⟨_, rfl⟩
        have HGS := Lib.hid hgs
        have HY := Lib.hid hY
        have HA := Lib.hid hA
        have HK := Lib.hid hk
        have HOV : Hid (Y = X ∨ Y.Over N W0.heap.size) := Lib.hid (by
          rcases ho with rfl | h
          · exact HPI.out.over
          · exact .inr (h.mono HPI.out.keeps.size))
        have HBG := Lib.hid ((FB.out _ hk).1)
        have HIG := Lib.hid ((FB.out _ hk).2)
        obtain ⟨ua, uc, hu⟩ := own_formQ HPI.out.hd
        obtain ⟨k, hkl⟩ : ∃ k, k = lc.length := ⟨_, rfl⟩
        rw [← hkl] at hu
        have HKL := Lib.hid hkl
        have hkle : k ≤ 99999 := by
          have h1 := HPI.out.reach.sub.2.2.2
          have h2 := HLS.out.len
          have h3 := HQ.out
          omega
        subst hu
        have HRW : Hid (wg.ownsRow 0 86 8 (.slice ua k uc) k (heldC lc)) := Lib.hid (by
          have h0 := hk.own' HPI.out.hd (fun _ _ => id)
          rw [← HKL.out] at h0
          exact h0)
        have HG9 : Hid (wg.ownsRow W0.heap.size 64 6 u9 gone.length (itemCells gone)) := Lib.hid (hk.own' HPI.out.row (fun _ _ => id))
        have hq6 := give_q hgs
        have HRL := Lib.hid (show ∀ m : Nat, e6 = 0 → r = (m : Int) → m ≤ 1000000 from fun m h06 hm => by
          have hD := HIC.out.ok.give (by rw [HCL.out]; exact cls_lt _) hgs
          rcases give_has HIC.out.ok (by rw [HCL.out]; exact cls_lt _) hgs with ⟨_, hr0⟩ | ⟨_, m', h1, _, h2, _⟩
          · omega
          · have h4 := HNC.out
            have h5 := HPI.out.ar.n2
            omega)
        clear hgs hY hA hk ho hkl HCHR HGV FB
        rcases hq6 with ⟨rfl, hDD, hfull⟩ | ⟨rfl, m', rfl⟩
        · have e0 : ((6 : Int) == 0) = false := by decide
          have hbg := HBG.out
          have g0 := hbg.cell (i := 0) rfl
          have g1 := hbg.cell (i := 1) rfl
          have HSUB : Hid (∀ y ∈ lc, y ∈ l) := Lib.hid (fun y hy => HLS.out.sub y (HPI.out.reach.sub.1 y hy))
          have HKA : Hid (Keeps (fun _ => False) w wg) := Lib.hid (((HK0.out.mono (S' := fun k => k = w.heap.size) fun _ _ h => h.elim).trans (HPI.out.keeps.trans (HK.out.mono fun _ _ h => h.elim))).mono fun k hk e => by
            have e : k = w.heap.size := e
            omega)
          have HLEN : Hid (lc.length ≤ l.length) := Lib.hid (by
            have h1 := HPI.out.reach.sub.2.2.2
            have h2 := HLS.out.len
            omega)
          have HHD : Hid (HdAt wg (.slice ua k uc) lc) := Lib.hid (HH.out.from HSUB.out HLEN.out HKA.out (by rw [← HKL.out]; exact HRW.out))
          have HFU := Lib.hid hfull
          have HCL8 : Hid (cl < 8) := Lib.hid (by rw [HCL.out]; exact cls_lt _)
          have HNE : Hid (lc ≠ []) := Lib.hid (HIC.out.some (by rw [HNC.out]; exact HPI.out.ar.n1) hfull.2)
          have HOL := Lib.hid (roldest_any (some ⟨Xc.O, 0, none⟩) N Xc.cap (.slice ua k uc) lc cl wg HHD.out (by have := HCL8.out; omega))
          unfold ROldP at HOL
          clear hbg hfull hDD
          go_wp2_with fail
          refine HOL.out.mono ?_
          rintro e wa ⟨zz, rfl, hka, hzz⟩
          have HZZ : Hid (OldK lc cl 0 zz) := Lib.hid (by
            rcases hzz with ⟨rfl, h1⟩ | ⟨xs, x, ys, h1, h2, h3, h4⟩
            · exact .inl ⟨rfl, h1, fun j hj => absurd hj (Nat.not_lt_zero _)⟩
            · refine .inr ⟨xs, x, ys, h1, ⟨?_, .inl h2⟩, by rw [h2]; exact h3, h4⟩
              rw [h1, lsOf_mid]
              simp)
          have HKA2 := Lib.hid hka
          clear hzz hka HOL g0 g1
          go_wp2_with fail
          go_loopw [15, 16] (fun s15 s16 wq => ∃ (c : Nat) (zz : Int), c ≤ 8 ∧ s16 = .int .i64 (c : Int) ∧ s15 = .int .i64 zz ∧ OldK lc cl c zz ∧ Keeps (fun _ => False) wg wq) (fun _ s16 _ => 8 - (intOf s16).toNat)
          case atStart => exact ⟨0, zz, by omega, rfl, rfl, HZZ.out, HKA2.out⟩
          case round =>
            obtain ⟨cc, zc, hc8, rfl, rfl, hok, hkr⟩ := hrel
            have HOK := Lib.hid hok
            have HKR := Lib.hid hkr
            have hb := hkr.blk HBG.out id
            have b0 := hb.cell (i := 0) rfl
            have b1 := hb.cell (i := 1) rfl
            have f0 := hb.free 0
            have f1 := hb.free 1
            have HBR := Lib.hid hb
            clear hb hkr
            rcases hok with ⟨rfl, hn1, hn2⟩ | ⟨xs, x, ys, hxs, hpk, hys, hzc⟩
            · by_cases hlt : cc < 8
              · have hlt' : (cc : Int) < 8 := by omega
                have hm1 : (-1 : Int) < 0 := by decide
                have HN1 := Lib.hid hn1
                have HN2 := Lib.hid hn2
                have HOL := Lib.hid (roldest_any (some ⟨Xc.O, 0, none⟩) N Xc.cap (.slice ua k uc) lc cc wr (HHD.out.quiet HKR.out) (by omega))
                unfold ROldP at HOL
                clear hn1 hn2
                go_wp2_with fail
                refine HOL.out.mono ?_
                rintro e wb ⟨zz', rfl, hkb, hzz⟩
                have HKB := Lib.hid (HKR.out.trans hkb)
                have HZ2 : Hid (OldK lc cl (cc + 1) zz') := Lib.hid (by
                  rcases hzz with ⟨rfl, h1⟩ | ⟨xs, x, ys, h1, h2, h3, h4⟩
                  · refine .inl ⟨rfl, HN1.out, fun j hj => ?_⟩
                    by_cases e : j = cc
                    · rw [e]; exact h1
                    · exact HN2.out j (by omega)
                  · refine .inr ⟨xs, x, ys, h1, ⟨?_, .inr ⟨HN1.out, by omega, fun j hj => HN2.out j (by omega)⟩⟩, by rw [h2]; exact h3, h4⟩
                    rw [h1, lsOf_mid]
                    simp)
                clear hzz hkb HOL
                go_wp2_with fail
                go_roundw
                case rel => exact ⟨cc + 1, zz', by omega, by go_num, rfl, HZ2.out, HKB.out⟩
                case measure => simp [intOf]; omega
              · exact absurd (HIC.out.empty fun j hj => hn2 j (by omega)) HNE.out
            · obtain ⟨p, hp⟩ : ∃ p, p = xs.length := ⟨_, rfl⟩
              rw [← hp] at hzc
              subst hzc
              have hpos : ¬ ((p : Int) < 0) := by omega
              have HXS := Lib.hid hxs
              have HPK := Lib.hid hpk
              have HYS := Lib.hid hys
              have HPP := Lib.hid hp
              have hpk' : p < k := by rw [HKL.out, hxs, hp]; simp
              have hpk2 : (p : Int) < (k : Int) := by omega
              have hxl : lc[p]? = some x := by rw [hxs, hp]; simp
              obtain ⟨g', cc', hg, _, hc⟩ := HHD.out.at hxl
              injection hg with hg hg2 hg3
              subst hg hg3
              have hxr := HHD.out.rd x (List.mem_of_getElem? hxl)
              obtain ⟨⟨yk, ykc, hyk, _⟩, ⟨yv, yvc, hyv, _⟩⟩ := hxr
              have c0 := hc _ HKR.out 0 _ rfl
              have c1 := hc _ HKR.out 1 _ rfl
              have c2 := hc _ HKR.out 2 _ rfl
              have c3 := hc _ HKR.out 3 _ rfl
              have c4 := hc _ HKR.out 4 _ rfl
              have c5 := hc _ HKR.out 5 _ rfl
              rw [hyk] at c0
              rw [hyv] at c1
              simp only [Nat.add_zero] at c0
              obtain ⟨cs, hcs⟩ : ∃ cs, cs = [Value.slice yk x.it.key.length ykc, .slice yv x.it.val.length yvc, .int .u32 x.it.fg, .int .u32 x.it.ex, .int .u64 x.it.sq, .bool x.it.dt] := ⟨_, rfl⟩
              have hyc : cs = x.it.cells x.kv x.vv := by rw [hyk, hyv]; exact hcs
              have hcl6 : cs.length = 6 := by rw [hcs]; rfl
              obtain ⟨W3, hW3⟩ : ∃ W3, W3 = wr.alloc (.cells #[.slice yk x.it.key.length ykc, .slice yv x.it.val.length yvc, .int .u32 x.it.fg, .int .u32 x.it.ex, .int .u64 x.it.sq, .bool x.it.dt] 64) := ⟨_, rfl⟩
              have hb2 : Blk W3 wr.heap.size 64 cs := by rw [hW3, hcs]; exact Blk.new wr 64 _
              have hk2 : Keeps (fun _ => False) wr W3 := by rw [hW3]; exact (Keeps.refl _ _).alloc _
              have HNW : Hid (∀ j u, cs[j]? = some u → W3.cell? ((⟨wr.heap.size, 0, none⟩ : Addr).add j) = some u) := Lib.hid (fun j u hu => by rw [add0]; exact hb2.cell hu)
              have HONE : Hid (∀ u ∈ cs, u.oneCell' = true) := Lib.hid (by rw [hcs]; intro u hu; simp at hu; rcases hu with rfl | rfl | rfl | rfl | rfl | rfl <;> rfl)
              have HR2 : Hid (W3.ownsRow W0.heap.size 64 6 u9 gone.length (itemCells gone)) := Lib.hid (hk2.own' (HKR.out.own' HG9.out (fun _ _ => id)) (fun _ _ => id))
              have hgl : gone.length ≤ 99999 := by
                have h1 := HPI.out.reach.sub.2.2.2
                have h2 := HLS.out.len
                have h3 := HQ.out
                omega
              have hbs : W0.heap.size ≤ W3.heap.size := by have h1 := HPI.out.keeps.size; have h2 := HK.out.size; have h3 := HKR.out.size; have h4 := hk2.size; omega
              have HYC := Lib.hid hyc
              have HK2 := Lib.hid (HKR.out.trans hk2)
              have HW3 := Lib.hid hW3
              obtain ⟨i64, z64, hi1, hz0, hzc, hz1, hz2⟩ := info64'
              have hzs : z64.cells.size = 6 := by rw [hzc]; rfl
              clear hxs hpk hys hp hxl hc hyk hyv hcs hyc hb2 hk2 hW3 hzc hg2
              go_upto_region 18 with fail
              go_cut [77] (fun s77 wx => s77 = .bool false ∧ wx = wr)
              case first =>
                by_cases h8 : cc < 8
                · have h8' : (cc : Int) < 8 := by omega
                  go_wp2_with fail
                  go_meet
                  exact ⟨rfl, rfl⟩
                · have h8' : ¬ ((cc : Int) < 8) := by omega
                  go_wp2_with fail
                  go_meet
                  exact ⟨rfl, rfl⟩
              obtain ⟨rfl, hwc⟩ := hcut
              obtain rfl := hwc.symm
              go_wp2_with (at_builtin; rw [← HW3.out]; refine wpList_append_own _ rfl _ _ 58 rfl W0.heap.size 64 i64 z64 6 72 Tryd.underlying58 hi1 hz0 hz1 hz2 hzs (by decide) _ _ _ rfl HR2.out ⟨wr.heap.size, 0, none⟩ 1 1 cs rfl (by omega) HNW.out HONE.out (by unfold maxLen; omega) (by omega) hbs ?_)
              intro v' w5 hown' hgrow _
              have hkg : Keeps (fun k => u9.ownBlock = some k) W3 w5 := Keeps.of_grown hgrow
              have HO5 : Hid (w5.ownsRow W0.heap.size 64 6 v' (gone ++ [x]).length (itemCells (gone ++ [x]))) := Lib.hid (by
                rw [itemCells_snoc, List.length_append, ← HYC.out]
                exact hown')
              have hk35 : Keeps (fun k => W0.heap.size ≤ k) wg w5 := (HK2.out.mono fun _ _ h => h.elim).trans (hkg.mono fun k _ e => (own_heap HR2.out e).1)
              have hrg3 : RgAt W3 Xc N (gv Dc) := HPI.out.ar.quiet (HK.out.trans HK2.out)
              have hrg5 : RgAt w5 Xc N (gv Dc) := hrg3.keep hkg fun g cur t ht hc e => by
                obtain ⟨_, _, cur', hc'⟩ := own_heap HR2.out e
                rw [hc] at hc'
                injection hc' with hc'
                injection hc' with _ hc'
                rcases ht with rfl | rfl <;> cases hc'
              have hrw3 := HK2.out.own' HRW.out (fun _ _ => id)
              have hrw5 := hkg.own' hrw3 (own_ne_own hrw3 HR2.out (by decide))
              have hhd5 : HdAt w5 (.slice (some ⟨g', 0, none⟩) k uc) lc := HH.out.from HSUB.out HLEN.out (((HKA.out.mono (S' := fun k => W0.heap.size ≤ k) fun _ _ h => h.elim).trans hk35).mono fun k hk e => by
                have e : W0.heap.size ≤ k := e
                have := HK0.out.size
                omega) (by rw [← HKL.out]; exact hrw5)
              have hb5 : Blk w5 w.heap.size 74 [.slice (some ⟨Xc.O, 0, none⟩) N Xc.cap, .slice (some ⟨g', 0, none⟩) k uc] := hkg.blk (HK2.out.blk HBG.out id) (own_ne_blk (HK2.out.blk HBG.out id) HR2.out (by decide))
              have HOUT : Hid (Calls Tryd.prog 48 #[.agg #[.slice (some ⟨Xc.O, 0, none⟩) N Xc.cap, .slice (some ⟨g', 0, none⟩) k uc], .int .i64 (p : Int)] w5 (fun e w' => ∃ (Z : RG) (vz : Value), e = .returned (.agg #[.slice (some ⟨Z.O, 0, none⟩) N Z.cap, vz]) ∧ RgAt w' Z N (gv (Dc.less x.ch)) ∧ w'.ownsRow 0 86 8 vz (xs ++ ys).length (heldC (xs ++ ys)) ∧ Keeps (fun _ => False) w5 w' ∧ (Z = Xc ∨ Z.Over N w5.heap.size))) := Lib.hid (by
                have hXS := HXS.out
                have hI : RInv Dc (xs ++ x :: ys) := by rw [← hXS]; exact HIC.out
                have h0 := rout_any Xc Dc hI.ok (.slice (some ⟨g', 0, none⟩) k uc) xs ys x w5 (by rw [HNC.out]; exact hrg5) (by rw [← hXS]; exact hhd5)
                rw [HNC.out, ← HPP.out] at h0
                refine h0.mono ?_
                rintro e w' ⟨Z, vz, rfl, h1, h2, h3, h4⟩
                rw [took_less hI, HNC.out] at h1
                rw [HNC.out] at h4 ⊢
                exact ⟨Z, vz, rfl, h1, h2.row, h3, h4⟩)
              have HB5 := Lib.hid hb5
              have HK35 := Lib.hid hk35
              have q0 := hb5.cell (i := 0) rfl
              have q1 := hb5.cell (i := 1) rfl
              clear hown' hgrow HNW HONE hkg hk35 hrg3 hrg5 hrw3 hrw5 hhd5 hb5 c0 c1 c2 c3 c4 c5 b0 b1 f0 f1
              go_wp2_with fail
              refine HOUT.out.mono ?_
              rintro e w6 ⟨Z, vz, rfl, hZ, hrz, hk6, hoz⟩
              obtain ⟨ea, ec, hez⟩ := own_formQ hrz
              obtain ⟨k', hk'⟩ : ∃ k', k' = (xs ++ ys).length := ⟨_, rfl⟩
              have HKP := Lib.hid hk'
              rw [← hk'] at hez
              subst hez
              have hb6 := hk6.blk HB5.out id
              have q0 := hb6.cell (i := 0) rfl
              have q1 := hb6.cell (i := 1) rfl
              have g0 := hb6.free 0
              have g1 := hb6.free 1
              have HB6 := Lib.hid hb6
              have HZ := Lib.hid hZ
              have HRZ := Lib.hid hrz
              have HK6 := Lib.hid hk6
              have HOZ := Lib.hid hoz
              clear hb6 hZ hrz hk6 hoz hk' HOUT
              go_wp2_with fail
              go_roundw
              case rel =>
                obtain ⟨hb7, hk7⟩ := st2 HB6.out (.slice (some ⟨Z.O, 0, none⟩) N Z.cap) (.slice ea k' ec)
                have hlow : w.heap.size < W0.heap.size := by have := HS0.out; omega
                refine ⟨Dc.less x.ch, xs ++ ys, gone ++ [x], Z, .slice ea k' ec, hb7, rg_keepB HZ.out HB6.out (by decide) (by decide) hk7, hk7.own' HRZ.out fun g hg e => own_ne_blk HB6.out HRZ.out (by decide) ((show g = w.heap.size from e) ▸ hg), ?_, hk7.own' (HK6.out.own' HO5.out (fun _ _ => id)) fun g hg e => ?_, ?_, ?_⟩
                · refine .next ?_ HFU.out ?_ HYS.out
                  · rw [← HXS.out]; exact HPI.out.reach
                  · rw [← HXS.out]; exact HPK.out
                · have h1 := (own_heap HO5.out hg).1
                  have e : g = w.heap.size := e
                  omega
                · refine ((((HPI.out.keeps.trans (HK.out.mono fun _ _ h => h.elim)).mono (S' := fun k => k = w.heap.size ∨ W0.heap.size ≤ k) fun _ _ h => .inl h).trans (HK35.out.mono fun _ _ h => .inr h)).trans ((HK6.out.mono (S' := fun k => k = w.heap.size ∨ W0.heap.size ≤ k) fun _ _ h => h.elim).trans (hk7.mono fun _ _ h => .inl h))).mono fun k hk e => ?_
                  rcases e with e | e
                  · exact e
                  · omega
                · rcases HOZ.out with rfl | h
                  · exact HPI.out.over
                  · refine .inr (h.mono ?_)
                    have h1 := HPI.out.keeps.size
                    have h2 := HK.out.size
                    have h3 := HK35.out.size
                    omega
              case measure =>
                have h1 := HPI.out.reach.sub.2.2.2
                have h2 : 1 ≤ lc.length := by rw [HXS.out]; simp; omega
                have h3 := slen8_own HPI.out.row
                have h4 := slen8_own HO5.out
                simp at h4 ⊢
                omega
        · have e0 : ((0 : Int) == 0) = true := by decide
          have hbg := HBG.out
          have hig := HIG.out
          have g0 := HA.out.cell (i := 0) rfl
          have g1 := hbg.cell (i := 0) rfl
          have g2 := hbg.free 0
          clear hbg hig
          go_upto_region 9 with fail
          obtain ⟨yO, hyO⟩ : ∃ yO, yO = Value.slice (some ⟨Y.O, 0, none⟩) N Y.cap := ⟨_, rfl⟩
          have HYO := Lib.hid hyO
          obtain ⟨W1, hW1⟩ : ∃ W1, W1 = wg.setCell ⟨w.heap.size, 0, none⟩ (.slice (some ⟨Y.O, 0, none⟩) N Y.cap) := ⟨_, rfl⟩
          have hk1 : Keeps (fun k => k = w.heap.size) wg W1 := by rw [hW1]; exact (Keeps.refl (fun k => k = w.heap.size) wg).store (p := ⟨w.heap.size, 0, none⟩) (.inl rfl) _
          have hb1 : Blk W1 w.heap.size 74 [.slice (some ⟨Y.O, 0, none⟩) N Y.cap, .slice ua k uc] := by rw [hW1]; exact HBG.out.store 0 _
          have hi1 := hk1.blk HIG.out (by omega)
          have x0 := hi1.cell (i := 0) rfl
          have x1 := hi1.cell (i := 1) rfl
          have x2 := hi1.cell (i := 2) rfl
          have x3 := hi1.cell (i := 3) rfl
          have x4 := hi1.cell (i := 4) rfl
          have x5 := hi1.cell (i := 5) rfl
          have HKW1 := Lib.hid ((HPI.out.keeps.trans (HK.out.mono fun _ _ h => h.elim)).trans hk1)
          have HY1 := Lib.hid (rg_keepB HY.out HBG.out (by decide) (by decide) hk1)
          have HR1' : Hid (W1.ownsRow 0 86 8 (.slice ua k uc) k (heldC lc)) := Lib.hid (hk1.own' HRW.out fun g hg e => own_ne_blk HBG.out HRW.out (by decide) ((show g = w.heap.size from e) ▸ hg))
          have HG91 : Hid (W1.ownsRow W0.heap.size 64 6 u9 gone.length (itemCells gone)) := Lib.hid (hk1.own' HG9.out fun g hg e => own_ne_blk HBG.out HG9.out (by decide) ((show g = w.heap.size from e) ▸ hg))
          have HB1' := Lib.hid hb1
          rw [← hW1]
          clear hW1 hk1 hb1 hi1 g0 g1 g2 hyO
          go_upto_region 10 with fail
          obtain ⟨x, hx⟩ : ∃ x : HM, x = ⟨⟨key, val, fg, ex, sq, dt⟩, m', cl, .slice a n c, .slice b m d⟩ := ⟨_, rfl⟩
          have HX' := Lib.hid hx
          obtain ⟨W2, hW2⟩ : ∃ W2, W2 = W1.alloc (.cells #[.slice a n c, .slice b m d, .int .u32 fg, .int .u32 ex, .int .u64 sq, .bool dt, .int .i64 (m' : Int), .int .i64 (cl : Int)] 86) := ⟨_, rfl⟩
          have hk2 : Keeps (fun _ => False) W1 W2 := by rw [hW2]; exact (Keeps.refl _ _).alloc _
          have HNEW : Hid (W2.ownsRow W1.heap.size 86 8 (.slice (some ⟨W1.heap.size, 0, none⟩) 1 1) 1 (heldC [x])) := Lib.hid (by
            rw [hW2, hx]
            exact own_newH W1 W1.heap.size (HM.cells ⟨⟨key, val, fg, ex, sq, dt⟩, m', cl, .slice a n c, .slice b m d⟩) (Nat.le_refl _) rfl)
          have HKK2 := Lib.hid hk2
          rw [← hW2]
          clear hW2 hx hk2 x0 x1 x2 x3 x4 x5
          obtain ⟨i86, z86, hi1, hz0, hzc, hz1, hz2⟩ := info86'
          have hzs : z86.cells.size = 8 := by rw [hzc]; rfl
          clear hzc
          have HSUB : Hid (∀ y ∈ lc, y ∈ l) := Lib.hid (fun y hy => HLS.out.sub y (HPI.out.reach.sub.1 y hy))
          have HKA : Hid (Keeps (fun _ => False) w W1) := Lib.hid (((HK0.out.mono (S' := fun k => k = w.heap.size) fun _ _ h => h.elim).trans HKW1.out).mono fun k hk e => by
            have e : k = w.heap.size := e
            omega)
          have HLEN : Hid (lc.length ≤ l.length) := Lib.hid (by
            have h1 := HPI.out.reach.sub.2.2.2
            have h2 := HLS.out.len
            omega)
          have HHD : Hid (HdAt W1 (.slice ua k uc) lc) := Lib.hid (HH.out.from HSUB.out HLEN.out HKA.out (by rw [← HKL.out]; exact HR1'.out))
          go_wp2_with fail
          go_loopw [13, 14] (fun s13 s14 wq => ∃ t : Nat, t ≤ k ∧ s14 = .int .i64 (t : Int) ∧ wq.ownsRow W1.heap.size 86 8 s13 (t + 1) (heldC (x :: lc.take t)) ∧ Keeps (fun _ => False) W1 wq) (fun _ s14 _ => k - (intOf s14).toNat)
          case atStart => exact ⟨0, Nat.zero_le _, rfl, HNEW.out, HKK2.out⟩
          case round =>
            obtain ⟨t, ht, rfl, hrow, hkr⟩ := hrel
            have HROW := Lib.hid hrow
            have HKR := Lib.hid hkr
            have hb := hkr.blk HB1'.out id
            have b0 := hb.cell (i := 0) rfl
            have b1 := hb.cell (i := 1) rfl
            have f1 := hb.free 1
            by_cases hlt : t < k
            · have hlt' : (t : Int) < (k : Int) := by omega
              obtain ⟨y, hy⟩ : ∃ y, lc[t]? = some y := ⟨_, List.getElem?_eq_getElem (by rw [← HKL.out]; exact hlt)⟩
              obtain ⟨g', cc', hg, _, hc⟩ := HHD.out.at hy
              injection hg with hg hg2 hg3
              subst hg hg3
              clear hg2
              have hyr := HHD.out.rd y (List.mem_of_getElem? hy)
              have hone := held_one y hyr
              obtain ⟨⟨yk, ykc, hyk, _⟩, ⟨yv, yvc, hyv, _⟩⟩ := hyr
              have c0 := hc _ HKR.out 0 _ rfl
              have c1 := hc _ HKR.out 1 _ rfl
              have c2 := hc _ HKR.out 2 _ rfl
              have c3 := hc _ HKR.out 3 _ rfl
              have c4 := hc _ HKR.out 4 _ rfl
              have c5 := hc _ HKR.out 5 _ rfl
              have c6 := hc _ HKR.out 6 _ rfl
              have c7 := hc _ HKR.out 7 _ rfl
              rw [hyk] at c0
              rw [hyv] at c1
              simp only [Nat.add_zero] at c0
              obtain ⟨cs, hcs⟩ : ∃ cs, cs = [Value.slice yk y.it.key.length ykc, .slice yv y.it.val.length yvc, .int .u32 y.it.fg, .int .u32 y.it.ex, .int .u64 y.it.sq, .bool y.it.dt, .int .i64 (y.ch : Int), .int .i64 (y.cl : Int)] := ⟨_, rfl⟩
              have hyc : cs = y.cells := by unfold YthnagihgjenimaaDoor.HM.cells; rw [hyk, hyv]; exact hcs
              have hcl8 : cs.length = 8 := by rw [hcs]; rfl
              obtain ⟨W3, hW3⟩ : ∃ W3, W3 = wr.alloc (.cells #[.slice yk y.it.key.length ykc, .slice yv y.it.val.length yvc, .int .u32 y.it.fg, .int .u32 y.it.ex, .int .u64 y.it.sq, .bool y.it.dt, .int .i64 (y.ch : Int), .int .i64 (y.cl : Int)] 86) := ⟨_, rfl⟩
              have hb2 : Blk W3 wr.heap.size 86 cs := by rw [hW3, hcs]; exact Blk.new wr 86 _
              have hk2 : Keeps (fun _ => False) wr W3 := by rw [hW3]; exact (Keeps.refl _ _).alloc _
              have HNW : Hid (∀ j u, cs[j]? = some u → W3.cell? ((⟨wr.heap.size, 0, none⟩ : Addr).add j) = some u) := Lib.hid (fun j u hu => by rw [add0]; exact hb2.cell hu)
              have HONE : Hid (∀ u ∈ cs, u.oneCell' = true) := Lib.hid (by rw [hyc]; exact hone)
              have HR2 : Hid (W3.ownsRow W1.heap.size 86 8 u13 (t + 1) (heldC (x :: lc.take t))) := Lib.hid (hk2.own' HROW.out (fun _ _ => id))
              have hbs : W1.heap.size ≤ W3.heap.size := by have h2 := hkr.size; have h3 := hk2.size; omega
              have HYC := Lib.hid hyc
              have HK2 := Lib.hid (HKR.out.trans hk2)
              have HW3 := Lib.hid hW3
              have HYY := Lib.hid hy
              clear hrow hkr hb hc hone hyk hyv hcs hyc hb2 hk2 hW3 hy
              go_wp2_with (at_builtin; rw [← HW3.out]; refine wpList_append_own _ rfl _ _ 72 rfl W1.heap.size 86 i86 z86 8 88 Tryd.underlying72 hi1 hz0 hz1 hz2 hzs (by decide) _ _ _ rfl HR2.out ⟨wr.heap.size, 0, none⟩ 1 1 cs rfl (by omega) HNW.out HONE.out (by unfold maxLen; omega) (by omega) hbs ?_)
              intro v' w5 hown' hgrow _
              have HO3 := Lib.hid hown'
              have HK3 : Hid (Keeps (fun _ => False) W1 w5) := Lib.hid (((HK2.out.mono (S' := fun k => W1.heap.size ≤ k) fun _ _ h => h.elim).trans ((Keeps.of_grown hgrow).mono fun k _ e => (own_heap HR2.out e).1)).mono fun k hk h => by
                have h : W1.heap.size ≤ k := h
                omega)
              clear hown' hgrow HNW HONE HR2
              go_wp2_with fail
              go_roundw
              case rel => exact ⟨t + 1, by omega, by go_num, by
                rw [List.take_add_one, HYY.out]
                show World.ownsRow _ _ _ _ _ _ (heldC (x :: (_ ++ [_])))
                rw [← List.cons_append, heldC_snoc, ← HYC.out]
                exact HO3.out, HK3.out⟩
              case measure => simp [intOf]; omega
            · have hlt' : ¬ ((t : Int) < (k : Int)) := by omega
              obtain rfl : t = k := by omega
              obtain ⟨sa, sc, hs⟩ := own_formQ hrow
              subst hs
              have hb2 : Blk wr (w.heap.size + 1 + 1) 74 [.slice none 0 0, .slice none 0 0] := hkr.blk (HKW1.out.blk HB2.out (by omega)) id
              have y0 := hb2.cell (i := 0) rfl
              have y1 := hb2.cell (i := 1) rfl
              have g0 := hb2.free 0
              have g1 := hb2.free 1
              have HBR := Lib.hid hb
              have HB2R := Lib.hid hb2
              have hyO := HYO.out
              subst hyO
              clear hb hb2 hrow hkr
              go_wp2_with fail
              have hst1 : Keeps (fun k => k = w.heap.size) wr (wr.setCell ⟨w.heap.size, 1, none⟩ (.slice sa (t + 1) sc)) := (Keeps.refl (fun k => k = w.heap.size) wr).store (p := ⟨w.heap.size, 1, none⟩) (.inl rfl) _
              have hb2' := hst1.blk HB2R.out (by omega)
              obtain ⟨ho, hk9⟩ := st2 hb2' (.slice (some ⟨Y.O, 0, none⟩) N Y.cap) (.slice sa (t + 1) sc)
              have q0 := ho.cell (i := 0) rfl
              have q1 := ho.cell (i := 1) rfl
              have hs0 := HS0.out
              have hkf := (hst1.mono (S' := fun k => k = w.heap.size ∨ k = w.heap.size + 1 + 1) fun k _ e => .inl e).trans (hk9.mono fun k _ e => .inr e)
              have hW1 : w.heap.size + 3 ≤ W1.heap.size := by have := HKW1.out.size; omega
              have hkall : Keeps (fun _ => False) w _ := (((HKA.out.trans HKR.out).mono (S' := fun k => k = w.heap.size ∨ k = w.heap.size + 1 + 1) fun _ _ h => h.elim).trans hkf).mono (S' := fun _ => False) fun k hk e => by rcases e with e | e <;> omega
              refine bodyPost_ret (v := .tuple #[.agg #[.slice (some ⟨Y.O, 0, none⟩) N Y.cap, .slice sa (t + 1) sc], u9]) (by simp [results, Tryd.f42, go_sem, q0, q1]) rfl ?_
              refine ⟨D1, l1, Dc, lc, gone, m', D', Y, .slice sa (t + 1) sc, u9, by rw [HNN.out], HLS.out, ?_, ?_, ?_, ?_, ?_, hkall, ?_⟩
              · rw [← HC.out, ← HCL.out]; exact HPI.out.reach
              · rw [← HC.out, ← HCL.out]; exact HGS.out
              · rw [← HNN.out]
                exact rg_keepB (rg_keepB (HY1.out.quiet HKR.out) HBR.out (by decide) (by decide) hst1) hb2' (by decide) (by decide) hk9
              · rw [← HC.out, ← HCL.out]
                have hrow := HROW.out
                rw [show lc.take t = lc from List.take_of_length_le (by have := HKL.out; omega)] at hrow
                have hrow2 := own_low (base' := 0) (hkf.own' hrow fun g hg e => by
                  have h1 := (own_heap hrow hg).1
                  rcases e with e | e <;> omega) (Nat.zero_le _)
                rw [HX'.out] at hrow2
                refine ⟨by rw [List.length_cons, ← HKL.out]; exact own_low hrow2 (Nat.zero_le _), fun h hh => ?_, fun h hh => ?_, by rw [List.length_cons, ← HKL.out]; omega⟩
                · rcases List.mem_cons.1 hh with rfl | hh
                  · have h1 := HIT.out.quiet hkall
                    rw [← HN.out, ← HMV.out] at h1
                    exact h1
                  · exact (HH.out.rd h (HSUB.out h hh)).quiet hkall
                · rcases List.mem_cons.1 hh with rfl | hh
                  · exact ⟨HI.out, HRL.out m' (by simp) rfl, by show cl ≤ 1000; rw [HCL.out]; have := cls_lt (C : Int); omega⟩
                  · exact HH.out.ok h (HSUB.out h hh)
              · have h9 := hkf.own' (HKR.out.own' HG91.out (fun _ _ => id)) fun g hg e => by
                  have h1 := (own_heap HG91.out hg).1
                  rcases e with e | e <;> omega
                exact own_base h9 (by omega)
              · rw [← HNN.out]
                exact HOV.out.imp id fun h => h.mono (by omega)
end Go.Proofs.YthnagihgjenimaaDoor
