/- Merged of: RamK RamT RamU RamR. -/
import Derived.Test.YthnagihgjenimaaDoorRamP
/- ram: Peek. -/
namespace Go.Proofs.YthnagihgjenimaaDoor
open Go.RowKit
set_option linter.unusedVariables false
set_option linter.unusedSimpArgs false
set_option maxRecDepth 100000 in
/-- string(b). -/
theorem conv_slb {w : World} {v : Value} {xs : List Int} (h : SlB w v xs) : (convert 56 9 v).run Tryd.prog w = .ok (.string (strOfNums xs)) w := by
  obtain ⟨a, c, rfl, hr⟩ := h
  cases a with
  | none =>
    have : xs = [] := by
      cases xs with
      | nil => rfl
      | cons y r =>
        obtain ⟨ad, e, _⟩ := hr.2 0 (by simp)
        cases e
    subst this
    exact run_convert_bytes_nil w 56 5 Tryd.underlying56 Tryd.underlying5 _ c 9 Tryd.underlying9
  | some ad =>
    have hl : (loadCells ad xs.length).run Tryd.prog w = .ok (xs.map (Value.int .u8)).toArray w := by
      have := run_loadCells_list (P := Tryd.prog) w ad (xs.map (Value.int .u8)) (fun j v hj => row_new hr j v hj)
      simpa using this
    rw [run_convert_bytes_string w 56 9 5 _ xs.length c Tryd.underlying56 Tryd.underlying5 Tryd.underlying9, run_bytesToString w _ xs.length c xs hl, foldl_push_bytes]
    simp [strOfNums, ByteArray.empty, ByteArray.emptyWithCapacity]
    rfl
/-- An item stored over a new one. -/
theorem st6 {w : World} {g : Nat} (h : Blk w g 64 zItem) (a b c d e f : Value) : Blk ((((((w.setCell ⟨g, 0, none⟩ a).setCell ⟨g, 1, none⟩ b).setCell ⟨g, 2, none⟩ c).setCell ⟨g, 3, none⟩ d).setCell ⟨g, 4, none⟩ e).setCell ⟨g, 5, none⟩ f) g 64 [a, b, c, d, e, f] ∧ Keeps (fun k => k = g) w ((((((w.setCell ⟨g, 0, none⟩ a).setCell ⟨g, 1, none⟩ b).setCell ⟨g, 2, none⟩ c).setCell ⟨g, 3, none⟩ d).setCell ⟨g, 4, none⟩ e).setCell ⟨g, 5, none⟩ f) :=
by
  have e0 : ((((((zItem.set 0 a).set 1 b).set 2 c).set 3 d).set 4 e).set 5 f) = [a, b, c, d, e, f] := rfl
  refine ⟨?_, ?_⟩
  · rw [← e0]
    exact ((((((h.store 0 a).store 1 b).store 2 c).store 3 d).store 4 e).store 5 f)
  · exact (((((((Keeps.refl (fun k => k = g) w).store (p := ⟨g, 0, none⟩) (.inl rfl) a).store (p := ⟨g, 1, none⟩) (.inl rfl) b).store (p := ⟨g, 2, none⟩) (.inl rfl) c).store (p := ⟨g, 3, none⟩) (.inl rfl) d).store (p := ⟨g, 4, none⟩) (.inl rfl) e).store (p := ⟨g, 5, none⟩) (.inl rfl) f)
def PeekP (i : IT) (w : World) (e : Ending) (w' : World) : Prop := ∃ kv vv, e = .returned (.tuple #[i.agg kv vv, .int .i64 0]) ∧ Reads w' i kv vv ∧ Keeps (fun _ => False) w w'
def PeekN (c : Int) (w : World) (e : Ending) (w' : World) : Prop := e = .returned (.tuple #[zItemV, .int .i64 c]) ∧ Keeps (fun _ => False) w w'
set_option maxRecDepth 100000 in
theorem peek_nil (v : Value) (w : World) : Calls Tryd.prog 46 #[.pointer none, v] w (PeekN 1 w) := by
  have hz := Blk.new w 64 zItem
  unfold zItem at hz
  have HZ := Lib.hid hz
  have y0 := hz.cell (i := 0) rfl
  have f0 := hz.free 0
  have y1 := hz.cell (i := 1) rfl
  have f1 := hz.free 1
  have y2 := hz.cell (i := 2) rfl
  have f2 := hz.free 2
  have y3 := hz.cell (i := 3) rfl
  have f3 := hz.free 3
  have y4 := hz.cell (i := 4) rfl
  have f4 := hz.free 4
  have y5 := hz.cell (i := 5) rfl
  have f5 := hz.free 5
  clear hz
  go_enter Tryd.func46, Tryd.ntmps46
  go_wp2_with fail
  refine bodyPost_ret (v := .tuple #[zItemV, .int .i64 1]) (by unfold zItemV; simp [results, Tryd.f46, go_sem, y0, y1, y2, y3, y4, y5]) rfl ⟨rfl, (Keeps.refl _ _).alloc _⟩
set_option maxRecDepth 100000 in
set_option maxHeartbeats 2000000 in
theorem peek_there (L : RL) (D : AD) (hs : List HM) (x : HM) (v : Value) (w : World) (h : RAt w L D hs) (hx : x ∈ hs) (hv : SlB w v x.it.key) : Calls Tryd.prog 46 #[L.ptr, v] w (PeekP x.it w) := by
  obtain ⟨W0, hW0⟩ : ∃ W0, W0 = w.alloc (.cells zItem.toArray 64) := ⟨_, rfl⟩
  have k0 : Keeps (fun _ => False) w W0 := by rw [hW0]; exact (Keeps.refl _ _).alloc _
  have hz0 : Blk W0 w.heap.size 64 zItem := by rw [hW0]; exact Blk.new w 64 _
  have hb0 := k0.blk h.obj id
  have kd : Keeps (fun _ => False) w W0.drew := k0.drew
  have hch := h.chlt x hx
  have hn2 := h.ar.n2
  have hgd := (h.inv.good x hx).1
  have hrd := h.rd x hx
  obtain ⟨ka, kc, hka, _⟩ := own_bytes hrd.k
  obtain ⟨va, vc, hva, _⟩ := own_bytes hrd.v
  obtain ⟨f, hm1, hf⟩ := h.at'
  obtain ⟨g, hm2, hg⟩ := h.th
  have hfx := hf.mem x hx
  have hgx := hg.mem x hx
  have F : Hid (∀ W, Keeps (fun _ => False) w W → (W.cell? ⟨L.B, 0, none⟩ = some (.map (some L.ma)) ∧ W.cell? ⟨L.B, 1, none⟩ = some (.map (some L.mt))) ∧ (convert 56 9 v).run Tryd.prog W = .ok (.string (strOfNums x.it.key)) W ∧ (Instr.lookup 110 (.map (some L.ma)) (.string (strOfNums x.it.key)) true).run Tryd.prog W = .ok (.tuple #[.int .i64 (x.ch : Int), .bool true]) W ∧ (Instr.lookup 111 (.map (some L.mt)) (.int .i64 (x.ch : Int)) false).run Tryd.prog W = .ok (x.it.agg (.slice ka x.it.key.length kc) (.slice va x.it.val.length vc)) W) := Lib.hid (fun W hk => by
    have hb := hk.blk h.obj id
    have l1 := (hm1.keep hk id).look_ok strK Tryd.underlying110 (z3 W) (key9 (k := x.it.key) (by have := hgd.k2; omega))
    rw [show f (keyL x.it.key) = some (atV x) from hfx] at l1
    have l2 := (hm2.keep hk id).look intK Tryd.underlying111 (z64 W) (key3 (n := x.ch) (by omega))
    rw [show g (chL x.ch) = some x.val from hgx] at l2
    unfold HM.val at l2
    rw [hka, hva] at l2
    exact ⟨⟨hb.cell (i := 0) rfl, hb.cell (i := 1) rfl⟩, conv_slb (hv.quiet hk), l1, l2⟩)
  have HOW : Hid (∀ W, Keeps (fun _ => False) w W → Calls Tryd.prog 66 #[x.it.agg (.slice ka x.it.key.length kc) (.slice va x.it.val.length vc)] W (OwnP x.it W)) := Lib.hid (fun W hk => by
    have hi := hrd.itb.quiet hk
    rw [hka, hva] at hi
    exact own_any x.it _ _ W hi (by have := hgd.k2; omega) (by have := hgd.v2; omega))
  obtain ⟨a, c, rfl, hvr⟩ := hv
  have HK0 := Lib.hid k0
  have HZ0 := Lib.hid hz0
  have HW0 := Lib.hid hW0
  have HGD := Lib.hid hgd
  clear h hx hm1 hm2 hf hg hfx hgx hrd hka hva hb0 hz0 hW0 hvr hgd
  unfold OwnP at HOW
  unfold IT.agg at *
  unfold RL.ptr
  obtain ⟨⟨b0, b1⟩, cv, l1, l2⟩ := F.out _ k0
  go_enter Tryd.func46, Tryd.ntmps46
  go_upto_region 3 with fail
  rw [show w.alloc (Obj.cells #[Value.slice none 0 0, Value.slice none 0 0, Value.int .u32 0, Value.int .u32 0, Value.int .u64 0, Value.bool false] 64) = W0 from HW0.out.symm]
  have cvn := fun n => (F.out _ (HK0.out.drewN n)).2.1
  have l1n := fun n => (F.out _ (HK0.out.drewN n)).2.2.1
  go_quiet (fail)
  obtain ⟨⟨d0, d1⟩, _, _, l2n⟩ := F.out _ (HK0.out.drewN nq)
  clear cv l1 l2 cvn l1n b0 b1
  go_wp2_with fail
  refine (HOW.out _ (HK0.out.drewN nq)).mono ?_
  rintro e w1 ⟨kv, vv, rfl, ok, ov, hk1⟩
  have kk : Keeps (fun _ => False) w w1 := (HK0.out.drewN nq).trans hk1
  have hz := (((Keeps.refl (fun _ => False) W0).drewN nq).trans hk1).blk HZ0.out id
  obtain ⟨kb, kd', rfl, _⟩ := own_bytes ok
  obtain ⟨vb, vd', rfl, _⟩ := own_bytes ov
  have y0 := hz.cell (i := 0) rfl
  have f0 := hz.free 0
  have y1 := hz.cell (i := 1) rfl
  have f1 := hz.free 1
  have y2 := hz.cell (i := 2) rfl
  have f2 := hz.free 2
  have y3 := hz.cell (i := 3) rfl
  have f3 := hz.free 3
  have y4 := hz.cell (i := 4) rfl
  have f4 := hz.free 4
  have y5 := hz.cell (i := 5) rfl
  have f5 := hz.free 5
  have HZ1 := Lib.hid hz
  have HKK := Lib.hid kk
  have OK := Lib.hid ok
  have OV := Lib.hid ov
  clear hz kk ok ov hk1 d0 d1 l2n HOW F
  go_wp2_with fail
  obtain ⟨ho, hk⟩ := st6 HZ1.out (.slice kb x.it.key.length kd') (.slice vb x.it.val.length vd') (.int .u32 x.it.fg) (.int .u32 x.it.ex) (.int .u64 x.it.sq) (.bool x.it.dt)
  have q0 := ho.cell (i := 0) rfl
  have q1 := ho.cell (i := 1) rfl
  have q2 := ho.cell (i := 2) rfl
  have q3 := ho.cell (i := 3) rfl
  have q4 := ho.cell (i := 4) rfl
  have q5 := ho.cell (i := 5) rfl
  have hne : ∀ {z : Value} {n : Nat} {xs : List Value}, w1.ownsRow (W0.drewN nq).heap.size 5 1 z n xs → ∀ g, z.ownBlock = some g → ¬ (g = w.heap.size) := fun ho g hg e => own_ne_blk HZ1.out ho (by decide) (e ▸ hg)
  have hkf : Keeps (fun _ => False) w _ := ((HKK.out.mono (S' := fun k => k = w.heap.size) (fun _ _ h => h.elim)).trans hk).mono (S' := fun _ => False) fun k hk' h => by
    have h : k = w.heap.size := h
    omega
  refine bodyPost_ret (v := .tuple #[.agg #[.slice kb x.it.key.length kd', .slice vb x.it.val.length vd', .int .u32 x.it.fg, .int .u32 x.it.ex, .int .u64 x.it.sq, .bool x.it.dt], .int .i64 0]) (by simp [results, Tryd.f46, go_sem, q0, q1, q2, q3, q4, q5]) rfl ⟨_, _, rfl, ⟨own_base (hk.own' OK.out (hne OK.out)) (Nat.zero_le _), own_base (hk.own' OV.out (hne OV.out)) (Nat.zero_le _)⟩, hkf⟩
set_option maxRecDepth 100000 in
set_option maxHeartbeats 2000000 in
theorem peek_gone (L : RL) (D : AD) (hs : List HM) (k : List Int) (v : Value) (w : World) (h : RAt w L D hs) (hn : ∀ x ∈ hs, x.it.key ≠ k) (hkb : Bytes k) (hkl : k.length ≤ 140737488351232) (hv : SlB w v k) : Calls Tryd.prog 46 #[L.ptr, v] w (PeekN 4 w) := by
  obtain ⟨W0, hW0⟩ : ∃ W0, W0 = w.alloc (.cells zItem.toArray 64) := ⟨_, rfl⟩
  have k0 : Keeps (fun _ => False) w W0 := by rw [hW0]; exact (Keeps.refl _ _).alloc _
  have hz0 : Blk W0 w.heap.size 64 zItem := by rw [hW0]; exact Blk.new w 64 _
  obtain ⟨f, hm1, hf⟩ := h.at'
  have hfn : f (keyL k) = none := hf.none fun x hx e => hn x hx (keyL_inj (h.inv.good x hx).1.kb hkb e)
  have F : Hid (∀ W, Keeps (fun _ => False) w W → (W.cell? ⟨L.B, 0, none⟩ = some (.map (some L.ma)) ∧ W.cell? ⟨L.B, 1, none⟩ = some (.map (some L.mt))) ∧ (convert 56 9 v).run Tryd.prog W = .ok (.string (strOfNums k)) W ∧ (Instr.lookup 110 (.map (some L.ma)) (.string (strOfNums k)) true).run Tryd.prog W = .ok (.tuple #[.int .i64 0, .bool false]) W) := Lib.hid (fun W hk => by
    have hb := hk.blk h.obj id
    have l1 := (hm1.keep hk id).look_ok strK Tryd.underlying110 (z3 W) (key9 hkl)
    rw [hfn] at l1
    exact ⟨⟨hb.cell (i := 0) rfl, hb.cell (i := 1) rfl⟩, conv_slb (hv.quiet hk), l1⟩)
  obtain ⟨a, c, rfl, hvr⟩ := hv
  have HK0 := Lib.hid k0
  have HZ0 := Lib.hid hz0
  have HW0 := Lib.hid hW0
  clear h hm1 hf hfn hz0 hW0 hvr hn
  unfold RL.ptr
  obtain ⟨⟨b0, b1⟩, cv, l1⟩ := F.out _ k0
  go_enter Tryd.func46, Tryd.ntmps46
  go_upto_region 3 with fail
  rw [show w.alloc (Obj.cells #[Value.slice none 0 0, Value.slice none 0 0, Value.int .u32 0, Value.int .u32 0, Value.int .u64 0, Value.bool false] 64) = W0 from HW0.out.symm]
  have cvn := fun n => (F.out _ (HK0.out.drewN n)).2.1
  have l1n := fun n => (F.out _ (HK0.out.drewN n)).2.2
  go_quiet (fail)
  have hz := (((Keeps.refl (fun _ => False) W0).drewN nq)).blk HZ0.out id
  have y0 := hz.cell (i := 0) rfl
  have f0 := hz.free 0
  have y1 := hz.cell (i := 1) rfl
  have f1 := hz.free 1
  have y2 := hz.cell (i := 2) rfl
  have f2 := hz.free 2
  have y3 := hz.cell (i := 3) rfl
  have f3 := hz.free 3
  have y4 := hz.cell (i := 4) rfl
  have f4 := hz.free 4
  have y5 := hz.cell (i := 5) rfl
  have f5 := hz.free 5
  have HZ1 := Lib.hid hz
  clear cv l1 cvn l1n b0 b1 hz
  go_wp2_with fail
  obtain ⟨ho, hk⟩ := st6 HZ1.out (.slice none 0 0) (.slice none 0 0) (.int .u32 0) (.int .u32 0) (.int .u64 0) (.bool false)
  have q0 := ho.cell (i := 0) rfl
  have q1 := ho.cell (i := 1) rfl
  have q2 := ho.cell (i := 2) rfl
  have q3 := ho.cell (i := 3) rfl
  have q4 := ho.cell (i := 4) rfl
  have q5 := ho.cell (i := 5) rfl
  have hkf : Keeps (fun _ => False) w _ := (((HK0.out.drewN nq).mono (S' := fun k => k = w.heap.size) (fun _ _ h => h.elim)).trans hk).mono (S' := fun _ => False) fun k hk' h => by
    have h : k = w.heap.size := h
    omega
  refine bodyPost_ret (v := .tuple #[zItemV, .int .i64 4]) (by unfold zItemV; simp [results, Tryd.f46, go_sem, q0, q1, q2, q3, q4, q5]) rfl ⟨rfl, hkf⟩
end Go.Proofs.YthnagihgjenimaaDoor

/- ram: Get. -/
namespace Go.Proofs.YthnagihgjenimaaDoor
open Go.RowKit
set_option linter.unusedVariables false
set_option linter.unusedSimpArgs false
theorem RInv.touch {D : AD} {xs ys : List HM} {x : HM} (h : RInv D (xs ++ x :: ys)) : RInv D (x :: (xs ++ ys)) := by
  have hm : ∀ g, g ∈ x :: (xs ++ ys) ↔ g ∈ xs ++ x :: ys := fun g => by rw [mem_mid, List.mem_cons]
  refine ⟨h.ok, List.pairwise_cons.2 ⟨fun g hg => Ne.symm (h.keyne g hg), pair_out h.keys⟩, List.pairwise_cons.2 ⟨fun g hg => Ne.symm (h.chne g hg), pair_out h.chs⟩, fun m c => ?_, fun g hg => h.good g ((hm g).1 hg)⟩
  rw [h.has]
  exact ⟨fun ⟨g, hg, e⟩ => ⟨g, (hm g).2 hg, e⟩, fun ⟨g, hg, e⟩ => ⟨g, (hm g).1 hg, e⟩⟩
def GetP (L : RL) (D : AD) (xs ys : List HM) (x : HM) (w : World) (e : Ending) (w' : World) : Prop :=
  ∃ kv vv, e = .returned (.tuple #[x.it.agg kv vv, .int .i64 0]) ∧ Reads w' x.it kv vv ∧ RAt w' L D (x :: (xs ++ ys)) ∧ Keeps L.own w w'
set_option maxRecDepth 100000 in
set_option maxHeartbeats 2000000 in
theorem get_there (L : RL) (D : AD) (xs ys : List HM) (x : HM) (v : Value) (w : World) (h : RAt w L D (xs ++ x :: ys)) (hv : SlB w v x.it.key) : Calls Tryd.prog 34 #[L.ptr, v] w (GetP L D xs ys x w) := by
  have hx : x ∈ xs ++ x :: ys := by simp
  obtain ⟨W0, hW0⟩ : ∃ W0, W0 = w.alloc (.cells zItem.toArray 64) := ⟨_, rfl⟩
  have k0 : Keeps (fun _ => False) w W0 := by rw [hW0]; exact (Keeps.refl _ _).alloc _
  have hz0 : Blk W0 w.heap.size 64 zItem := by rw [hW0]; exact Blk.new w 64 _
  have hch := h.chlt x hx
  have hn2 := h.ar.n2
  have HP := Lib.hid (peek_there L D _ x v W0 (h.quiet k0) hx (hv.quiet k0))
  have HH := Lib.hid h
  have HV := Lib.hid hv
  have HK0 := Lib.hid k0
  have HZ0 := Lib.hid hz0
  have HW0 := Lib.hid hW0
  have hkl := (h.inv.good x hx).1.k2
  have hcl := h.cllt x hx
  clear h k0 hz0 hW0 hx
  obtain ⟨a, c, rfl, _⟩ := hv
  unfold PeekP at HP
  unfold RL.ptr IT.agg at *
  go_enter Tryd.func34, Tryd.ntmps34
  go_upto_region 1 with fail
  rw [show w.alloc (Obj.cells #[Value.slice none 0 0, Value.slice none 0 0, Value.int .u32 0, Value.int .u32 0, Value.int .u64 0, Value.bool false] 64) = W0 from HW0.out.symm]
  go_wp2_with fail
  refine HP.out.mono ?_
  rintro e w1 ⟨kv, vv, rfl, hr1, hk1⟩
  obtain ⟨kb, kd, rfl, _⟩ := own_bytes hr1.k
  obtain ⟨vb, vd, rfl, _⟩ := own_bytes hr1.v
  go_upto_region 3 with fail
  obtain ⟨W1, hW1⟩ : ∃ W1, W1 = w1.alloc (.cells #[.slice kb x.it.key.length kd, .slice vb x.it.val.length vd, .int .u32 x.it.fg, .int .u32 x.it.ex, .int .u64 x.it.sq, .bool x.it.dt] 64) := ⟨_, rfl⟩
  have q1 : Keeps (fun _ => False) w1 W1 := by rw [hW1]; exact (Keeps.refl _ _).alloc _
  have hit : Blk W1 w1.heap.size 64 [.slice kb x.it.key.length kd, .slice vb x.it.val.length vd, .int .u32 x.it.fg, .int .u32 x.it.ex, .int .u64 x.it.sq, .bool x.it.dt] := by rw [hW1]; exact Blk.new w1 64 _
  have k1 : Keeps (fun _ => False) w W1 := (HK0.out.trans hk1).trans q1
  rw [← hW1]
  have hra := HH.out.quiet k1
  have hne := HH.out.ne
  have HTC : Hid (∀ W, Keeps (fun _ => False) W1 W → Calls Tryd.prog 68 #[L.lk.ptr, .int .i64 (x.ch : Int)] W (L.lk.Next (.int .i64 0) (upd (lsOf (xs ++ x :: ys)) x.cl (x.ch :: (lsOf xs x.cl ++ lsOf ys x.cl))) W)) := Lib.hid (fun W hk => touch_ok L.lk W _ (hra.quiet hk).li x.ch x.cl (lsOf xs x.cl) (lsOf ys x.cl) (by rw [HH.out.ln]; exact hcl) (lsOf_mid xs x ys))
  have F : Hid (∀ W, Keeps (fun _ => False) W1 W → (W.cell? ⟨L.B, 0, none⟩ = some (.map (some L.ma)) ∧ W.cell? ⟨L.B, 3, none⟩ = some L.lk.ptr) ∧ (convert 56 9 (.slice a x.it.key.length c)).run Tryd.prog W = .ok (.string (strOfNums x.it.key)) W ∧ (Instr.lookup 110 (.map (some L.ma)) (.string (strOfNums x.it.key)) false).run Tryd.prog W = .ok (.int .i64 (x.ch : Int)) W) := Lib.hid (fun W hk => by
    obtain ⟨f, hm1, hf⟩ := (hra.quiet hk).at'
    have hb := (hra.quiet hk).obj
    have l1 := hm1.look strK Tryd.underlying110 (z3 W) (key9 (k := x.it.key) (by omega))
    rw [show f (keyL x.it.key) = some (atV x) from hf.mem x (by simp)] at l1
    exact ⟨⟨hb.cell (i := 0) rfl, hb.cell (i := 3) rfl⟩, conv_slb (HV.out.quiet (k1.trans hk)), l1⟩)
  have HRA := Lib.hid hra
  have HIT := Lib.hid hit
  have HR1 := Lib.hid (hr1.keep q1 (fun _ _ => id) (fun _ _ => id))
  have HK1 := Lib.hid k1
  have HZ1 := Lib.hid ((hk1.trans q1).blk HZ0.out id)
  have hsz : w.heap.size < w1.heap.size := Nat.lt_of_lt_of_le HZ0.out.lt hk1.size
  have HNE := Lib.hid hne
  unfold LK.Next at HTC
  unfold LK.ptr at HTC F
  obtain ⟨⟨b0, b3⟩, cv, l1⟩ := F.out _ (Keeps.refl _ _).drew
  clear hr1 hk1 q1 hit k1 hW1 hra hne HP
  go_cut [] (fun wx => L.lk.Has wx (upd (lsOf (xs ++ x :: ys)) x.cl (x.ch :: (lsOf xs x.cl ++ lsOf ys x.cl))) ∧ Keeps L.lk.own W1 wx)
  case first =>
    go_region_with (go_at_call 68; refine (HTC.out _ (Keeps.refl _ _).drew).mono ?_; rintro e w2 ⟨rfl, hl2, hk2⟩; have hk2' : Keeps L.lk.own W1 w2 := ((Keeps.refl L.lk.own W1).drew).trans hk2)
    all_goals
      go_wp2_with fail
      go_meet
      exact ⟨hl2, hk2'⟩
  case rest =>
    obtain ⟨hl2, hk2⟩ := hcut
    obtain ⟨w2, rfl⟩ : ∃ w2, w2 = wc := ⟨_, rfl⟩
    have nL : ∀ q, w.heap.size ≤ q → ¬ L.lk.own q := fun q hq ho => by
      have := HH.out.lt.2.2.2 q (.inr (.inr (.inr (.inr ho))))
      omega
    have offL : ∀ {v : Value}, Off L v → ∀ g, v.ownBlock = some g → ¬ L.lk.own g := fun ho g hg hl => ho g hg (.inr (.inr (.inr (.inr hl))))
    have hra2 : RAt w2 L D (x :: (xs ++ ys)) := by
      have h := HRA.out
      obtain ⟨f, hm1, hf⟩ := h.at'
      obtain ⟨g, hm2, hg⟩ := h.th
      have hl : (x :: (xs ++ ys)).length = (xs ++ x :: ys).length := by simp; omega
      have hm : ∀ g, g ∈ x :: (xs ++ ys) ↔ g ∈ xs ++ x :: ys := fun g => by rw [mem_mid, List.mem_cons]
      have hsum : sumC (x :: (xs ++ ys)) = sumC (xs ++ x :: ys) := by rw [sumC_mid, sumC_cons]; omega
      refine ⟨?_, ⟨f, ?_, hf.perm hm⟩, ⟨g, ?_, hg.perm hm⟩, ar_keep h.ar hk2 HNE.out.al HNE.out.gl, ?_, h.lN, h.ln, h.inv.touch, fun q hq => ?_, h.mm⟩
      · rw [hsum]; exact hk2.blk h.obj HNE.out.bl
      · rw [hl]; exact hm1.keep hk2 HNE.out.lm
      · rw [hl]; exact hm2.keep hk2 HNE.out.lt
      · rw [lsOf_touch]; exact hl2
      · obtain ⟨o1, o2⟩ := h.off q ((hm q).1 hq)
        exact (h.rd q ((hm q).1 hq)).keep hk2 (offL o1) (offL o2)
    have hrd2 : Reads w2 x.it (.slice kb x.it.key.length kd) (.slice vb x.it.val.length vd) := HR1.out.keep hk2 (offL (own_off HRA.out HR1.out.k)) (offL (own_off HRA.out HR1.out.v))
    have hi := hk2.blk HIT.out (nL _ (by omega))
    have hz := hk2.blk HZ1.out (nL _ (Nat.le_refl _))
    have HZ2 := Lib.hid hz
    have HA2 := Lib.hid hra2
    have HR2 := Lib.hid hrd2
    have HKL : Hid (Keeps L.own w w2) := Lib.hid ((HK1.out.mono (S' := L.own) fun _ _ h => h.elim).trans (hk2.mono fun k _ h => .inr (.inr (.inr (.inr h)))))
    have n0 := hi.cell (i := 0) rfl
    have n1 := hi.cell (i := 1) rfl
    have n2 := hi.cell (i := 2) rfl
    have n3 := hi.cell (i := 3) rfl
    have n4 := hi.cell (i := 4) rfl
    have n5 := hi.cell (i := 5) rfl
    have y0 := hz.cell (i := 0) rfl
    have f0 := hz.free 0
    have y1 := hz.cell (i := 1) rfl
    have f1 := hz.free 1
    have y2 := hz.cell (i := 2) rfl
    have f2 := hz.free 2
    have y3 := hz.cell (i := 3) rfl
    have f3 := hz.free 3
    have y4 := hz.cell (i := 4) rfl
    have f4 := hz.free 4
    have y5 := hz.cell (i := 5) rfl
    have f5 := hz.free 5
    clear hl2 hk2 hi hz hra2 hrd2 cv l1 b0 b3 HTC F nL offL
    go_wp2_with fail
    obtain ⟨ho, hk⟩ := st6 HZ2.out (.slice kb x.it.key.length kd) (.slice vb x.it.val.length vd) (.int .u32 x.it.fg) (.int .u32 x.it.ex) (.int .u64 x.it.sq) (.bool x.it.dt)
    have q0 := ho.cell (i := 0) rfl
    have q1 := ho.cell (i := 1) rfl
    have q2 := ho.cell (i := 2) rfl
    have q3 := ho.cell (i := 3) rfl
    have q4 := ho.cell (i := 4) rfl
    have q5 := ho.cell (i := 5) rfl
    have hab : ∀ k, k = w.heap.size → w.heap.size ≤ k := fun k e => by omega
    have hkf : Keeps L.own w _ := ((HKL.out.mono (S' := fun k => L.own k ∨ k = w.heap.size) (fun k _ h => .inl h)).trans (hk.mono fun k _ h => .inr h)).mono (S' := L.own) fun k hk' h => h.elim id fun e => by omega
    have hm : ∀ g, g ∈ x :: (xs ++ ys) → g ∈ xs ++ x :: ys := fun g hg => by rw [mem_mid]; exact List.mem_cons.1 hg
    have hne6 : ∀ {z : Value} {n : Nat} {xs : List Value}, w2.ownsRow 0 5 1 z n xs → ∀ g, z.ownBlock = some g → ¬ (g = w.heap.size) := fun ho g hg e => own_ne_blk HZ2.out ho (by decide) (e ▸ hg)
    refine bodyPost_ret (v := .tuple #[.agg #[.slice kb x.it.key.length kd, .slice vb x.it.val.length vd, .int .u32 x.it.fg, .int .u32 x.it.ex, .int .u64 x.it.sq, .bool x.it.dt], .int .i64 0]) (by simp [results, Tryd.f34, go_sem, q0, q1, q2, q3, q4, q5]) rfl ⟨_, _, rfl, HR2.out.keep hk (hne6 HR2.out.k) (hne6 HR2.out.v), HH.out.above HA2.out hm hk hab, hkf⟩
end Go.Proofs.YthnagihgjenimaaDoor

/- ram: Put of an item where there is room. -/
namespace Go.Proofs.YthnagihgjenimaaDoor
open Go.RowKit
set_option linter.unusedVariables false
set_option linter.unusedSimpArgs false
/-- Behind the giving of a chunk: memory, but for the arena, which has one chunk more. -/
structure RMid (w : World) (L : RL) (D D' : AD) (hs : List HM) : Prop where
  obj : Blk w L.B 115 (L.obj D.n (sumC hs))
  at' : ∃ f, MapV 9 w L.ma hs.length f ∧ Mapped f hs atK atV
  th : ∃ f, MapV 3 w L.mt hs.length f ∧ Mapped f hs thK HM.val
  ar : ArAt w L.al D'
  li : L.lk.Has w (lsOf hs)
  lN : L.lk.N = 32 * D.n
  ln : L.lk.n = 8
  rd : ∀ h ∈ hs, Reads w h.it h.kv h.vv
  mm : L.ma ≠ L.mt
theorem RAt.mid {w : World} {L : RL} {D : AD} {hs : List HM} (h : RAt w L D hs) : RMid w L D D hs := ⟨h.obj, h.at', h.th, h.ar, h.li, h.lN, h.ln, h.rd, h.mm⟩
theorem RMid.all {w : World} {L : RL} {D : AD} {hs : List HM} (h : RMid w L D D hs) (hi : RInv D hs) : RAt w L D hs := ⟨h.obj, h.at', h.th, h.ar, h.li, h.lN, h.ln, hi, h.rd, h.mm⟩
/-- A chunk is given. -/
theorem RAt.give {w w' : World} {L : RL} {D D' : AD} {hs : List HM} (h : RAt w L D hs) (hk : Keeps (fun k => k = L.al.G) w w') (ha : ArAt w' L.al D') : RMid w' L D D' hs := by
  have hne := h.ne
  obtain ⟨f, h1, h2⟩ := h.at'
  obtain ⟨g, h3, h4⟩ := h.th
  have offG : ∀ {v : Value}, Off L v → ∀ g, v.ownBlock = some g → ¬ (g = L.al.G) := fun ho g hg e => ho g hg (.inr (.inr (.inr (.inl e))))
  refine ⟨hk.blk h.obj hne.bg, ⟨f, h1.keep hk (fun e => hne.gm e.symm), h2⟩, ⟨g, h3.keep hk (fun e => hne.gt e.symm), h4⟩, ha, li_keep h.li hk (fun e => hne.gk e.symm) (fun k ho e => hne.gl ((show k = L.al.G from e) ▸ ho)), h.lN, h.ln, fun q hq => ?_, h.mm⟩
  obtain ⟨o1, o2⟩ := h.off q hq
  exact (h.rd q hq).keep hk (offG o1) (offG o2)
theorem RMid.quiet {w w' : World} {L : RL} {D D' : AD} {hs : List HM} (h : RMid w L D D' hs) (hk : Keeps (fun _ => False) w w') : RMid w' L D D' hs := by
  obtain ⟨f, h1, h2⟩ := h.at'
  obtain ⟨g, h3, h4⟩ := h.th
  exact ⟨hk.blk h.obj id, ⟨f, h1.keep hk id, h2⟩, ⟨g, h3.keep hk id, h4⟩, h.ar.quiet hk, h.li.quiet hk, h.lN, h.ln, fun x hx => (h.rd x hx).keep hk (fun _ _ => id) (fun _ _ => id), h.mm⟩
/-- The item is kept: maps, lists and charge turned. -/
theorem RMid.kept {w w1 w2 w3 : World} {L : RL} {D D' : AD} {hs : List HM} {x : HM} {f g : Lit → Option Value} (hne : RNe L) (h : RMid w L D D' hs) (hf : Mapped f hs atK atV) (hg : Mapped g hs thK HM.val) (hoff : ∀ q ∈ x :: hs, Off L q.kv ∧ Off L q.vv)
    (h1 : MapV 9 w1 L.ma (hs.length + 1) (mput f (keyL x.it.key) (.int .i64 (x.ch : Int)))) (h2 : MapV 3 w1 L.mt (hs.length + 1) (mput g (chL x.ch) x.val)) (hk1 : Keeps (fun b => b = L.ma ∨ b = L.mt) w w1)
    (hl : L.lk.Has w2 (upd (lsOf hs) x.cl (x.ch :: lsOf hs x.cl))) (hk2 : Keeps L.lk.own w1 w2)
    (hk3 : Keeps (fun k => k = L.B) w2 w3) (hob : Blk w3 L.B 115 (L.obj D'.n (sumC (x :: hs)))) (hn : D'.n = D.n) (hi : RInv D' (x :: hs)) (hkn : ∀ q ∈ hs, atK q ≠ atK x) (hcn : ∀ q ∈ hs, thK q ≠ thK x) (hr : Reads w x.it x.kv x.vv) : RAt w3 L D' (x :: hs) ∧ Keeps L.own w w3 := by
  have s1 : ∀ k, (k = L.ma ∨ k = L.mt) → L.own k := fun k e => e.elim (fun e => .inr (.inl e)) (fun e => .inr (.inr (.inl e)))
  have s2 : ∀ k, L.lk.own k → L.own k := fun k e => .inr (.inr (.inr (.inr e)))
  have kk : Keeps L.own w w3 := ((hk1.mono fun k _ => s1 k).trans (hk2.mono fun k _ => s2 k)).trans (hk3.mono fun k _ e => .inl e)
  refine ⟨⟨hob, ⟨_, (h1.keep hk2 hne.lm).keep hk3 (fun e => hne.bm e.symm), hf.put hkn⟩, ⟨_, (h2.keep hk2 hne.lt).keep hk3 (fun e => hne.bt e.symm), hg.put hcn⟩, ?_, ?_, by rw [hn]; exact h.lN, h.ln, hi, fun q hq => ?_, h.mm⟩, kk⟩
  · exact ar_keep (ar_keep (ar_keep h.ar hk1 (fun e => e.elim hne.am hne.at') (fun e => e.elim hne.gm hne.gt)) hk2 hne.al hne.gl) hk3 (fun e => hne.ba e.symm) (fun e => hne.bg e.symm)
  · rw [lsOf_cons]
    exact li_keep hl hk3 (fun e => hne.bk e.symm) (fun k ho e => hne.bl ((show k = L.B from e) ▸ ho))
  · obtain ⟨o1, o2⟩ := hoff q hq
    rcases List.mem_cons.1 hq with rfl | hq'
    · exact hr.keep kk o1 o2
    · exact (h.rd q hq').keep kk o1 o2
end Go.Proofs.YthnagihgjenimaaDoor

/- ram: Put: items put out one behind the other, in plain words and in memory. -/
namespace Go.Proofs.YthnagihgjenimaaDoor
open Go.RowKit
set_option linter.unusedVariables false
set_option linter.unusedSimpArgs false
/-- No chunk of a class is to be had. -/
def FullA (D : AD) (cl : Nat) : Prop := (∀ i, i < D.n → ¬ D.hit cl i) ∧ ∀ i, i < D.n → D.g i ≠ 0
/-- What is put out, in order, till there is room. -/
inductive Reach (cl : Nat) (D0 : AD) (hs0 : List HM) : List HM → AD → List HM → Prop
  | start : Reach cl D0 hs0 [] D0 hs0
  | next {gone : List HM} {D : AD} {xs ys : List HM} {x : HM} (h : Reach cl D0 hs0 gone D (xs ++ x :: ys)) (hf : FullA D cl) (hp : Pick (xs ++ x :: ys) cl x.cl) (ho : lsOf ys x.cl = []) : Reach cl D0 hs0 (gone ++ [x]) (D.less x.ch) (xs ++ ys)
theorem Reach.sub {cl : Nat} {D0 D : AD} {hs0 hs gone : List HM} (h : Reach cl D0 hs0 gone D hs) : (∀ x ∈ hs, x ∈ hs0) ∧ (∀ x ∈ gone, x ∈ hs0) ∧ D.n = D0.n ∧ gone.length + hs.length = hs0.length := by
  induction h with
  | start => exact ⟨fun x h => h, (fun x h => by cases h), rfl, by simp⟩
  | next h hf hp ho ih =>
    obtain ⟨a, b, c, d⟩ := ih
    refine ⟨fun x hx => a x (mem_mid.2 (.inr hx)), fun x hx => ?_, c, ?_⟩
    · rcases List.mem_append.1 hx with hx | hx
      · exact b x hx
      · rw [List.mem_singleton.1 hx]
        exact a _ (by simp)
    · simp at d ⊢
      omega
theorem Reach.inv {cl : Nat} {D0 D : AD} {hs0 hs gone : List HM} (h : Reach cl D0 hs0 gone D hs) (hi : RInv D0 hs0) : RInv D hs := by
  induction h with
  | start => exact hi
  | next h hf hp ho ih => exact ih.out
theorem give_q {D D' : AD} {k : Nat} {r q : Int} (h : GiveS D k r q D') : (q = 6 ∧ D' = D ∧ FullA D k) ∨ (q = 0 ∧ ∃ m : Nat, r = m) := by
  cases h with
  | hit j hj hh hb => exact .inr ⟨rfl, _, rfl⟩
  | page hn j hj h hb => exact .inr ⟨rfl, _, rfl⟩
  | full hn h => exact .inl ⟨rfl, rfl, hn, h⟩
/-- The cells of items in a row. -/
def itemCells (l : List HM) : List Value := l.flatMap fun x => x.it.cells x.kv x.vv
theorem itemCells_len (l : List HM) : (itemCells l).length = l.length * 6 := by
  induction l with
  | nil => rfl
  | cons x r ih =>
    unfold itemCells at *
    rw [List.flatMap_cons, List.length_append, ih, List.length_cons]
    show 6 + _ = _
    omega
theorem itemCells_snoc (l : List HM) (x : HM) : itemCells (l ++ [x]) = itemCells l ++ x.it.cells x.kv x.vv := by simp [itemCells]
/-- At the head of Put's loop. -/
structure PutI (w : World) (L : RL) (cl : Nat) (key : List Int) (D1 : AD) (hs1 : List HM) (D : AD) (hs gone : List HM) (r q : Int) (Dn : AD) (s8 : Value) (wr : World) : Prop where
  reach : Reach cl D1 hs1 gone D hs
  give : GiveS D cl r q Dn
  mid : RMid wr L D Dn hs
  inv : RInv D hs
  keeps : Keeps L.own w wr
  row : wr.ownsRow w.heap.size 64 6 s8 gone.length (itemCells gone)
  rd : ∀ x ∈ gone, Reads wr x.it x.kv x.vv ∧ Off L x.kv ∧ Off L x.vv
theorem PutI.full {w : World} {L : RL} {cl : Nat} {key : List Int} {D1 D Dn : AD} {hs1 hs gone : List HM} {r q : Int} {s8 : Value} {wr : World} (h : PutI w L cl key D1 hs1 D hs gone r q Dn s8 wr) (hq : q = 6) : RAt wr L D hs ∧ FullA D cl ∧ hs ≠ [] := by
  rcases give_q h.give with ⟨_, rfl, hf⟩ | ⟨h0, _⟩
  · exact ⟨h.mid.all h.inv, hf, h.inv.some h.mid.ar.n1 hf.2⟩
  · omega
end Go.Proofs.YthnagihgjenimaaDoor
