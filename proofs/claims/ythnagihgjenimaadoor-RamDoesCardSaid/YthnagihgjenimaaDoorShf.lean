/- shelf: take and put. -/
import Derived.Test.YthnagihgjenimaaDoorOwn
namespace Go.Proofs.YthnagihgjenimaaDoor
open Go.RowKit
set_option linter.unusedVariables false
set_option linter.unusedSimpArgs false
section
variable {P : Program} (w : World) {ops : Array Oper} {rest : List Oper} {o : Oper} {a : Act} {Q : Exit → Act → World → Prop}
/-- delete(m, k), at the operation. -/
theorem wpList_mdel (hg : o.guard = none) (m x : Operand) (t k : TypeId) (hop : o.op = Op.call { callee := Callee.builtin Builtin.delete, args := #[m, x], argTypes := #[t, k] })
    (e : TypeId) (K : Maps.Keyed Tryd.prog k) (ht : Tryd.prog.underlying t = some (.map k e)) (b n : Nat) (f : Lit → Option Value)
    (hm : a.eval m = .map (some b)) (h : MapV k w b n f) (key : Value) (kl : Lit) (hx : a.eval x = key) (hkey : keyOf Tryd.prog k key = some kl)
    (hK : ∀ w', MapV k w' b (if (f kl).isSome then n - 1 else n) (mdel f kl) → Keeps (fun g => g = b) w w' → wpList Tryd.prog ops Q rest (a.put o.dst (.tuple #[])) w') :
    wpList Tryd.prog ops Q (o :: rest) a w := by
  refine wpList_plain hg fun K' hK' => ?_
  obtain ⟨w', hrun, r1, r2⟩ := h.del K ht hkey o.type
  unfold Oper.wp
  simp [execOp, hop, resolve, invoke, builtin, hm, hx, hrun, Result.andThen]
  exact hK' _ _ (hK w' r1 r2)
end
theorem strK : Maps.Keyed Tryd.prog 9 := Maps.string_keyed Tryd.underlying9
theorem intK : Maps.Keyed Tryd.prog 3 := Maps.int_keyed Tryd.underlying3
theorem key9 {k : List Int} (h : k.length ≤ 140737488351232) : keyOf Tryd.prog 9 (.string (strOfNums k)) = some (keyL k) := by
  unfold keyL
  exact WideMaps.keyOf_string_mk Tryd.underlying9 (by rw [strOfNums_size]; unfold maxLen; omega)
theorem key3 {n : Nat} (h : n ≤ 1000000) : keyOf Tryd.prog 3 (.int .i64 (n : Int)) = some (chL n) := Maps.keyOf_int_mk Tryd.underlying3 (by
  simp [Lit.wf, IntKind.min, IntKind.max, IntKind.signed, IntKind.bits]
  omega)
theorem z3 (w : World) : (zeroValue 3).run Tryd.prog w = .ok (.int .i64 0) w := by kernel_rfl
def zItemV : Value := .agg #[.slice none 0 0, .slice none 0 0, .int .u32 0, .int .u32 0, .int .u64 0, .bool false]
theorem z64 (w : World) : (zeroValue 64).run Tryd.prog w = .ok zItemV w := by kernel_rfl
/-- What take hands back of a key that is there. -/
def TakeF (v : Value) (ch m : Nat) (L : RL) (k : List Int) (f g : Lit → Option Value) (w : World) (e : Ending) (w' : World) : Prop :=
  e = .returned (.tuple #[v, .int .i64 (ch : Int), .bool true]) ∧ MapV 9 w' L.ma (m - 1) (mdel f (keyL k)) ∧ MapV 3 w' L.mt (m - 1) (mdel g (chL ch)) ∧ Keeps (fun b => b = L.ma ∨ b = L.mt) w w'
def shelfV (L : RL) : Value := .agg #[.map (some L.ma), .map (some L.mt)]
set_option maxRecDepth 100000 in
set_option maxHeartbeats 2000000 in
theorem take_there (L : RL) (k : List Int) (ch m : Nat) (i : IT) (ka va : Option Addr) (kn kc vn vc : Nat) (f g : Lit → Option Value) (w : World) (h1 : MapV 9 w L.ma m f) (h2 : MapV 3 w L.mt m g) (hm : L.ma ≠ L.mt) (hk : k.length ≤ 140737488351232) (hc : ch ≤ 1000000)
    (hf : f (keyL k) = some (.int .i64 (ch : Int))) (hg : g (chL ch) = some (i.agg (.slice ka kn kc) (.slice va vn vc))) :
    Calls Tryd.prog 77 #[shelfV L, .string (strOfNums k)] w (TakeF (i.agg (.slice ka kn kc) (.slice va vn vc)) ch m L k f g w) := by
  obtain ⟨W0, hW0⟩ : ∃ W0, W0 = (w.alloc (.cells #[.map (some L.ma), .map (some L.mt)] 113)).alloc (.cells zItem.toArray 64) := ⟨_, rfl⟩
  have k0 : Keeps (fun _ => False) w W0 := by rw [hW0]; exact ((Keeps.refl _ _).alloc _).alloc _
  have hb : Blk W0 w.heap.size 113 [.map (some L.ma), .map (some L.mt)] := by rw [hW0]; exact (Blk.new w 113 _).alloc _
  have hz : Blk W0 (w.heap.size + 1) 64 zItem := by
    rw [hW0]
    have := Blk.new (w.alloc (.cells #[.map (some L.ma), .map (some L.mt)] 113)) 64 zItem
    rwa [World.size_alloc] at this
  have m1 := h1.keep k0 id
  have m2 := h2.keep k0 id
  have l1 := m1.look_ok strK Tryd.underlying110 (z3 W0) (key9 hk)
  rw [hf] at l1
  have l2 := m2.look intK Tryd.underlying111 (z64 W0) (key3 hc)
  rw [hg] at l2
  have HF := Lib.hid hf
  have HG := Lib.hid hg
  have HM1 := Lib.hid m1
  have HM2 := Lib.hid m2
  have HB := Lib.hid hb
  have HZ := Lib.hid hz
  have HK0 := Lib.hid k0
  have HW0 := Lib.hid hW0
  have b0 := hb.cell (i := 0) rfl
  have b1 := hb.cell (i := 1) rfl
  obtain ⟨key, val, fg, ex, sq, dt⟩ := i
  unfold IT.agg shelfV at *
  dsimp only at l1 l2 HG
  simp only [Option.getD_some, Option.isSome_some] at l1 l2
  clear h1 h2 hf hg m1 m2 hb hz k0 hW0
  go_enter Tryd.func77, Tryd.ntmps77
  go_upto_region 1 with fail
  rw [show (w.alloc (Obj.cells #[.map (some L.ma), .map (some L.mt)] 113)).alloc (Obj.cells #[Value.slice none 0 0, Value.slice none 0 0, Value.int .u32 0, Value.int .u32 0, Value.int .u64 0, Value.bool false] 64) = W0 from HW0.out.symm]
  go_upto_region 4 with fail
  obtain ⟨W1, hW1⟩ : ∃ W1, W1 = W0.alloc (.cells #[.slice ka kn kc, .slice va vn vc, .int .u32 fg, .int .u32 ex, .int .u64 sq, .bool dt] 64) := ⟨_, rfl⟩
  have k1 : Keeps (fun _ => False) W0 W1 := by rw [hW1]; exact (Keeps.refl _ _).alloc _
  have hn : Blk W1 W0.heap.size 64 [.slice ka kn kc, .slice va vn vc, .int .u32 fg, .int .u32 ex, .int .u64 sq, .bool dt] := by rw [hW1]; exact Blk.new W0 64 _
  rw [← hW1]
  have d1 := HM1.out.keep k1 id
  have d2 := HM2.out.keep k1 id
  have hb := k1.blk HB.out id
  have hz := k1.blk HZ.out id
  have HNB := Lib.hid hn
  have HD1 := Lib.hid d1
  have HD2 := Lib.hid d2
  have HB1 := Lib.hid hb
  have HZ1 := Lib.hid hz
  have HK1 := Lib.hid (HK0.out.trans k1)
  clear l1 l2 b0 b1 d1 d2 hn hz k1 hW1
  have b0 := hb.cell (i := 0) rfl
  clear hb
  go_wp2_with (first
    | (at_delete; refine wpList_mdel _ rfl _ _ 110 9 rfl 3 strK Tryd.underlying110 L.ma m f rfl HD1.out _ (keyL k) rfl (key9 hk) ?_; intro w2 hm2 hk2; have HM2' := Lib.hid hm2; have HK2 := Lib.hid hk2; have hb2 := hk2.blk HB1.out (fun e => HD1.out.ne_blk HB1.out e.symm); have b1 := hb2.cell (i := 1) rfl; clear hm2 hk2 hb2)
    | (at_delete; refine wpList_mdel _ rfl _ _ 111 3 rfl 64 intK Tryd.underlying111 L.mt m g rfl (HD2.out.keep HK2.out (fun e => hm e.symm)) _ (chL ch) rfl (key3 hc) ?_; intro w3 hm3 hk3; have HM3 := Lib.hid hm3; have HK3 := Lib.hid hk3; have hz3 := hk3.blk (HK2.out.blk HZ1.out (fun e => HD1.out.ne_blk HZ1.out e.symm)) (fun e => HD2.out.ne_blk HZ1.out e.symm); have hn3 := hk3.blk (HK2.out.blk HNB.out (fun e => HD1.out.ne_blk HNB.out e.symm)) (fun e => HD2.out.ne_blk HNB.out e.symm); have HZ3 := Lib.hid hz3; have n0 := hn3.cell (i := 0) rfl; have n1 := hn3.cell (i := 1) rfl; have n2 := hn3.cell (i := 2) rfl; have n3 := hn3.cell (i := 3) rfl; have n4 := hn3.cell (i := 4) rfl; have n5 := hn3.cell (i := 5) rfl; have y0 := hz3.cell (i := 0) rfl; have y1 := hz3.cell (i := 1) rfl; have y2 := hz3.cell (i := 2) rfl; have y3 := hz3.cell (i := 3) rfl; have y4 := hz3.cell (i := 4) rfl; have y5 := hz3.cell (i := 5) rfl; have y0f := hz3.free 0; have y1f := hz3.free 1; have y2f := hz3.free 2; have y3f := hz3.free 3; have y4f := hz3.free 4; have y5f := hz3.free 5; clear hm3 hk3 hz3 hn3))
  have ho := ((((((HZ3.out.store 0 (.slice ka kn kc)).store 1 (.slice va vn vc)).store 2 (.int .u32 fg)).store 3 (.int .u32 ex)).store 4 (.int .u64 sq)).store 5 (.bool dt))
  have hk6 : Keeps (fun k => k = w.heap.size + 1) w3 ((((((w3.setCell ⟨w.heap.size + 1, 0, none⟩ (.slice ka kn kc)).setCell ⟨w.heap.size + 1, 1, none⟩ (.slice va vn vc)).setCell ⟨w.heap.size + 1, 2, none⟩ (.int .u32 fg)).setCell ⟨w.heap.size + 1, 3, none⟩ (.int .u32 ex)).setCell ⟨w.heap.size + 1, 4, none⟩ (.int .u64 sq)).setCell ⟨w.heap.size + 1, 5, none⟩ (.bool dt)) := (((((((Keeps.refl (fun k => k = w.heap.size + 1) w3).store (p := ⟨w.heap.size + 1, 0, none⟩) (.inl rfl) _).store (p := ⟨w.heap.size + 1, 1, none⟩) (.inl rfl) _).store (p := ⟨w.heap.size + 1, 2, none⟩) (.inl rfl) _).store (p := ⟨w.heap.size + 1, 3, none⟩) (.inl rfl) _).store (p := ⟨w.heap.size + 1, 4, none⟩) (.inl rfl) _).store (p := ⟨w.heap.size + 1, 5, none⟩) (.inl rfl) _)
  have q0 := ho.cell (i := 0) rfl
  have q1 := ho.cell (i := 1) rfl
  have q2 := ho.cell (i := 2) rfl
  have q3 := ho.cell (i := 3) rfl
  have q4 := ho.cell (i := 4) rfl
  have q5 := ho.cell (i := 5) rfl
  have e1 : (f (keyL k)).isSome = true := by rw [HF.out]; rfl
  have e2 : (g (chL ch)).isSome = true := by rw [HG.out]; rfl
  have r1 := HM2'.out
  have r2 := HM3.out
  rw [if_pos e1] at r1
  rw [if_pos e2] at r2
  have r1' := (r1.keep HK3.out (fun e => hm e)).keep hk6 (fun e => by
    have := HD1.out.ne_blk HZ1.out
    exact this e)
  have r2' := r2.keep hk6 (fun e => HD2.out.ne_blk HZ1.out e)
  have hkf : Keeps (fun b => b = L.ma ∨ b = L.mt) w _ := ((((HK1.out.mono (S' := fun b => b = L.ma ∨ b = L.mt ∨ b = w.heap.size + 1) (fun _ _ h => h.elim)).trans (HK2.out.mono fun _ _ h => .inl h)).trans (HK3.out.mono fun _ _ h => .inr (.inl h))).trans (hk6.mono fun _ _ h => .inr (.inr h))).mono (S' := fun b => b = L.ma ∨ b = L.mt) fun q hq e => by
    rcases e with e | e | e
    · exact .inl e
    · exact .inr e
    · have e : q = w.heap.size + 1 := e
      omega
  refine bodyPost_ret (v := .tuple #[.agg #[.slice ka kn kc, .slice va vn vc, .int .u32 fg, .int .u32 ex, .int .u64 sq, .bool dt], .int .i64 (ch : Int), .bool true]) (by simp [results, Tryd.f77, go_sem, q0, q1, q2, q3, q4, q5]) rfl ⟨rfl, r1', r2', hkf⟩
def TakeN (v : Value) (w : World) (e : Ending) (w' : World) : Prop := e = .returned (.tuple #[v, .int .i64 0, .bool false]) ∧ Keeps (fun _ => False) w w'
set_option maxRecDepth 100000 in
set_option maxHeartbeats 2000000 in
theorem take_gone (L : RL) (k : List Int) (m : Nat) (i : IT) (ka va : Option Addr) (kn kc vn vc : Nat) (f g : Lit → Option Value) (w : World) (h1 : MapV 9 w L.ma m f) (h2 : MapV 3 w L.mt m g) (hm : L.ma ≠ L.mt) (hk : k.length ≤ 140737488351232)
    (hf : f (keyL k) = none) (hg : (g (chL 0)).getD zItemV = i.agg (.slice ka kn kc) (.slice va vn vc)) :
    Calls Tryd.prog 77 #[shelfV L, .string (strOfNums k)] w (TakeN (i.agg (.slice ka kn kc) (.slice va vn vc)) w) := by
  obtain ⟨W0, hW0⟩ : ∃ W0, W0 = (w.alloc (.cells #[.map (some L.ma), .map (some L.mt)] 113)).alloc (.cells zItem.toArray 64) := ⟨_, rfl⟩
  have k0 : Keeps (fun _ => False) w W0 := by rw [hW0]; exact ((Keeps.refl _ _).alloc _).alloc _
  have hb : Blk W0 w.heap.size 113 [.map (some L.ma), .map (some L.mt)] := by rw [hW0]; exact (Blk.new w 113 _).alloc _
  have hz : Blk W0 (w.heap.size + 1) 64 zItem := by
    rw [hW0]
    have := Blk.new (w.alloc (.cells #[.map (some L.ma), .map (some L.mt)] 113)) 64 zItem
    rwa [World.size_alloc] at this
  have m1 := h1.keep k0 id
  have m2 := h2.keep k0 id
  have l1 := m1.look_ok strK Tryd.underlying110 (z3 W0) (key9 hk)
  rw [hf] at l1
  have l2 := m2.look intK Tryd.underlying111 (z64 W0) (key3 (n := 0) (by omega))
  rw [hg] at l2
  have HF := Lib.hid hf
  have HG := Lib.hid hg
  have HM1 := Lib.hid m1
  have HM2 := Lib.hid m2
  have HB := Lib.hid hb
  have HZ := Lib.hid hz
  have HK0 := Lib.hid k0
  have HW0 := Lib.hid hW0
  have b0 := hb.cell (i := 0) rfl
  have b1 := hb.cell (i := 1) rfl
  obtain ⟨key, val, fg, ex, sq, dt⟩ := i
  unfold IT.agg shelfV at *
  dsimp only at l1 l2 HG
  simp only [Option.getD_none, Option.isSome_none] at l1
  have l2 : (Instr.lookup 111 (.map (some L.mt)) (.int .i64 0) false).run Tryd.prog W0 = .ok (.agg #[.slice ka kn kc, .slice va vn vc, .int .u32 fg, .int .u32 ex, .int .u64 sq, .bool dt]) W0 := l2
  clear h1 h2 hf hg m1 m2 hb hz k0 hW0
  go_enter Tryd.func77, Tryd.ntmps77
  go_upto_region 1 with fail
  rw [show (w.alloc (Obj.cells #[.map (some L.ma), .map (some L.mt)] 113)).alloc (Obj.cells #[Value.slice none 0 0, Value.slice none 0 0, Value.int .u32 0, Value.int .u32 0, Value.int .u64 0, Value.bool false] 64) = W0 from HW0.out.symm]
  go_upto_region 6 with fail
  obtain ⟨W1, hW1⟩ : ∃ W1, W1 = W0.alloc (.cells #[.slice ka kn kc, .slice va vn vc, .int .u32 fg, .int .u32 ex, .int .u64 sq, .bool dt] 64) := ⟨_, rfl⟩
  have k1 : Keeps (fun _ => False) W0 W1 := by rw [hW1]; exact (Keeps.refl _ _).alloc _
  have hn : Blk W1 W0.heap.size 64 [.slice ka kn kc, .slice va vn vc, .int .u32 fg, .int .u32 ex, .int .u64 sq, .bool dt] := by rw [hW1]; exact Blk.new W0 64 _
  rw [← hW1]
  have hz := k1.blk HZ.out id
  have HZ1 := Lib.hid hz
  have HK1 := Lib.hid (HK0.out.trans k1)
  have n0 := hn.cell (i := 0) rfl
  have n1 := hn.cell (i := 1) rfl
  have n2 := hn.cell (i := 2) rfl
  have n3 := hn.cell (i := 3) rfl
  have n4 := hn.cell (i := 4) rfl
  have n5 := hn.cell (i := 5) rfl
  have y0 := hz.cell (i := 0) rfl
  have y1 := hz.cell (i := 1) rfl
  have y2 := hz.cell (i := 2) rfl
  have y3 := hz.cell (i := 3) rfl
  have y4 := hz.cell (i := 4) rfl
  have y5 := hz.cell (i := 5) rfl
  have y0f := hz.free 0
  have y1f := hz.free 1
  have y2f := hz.free 2
  have y3f := hz.free 3
  have y4f := hz.free 4
  have y5f := hz.free 5
  clear l1 l2 b0 b1 hn hz k1 hW1
  go_wp2_with fail
  have ho := ((((((HZ1.out.store 0 (.slice ka kn kc)).store 1 (.slice va vn vc)).store 2 (.int .u32 fg)).store 3 (.int .u32 ex)).store 4 (.int .u64 sq)).store 5 (.bool dt))
  have hk6 : Keeps (fun k => k = w.heap.size + 1) W1 ((((((W1.setCell ⟨w.heap.size + 1, 0, none⟩ (.slice ka kn kc)).setCell ⟨w.heap.size + 1, 1, none⟩ (.slice va vn vc)).setCell ⟨w.heap.size + 1, 2, none⟩ (.int .u32 fg)).setCell ⟨w.heap.size + 1, 3, none⟩ (.int .u32 ex)).setCell ⟨w.heap.size + 1, 4, none⟩ (.int .u64 sq)).setCell ⟨w.heap.size + 1, 5, none⟩ (.bool dt)) := (((((((Keeps.refl (fun k => k = w.heap.size + 1) W1).store (p := ⟨w.heap.size + 1, 0, none⟩) (.inl rfl) _).store (p := ⟨w.heap.size + 1, 1, none⟩) (.inl rfl) _).store (p := ⟨w.heap.size + 1, 2, none⟩) (.inl rfl) _).store (p := ⟨w.heap.size + 1, 3, none⟩) (.inl rfl) _).store (p := ⟨w.heap.size + 1, 4, none⟩) (.inl rfl) _).store (p := ⟨w.heap.size + 1, 5, none⟩) (.inl rfl) _)
  have q0 := ho.cell (i := 0) rfl
  have q1 := ho.cell (i := 1) rfl
  have q2 := ho.cell (i := 2) rfl
  have q3 := ho.cell (i := 3) rfl
  have q4 := ho.cell (i := 4) rfl
  have q5 := ho.cell (i := 5) rfl
  have hkf : Keeps (fun _ => False) w _ := ((HK1.out.mono (S' := fun b => b = w.heap.size + 1) (fun _ _ h => h.elim)).trans hk6).mono (S' := fun _ => False) fun q hq e => by
    have e : q = w.heap.size + 1 := e
    omega
  refine bodyPost_ret (v := .tuple #[.agg #[.slice ka kn kc, .slice va vn vc, .int .u32 fg, .int .u32 ex, .int .u64 sq, .bool dt], .int .i64 0, .bool false]) (by simp [results, Tryd.f77, go_sem, q0, q1, q2, q3, q4, q5]) rfl ⟨rfl, hkf⟩
/-- put. -/
def PutP (L : RL) (m : Nat) (f g : Lit → Option Value) (w : World) (e : Ending) (w' : World) : Prop := e = .returned (.tuple #[]) ∧ MapV 9 w' L.ma m f ∧ MapV 3 w' L.mt m g ∧ Keeps (fun b => b = L.ma ∨ b = L.mt) w w'
set_option maxRecDepth 100000 in
set_option maxHeartbeats 2000000 in
theorem put_new (L : RL) (k : List Int) (ch m : Nat) (i : IT) (ka va : Option Addr) (kn kc vn vc : Nat) (f g : Lit → Option Value) (w : World) (h1 : MapV 9 w L.ma m f) (h2 : MapV 3 w L.mt m g) (hm : L.ma ≠ L.mt) (hk : k.length ≤ 140737488351232) (hc : ch ≤ 1000000) (hml : m ≤ 1000000)
    (hf : f (keyL k) = none) (hg : g (chL ch) = none) :
    Calls Tryd.prog 65 #[shelfV L, .string (strOfNums k), .int .i64 (ch : Int), i.agg (.slice ka kn kc) (.slice va vn vc)] w (PutP L (m + 1) (mput f (keyL k) (.int .i64 (ch : Int))) (mput g (chL ch) (i.agg (.slice ka kn kc) (.slice va vn vc))) w) := by
  obtain ⟨key, val, fg, ex, sq, dt⟩ := i
  unfold IT.agg shelfV
  dsimp only
  obtain ⟨W0, hW0⟩ : ∃ W0, W0 = (w.alloc (.cells #[.map (some L.ma), .map (some L.mt)] 113)).alloc (.cells #[.slice ka kn kc, .slice va vn vc, .int .u32 fg, .int .u32 ex, .int .u64 sq, .bool dt] 64) := ⟨_, rfl⟩
  have k0 : Keeps (fun _ => False) w W0.drew := by rw [hW0]; exact (((Keeps.refl _ _).alloc _).alloc _).drew
  have hb : Blk W0.drew w.heap.size 113 [.map (some L.ma), .map (some L.mt)] := by rw [hW0]; exact ((Blk.new w 113 _).alloc _).drew
  have hz : Blk W0.drew (w.heap.size + 1) 64 [.slice ka kn kc, .slice va vn vc, .int .u32 fg, .int .u32 ex, .int .u64 sq, .bool dt] := by
    rw [hW0]
    have := Blk.new (w.alloc (.cells #[.map (some L.ma), .map (some L.mt)] 113)) 64 [.slice ka kn kc, .slice va vn vc, .int .u32 fg, .int .u32 ex, .int .u64 sq, .bool dt]
    rw [World.size_alloc] at this
    exact this.drew
  have m1 := h1.keep k0 id
  have m2 := h2.keep k0 id
  have hlt : m < maxLen := by unfold maxLen; omega
  have e1 : (f (keyL k)).isSome = false := by rw [hf]; rfl
  have e2 : (g (chL ch)).isSome = false := by rw [hg]; rfl
  obtain ⟨wa, ra, ma1, ka1⟩ := m1.put strK Tryd.underlying110 hlt (key9 hk) (.int .i64 (ch : Int))
  obtain ⟨wb, rb, mb1, kb1⟩ := m2.put intK Tryd.underlying111 hlt (key3 hc) (.agg #[.slice ka kn kc, .slice va vn vc, .int .u32 fg, .int .u32 ex, .int .u64 sq, .bool dt])
  obtain ⟨wab, rab, mab, kab⟩ := (m2.keep ka1 (fun e => hm e.symm)).put intK Tryd.underlying111 hlt (key3 hc) (.agg #[.slice ka kn kc, .slice va vn vc, .int .u32 fg, .int .u32 ex, .int .u64 sq, .bool dt])
  obtain ⟨wba, rba, mba, kba⟩ := (m1.keep kb1 (fun e => hm e)).put strK Tryd.underlying110 hlt (key9 hk) (.int .i64 (ch : Int))
  rw [e1] at ma1 mba
  rw [e2] at mb1 mab
  simp only [Bool.false_eq_true, if_false] at ma1 mba mb1 mab
  have b0 := hb.cell (i := 0) rfl
  have b1 := hb.cell (i := 1) rfl
  have n0 := hz.cell (i := 0) rfl
  have n1 := hz.cell (i := 1) rfl
  have n2 := hz.cell (i := 2) rfl
  have n3 := hz.cell (i := 3) rfl
  have n4 := hz.cell (i := 4) rfl
  have n5 := hz.cell (i := 5) rfl
  have hba := ka1.blk hb (fun e => m1.ne_blk hb e.symm)
  have hza := ka1.blk hz (fun e => m1.ne_blk hz e.symm)
  have hbb := kb1.blk hb (fun e => m2.ne_blk hb e.symm)
  have hzb := kb1.blk hz (fun e => m2.ne_blk hz e.symm)
  have a0 := hba.cell (i := 0) rfl
  have a1 := hba.cell (i := 1) rfl
  have c0 := hbb.cell (i := 0) rfl
  have c1 := hbb.cell (i := 1) rfl
  have p0 := hza.cell (i := 0) rfl
  have r0 := hzb.cell (i := 0) rfl
  have p1 := hza.cell (i := 1) rfl
  have r1 := hzb.cell (i := 1) rfl
  have p2 := hza.cell (i := 2) rfl
  have r2 := hzb.cell (i := 2) rfl
  have p3 := hza.cell (i := 3) rfl
  have r3 := hzb.cell (i := 3) rfl
  have p4 := hza.cell (i := 4) rfl
  have r4 := hzb.cell (i := 4) rfl
  have p5 := hza.cell (i := 5) rfl
  have r5 := hzb.cell (i := 5) rfl
  have HA : Hid (PutP L (m + 1) (mput f (keyL k) (.int .i64 (ch : Int))) (mput g (chL ch) (.agg #[Value.slice ka kn kc, Value.slice va vn vc, Value.int .u32 fg, Value.int .u32 ex, Value.int .u64 sq, Value.bool dt])) w (.returned (.tuple #[])) wab) := Lib.hid ⟨rfl, ma1.keep kab (fun e => hm e), mab, ((k0.mono (S' := fun b => b = L.ma ∨ b = L.mt) (fun _ _ h => h.elim)).trans (ka1.mono fun _ _ h => .inl h)).trans (kab.mono fun _ _ h => .inr h)⟩
  have HBA : Hid (PutP L (m + 1) (mput f (keyL k) (.int .i64 (ch : Int))) (mput g (chL ch) (.agg #[Value.slice ka kn kc, Value.slice va vn vc, Value.int .u32 fg, Value.int .u32 ex, Value.int .u64 sq, Value.bool dt])) w (.returned (.tuple #[])) wba) := Lib.hid ⟨rfl, mba, mb1.keep kba (fun e => hm e.symm), ((k0.mono (S' := fun b => b = L.ma ∨ b = L.mt) (fun _ _ h => h.elim)).trans (kb1.mono fun _ _ h => .inr h)).trans (kba.mono fun _ _ h => .inl h)⟩
  have HW0 := Lib.hid hW0
  clear h1 h2 hf hg m1 m2 k0 hb hz hba hza hbb hzb ma1 mba mb1 mab ka1 kb1 kab kba e1 e2 hW0
  go_enter Tryd.func65, Tryd.ntmps65
  go_upto_region 1 with fail
  rw [show (w.alloc (Obj.cells #[.map (some L.ma), .map (some L.mt)] 113)).alloc (Obj.cells #[Value.slice ka kn kc, Value.slice va vn vc, Value.int .u32 fg, Value.int .u32 ex, Value.int .u64 sq, Value.bool dt] 64) = W0 from HW0.out.symm]
  go_region
  all_goals
    go_wp2_with fail
    go_end0
    first | exact HA.out | exact HBA.out
end Go.Proofs.YthnagihgjenimaaDoor
