/- charge and own of an item. -/
import Derived.Test.YthnagihgjenimaaDoorBts
import Derived.WalkKit
import Derived.BigRegion
import Derived.BigQuiet
import Derived.Deep.RegionHeld3
import Derived.Deep.CutBlock
import Derived.Deep.DeepCutAuto
namespace Go.Proofs.YthnagihgjenimaaDoor
open Go.RowKit
set_option linter.unusedVariables false
set_option linter.unusedSimpArgs false
/-- A slice that reads as bytes, of the call's own or not. -/
def SlB (w : World) (v : Value) (xs : List Int) : Prop := ∃ a c, v = .slice a xs.length c ∧ Row .u8 w a xs.length xs
theorem SlB.quiet {w w' : World} {v : Value} {xs : List Int} (h : SlB w v xs) (hk : Keeps (fun _ => False) w w') : SlB w' v xs := by
  obtain ⟨a, c, e, h⟩ := h
  exact ⟨a, c, e, h.quiet hk⟩
theorem SlB.of_own {w : World} {base : Nat} {v : Value} {xs : List Int} (h : w.ownsRow base 5 1 v xs.length (nb xs)) : SlB w v xs := by
  obtain ⟨a, c, e, _, _, h⟩ := own_bytes h
  exact ⟨a, c, e, h⟩
/-- An item of slices. -/
structure ItB (w : World) (i : IT) (kv vv : Value) : Prop where
  k : SlB w kv i.key
  v : SlB w vv i.val
theorem ItB.quiet {w w' : World} {i : IT} {kv vv : Value} (h : ItB w i kv vv) (hk : Keeps (fun _ => False) w w') : ItB w' i kv vv := ⟨h.k.quiet hk, h.v.quiet hk⟩
theorem Reads.itb {w : World} {i : IT} {kv vv : Value} (h : Reads w i kv vv) : ItB w i kv vv := ⟨.of_own h.k, .of_own h.v⟩
def IntP (n : Int) (w : World) (e : Ending) (w' : World) : Prop := e = .returned (.int .i64 n) ∧ Keeps (fun _ => False) w w'
set_option maxRecDepth 100000 in
theorem charge_any (i : IT) (kv vv : Value) (w : World) (h : ItB w i kv vv) (hk : i.key.length ≤ 1000000) (hv : i.val.length ≤ 1000000) : Calls Tryd.prog 63 #[i.agg kv vv] w (IntP (i.chg : Nat) w) := by
  obtain ⟨⟨a, c, rfl, hr⟩, ⟨b, d, rfl, hq⟩⟩ := h
  clear hr hq
  unfold IT.chg IntP
  obtain ⟨key, val, fg, ex, sq, dt⟩ := i
  unfold IT.agg
  dsimp only at hk hv ⊢
  obtain ⟨n, hn⟩ : ∃ n, n = key.length := ⟨_, rfl⟩
  obtain ⟨m, hm⟩ : ∃ m, m = val.length := ⟨_, rfl⟩
  rw [← hn] at hk ⊢
  rw [← hm] at hv ⊢
  clear hn hm
  have e1 : IntKind.i64.wrap (24 + (n : Int)) = 24 + (n : Int) := IntWalk.i64_in _ (by omega)
  have e2 : IntKind.i64.wrap (24 + (n : Int) + (m : Int)) = 24 + (n : Int) + (m : Int) := IntWalk.i64_in _ (by omega)
  have b0 := Blk.new w 64 [.slice a n c, .slice b m d, .int .u32 fg, .int .u32 ex, .int .u64 sq, .bool dt]
  have c0 := b0.cell (i := 0) rfl
  have c1 := b0.cell (i := 1) rfl
  clear b0
  go_enter Tryd.func63, Tryd.ntmps63
  go_wp2_with fail
  go_ret
  exact ⟨ret_int (by push_cast; omega), (Keeps.refl _ _).alloc _⟩
/-- An item of one's own. -/
def OwnP (i : IT) (w : World) (e : Ending) (w' : World) : Prop := ∃ kv vv, e = .returned (i.agg kv vv) ∧ w'.ownsRow w.heap.size 5 1 kv i.key.length (nb i.key) ∧ w'.ownsRow w.heap.size 5 1 vv i.val.length (nb i.val) ∧ Keeps (fun _ => False) w w'
def zItem : List Value := [.slice none 0 0, .slice none 0 0, .int .u32 0, .int .u32 0, .int .u64 0, .bool false]
def OwnR (w W0 : World) (key val : List Int) (fg ex sq : Int) (dt : Bool) (wx : World) : Prop :=
  ∃ kv vv, Blk wx w.heap.size 64 [kv, vv, .int .u32 fg, .int .u32 ex, .int .u64 sq, .bool dt] ∧ Blk wx (w.heap.size + 1) 64 zItem ∧ wx.ownsRow W0.heap.size 5 1 kv key.length (nb key) ∧ wx.ownsRow W0.heap.size 5 1 vv val.length (nb val) ∧ Keeps (fun k => k = w.heap.size) W0 wx
theorem own_fin {w W0 w2 : World} {key val : List Int} {fg ex sq : Int} {dt : Bool} {k0 v0 kv vv : Value} (hb : Blk w2 w.heap.size 64 [k0, v0, .int .u32 fg, .int .u32 ex, .int .u64 sq, .bool dt]) (hz : Blk w2 (w.heap.size + 1) 64 zItem)
    (h1 : w2.ownsRow W0.heap.size 5 1 kv key.length (nb key)) (h2 : w2.ownsRow W0.heap.size 5 1 vv val.length (nb val)) (hk : Keeps (fun _ => False) W0 w2) :
    OwnR w W0 key val fg ex sq dt ((w2.setCell ⟨w.heap.size, 0, none⟩ kv).setCell ⟨w.heap.size, 1, none⟩ vv) ∧ OwnR w W0 key val fg ex sq dt ((w2.setCell ⟨w.heap.size, 1, none⟩ vv).setCell ⟨w.heap.size, 0, none⟩ kv) := by
  have ne1 : ∀ g, kv.ownBlock = some g → g ≠ w.heap.size := fun g hg e => own_ne_blk hb h1 (by decide) (e ▸ hg)
  have ne2 : ∀ g, vv.ownBlock = some g → g ≠ w.heap.size := fun g hg e => own_ne_blk hb h2 (by decide) (e ▸ hg)
  have k1 : Keeps (fun k => k = w.heap.size) w2 ((w2.setCell ⟨w.heap.size, 0, none⟩ kv).setCell ⟨w.heap.size, 1, none⟩ vv) := ((Keeps.refl (fun k => k = w.heap.size) w2).store (p := ⟨w.heap.size, 0, none⟩) (.inl rfl) _).store (p := ⟨w.heap.size, 1, none⟩) (.inl rfl) _
  have k2 : Keeps (fun k => k = w.heap.size) w2 ((w2.setCell ⟨w.heap.size, 1, none⟩ vv).setCell ⟨w.heap.size, 0, none⟩ kv) := ((Keeps.refl (fun k => k = w.heap.size) w2).store (p := ⟨w.heap.size, 1, none⟩) (.inl rfl) _).store (p := ⟨w.heap.size, 0, none⟩) (.inl rfl) _
  have hq : Keeps (fun k => k = w.heap.size) W0 w2 := hk.mono fun _ _ h => h.elim
  exact ⟨⟨kv, vv, (hb.store 0 _).store 1 _, k1.blk hz (by omega), k1.own' h1 ne1, k1.own' h2 ne2, hq.trans k1⟩, ⟨kv, vv, (hb.store 1 _).store 0 _, k2.blk hz (by omega), k2.own' h1 ne1, k2.own' h2 ne2, hq.trans k2⟩⟩
set_option maxRecDepth 100000 in
set_option maxHeartbeats 2000000 in
theorem own_any (i : IT) (kv vv : Value) (w : World) (h : ItB w i kv vv) (hk : i.key.length ≤ 1048576) (hv : i.val.length ≤ 1048576) : Calls Tryd.prog 66 #[i.agg kv vv] w (OwnP i w) := by
  obtain ⟨W0, hW0⟩ : ∃ W0, W0 = (w.alloc (.cells (i.cells kv vv).toArray 64)).alloc (.cells zItem.toArray 64) := ⟨_, rfl⟩
  have k0 : Keeps (fun _ => False) w W0 := by rw [hW0]; exact ((Keeps.refl _ _).alloc _).alloc _
  have hb : Blk W0 w.heap.size 64 (i.cells kv vv) := by rw [hW0]; exact (Blk.new w 64 _).alloc _
  have hz : Blk W0 (w.heap.size + 1) 64 zItem := by
    rw [hW0]
    have := Blk.new (w.alloc (.cells (i.cells kv vv).toArray 64)) 64 zItem
    rwa [World.size_alloc] at this
  have hs : W0.heap.size = w.heap.size + 2 := by rw [hW0]; simp
  obtain ⟨⟨a, c, rfl, hr⟩, ⟨b, d, rfl, hq⟩⟩ := h
  have HCK : Hid (∀ W, Keeps (fun _ => False) W0 W → Calls Tryd.prog 80 #[.slice a i.key.length c] W (BytesP i.key W)) := Lib.hid (fun W hk' => clone5 a _ c _ W (hr.quiet (k0.trans hk')) hk)
  have HCV : Hid (∀ W, Keeps (fun _ => False) W0 W → Calls Tryd.prog 80 #[.slice b i.val.length d] W (BytesP i.val W)) := Lib.hid (fun W hk' => clone5 b _ d _ W (hq.quiet (k0.trans hk')) hv)
  obtain ⟨key, val, fg, ex, sq, dt⟩ := i
  unfold IT.agg IT.cells at *
  dsimp only at HCK HCV hb hW0 hk hv ⊢
  obtain ⟨n, hn⟩ : ∃ n, n = key.length := ⟨_, rfl⟩
  obtain ⟨m, hm⟩ : ∃ m, m = val.length := ⟨_, rfl⟩
  have HN := Lib.hid hn
  have HM := Lib.hid hm
  rw [← hn] at HCK hb hW0
  rw [← hm] at HCV hb hW0
  have HB := Lib.hid hb
  have HZ := Lib.hid hz
  have HK0 := Lib.hid k0
  have HW0 := Lib.hid hW0
  have HS := Lib.hid hs
  clear hr hq hb hz k0 hs hk hv
  have F : Hid (∀ W, Keeps (fun _ => False) W0 W → (W.cell? ⟨w.heap.size, 0, none⟩ = some (.slice a n c) ∧ W.cell? ⟨w.heap.size, 1, none⟩ = some (.slice b m d)) ∧ W.frozen? ⟨w.heap.size, 0, none⟩ = false ∧ W.frozen? ⟨w.heap.size, 1, none⟩ = false) := Lib.hid (fun W hk => by
    have h := hk.blk HB.out id
    exact ⟨⟨h.cell (i := 0) rfl, h.cell (i := 1) rfl⟩, h.free 0, h.free 1⟩)
  rw [← hn, ← hm]
  clear hn hm hW0
  go_enter Tryd.func66, Tryd.ntmps66
  go_upto_region 1 with fail
  rw [show (w.alloc (Obj.cells #[Value.slice a n c, Value.slice b m d, Value.int .u32 fg, Value.int .u32 ex, Value.int .u64 sq, Value.bool dt] 64)).alloc (Obj.cells #[Value.slice none 0 0, Value.slice none 0 0, Value.int .u32 0, Value.int .u32 0, Value.int .u64 0, Value.bool false] 64) = W0 from HW0.out.symm]
  go_cut [] (fun wx => OwnR w W0 key val fg ex sq dt wx)
  case first =>
    obtain ⟨⟨q0, q1⟩, q2, q3⟩ := F.out _ (Keeps.refl _ _).drew
    go_region_with (first
      | (go_at_call_of 80 (Value.slice a n c); refine (HCK.out _ (Keeps.refl _ _).drew).mono ?_; rintro e wk ⟨rk, rfl, ok, hkk⟩; obtain ⟨ka, kc, rfl, _⟩ := own_bytes ok; have kk : Keeps (fun _ => False) W0 wk := (Keeps.refl (fun _ => False) W0).drew.trans hkk; obtain ⟨⟨r0, r1⟩, r2, r3⟩ := F.out _ kk; have OK := Lib.hid ok; clear ok hkk)
      | (go_at_call_of 80 (Value.slice a n c); refine (HCK.out _ kv).mono ?_; rintro e wz ⟨rk, rfl, ok, hkk⟩; obtain ⟨ka, kc, rfl, _⟩ := own_bytes ok; have kz : Keeps (fun _ => False) W0 wz := kv.trans hkk; obtain ⟨⟨s0, s1⟩, s2, s3⟩ := F.out _ kz; have OK := Lib.hid (own_base ok kv.size); have OV2 := Lib.hid (hkk.own' OV.out fun _ _ => id); clear ok hkk)
      | (go_at_call_of 80 (Value.slice b m d); refine (HCV.out _ (Keeps.refl _ _).drew).mono ?_; rintro e wv ⟨rv, rfl, ov, hkv⟩; obtain ⟨va, vc, rfl, _⟩ := own_bytes ov; have kv : Keeps (fun _ => False) W0 wv := (Keeps.refl (fun _ => False) W0).drew.trans hkv; obtain ⟨⟨r0, r1⟩, r2, r3⟩ := F.out _ kv; have OV := Lib.hid ov; clear ov hkv)
      | (go_at_call_of 80 (Value.slice b m d); refine (HCV.out _ kk).mono ?_; rintro e wz ⟨rv, rfl, ov, hkv⟩; obtain ⟨va, vc, rfl, _⟩ := own_bytes ov; have kz : Keeps (fun _ => False) W0 wz := kk.trans hkv; obtain ⟨⟨s0, s1⟩, s2, s3⟩ := F.out _ kz; have OV2 := Lib.hid (own_base ov kk.size); have OK2 := Lib.hid (hkv.own' OK.out fun _ _ => id); clear ov hkv))
    all_goals
      go_wp2_with fail
      go_meet
      first
        | exact (own_fin (W0 := W0) (kz.blk HB.out id) (kz.blk HZ.out id) OK2.out OV2.out kz).1
        | exact (own_fin (W0 := W0) (kz.blk HB.out id) (kz.blk HZ.out id) OK2.out OV2.out kz).2
        | exact (own_fin (W0 := W0) (kz.blk HB.out id) (kz.blk HZ.out id) OK.out OV2.out kz).1
        | exact (own_fin (W0 := W0) (kz.blk HB.out id) (kz.blk HZ.out id) OK.out OV2.out kz).2
        | fail
  case rest =>
    obtain ⟨kv, vv, hb, hz, ok, ov, hk⟩ := hcut
    obtain ⟨wx, rfl⟩ : ∃ wx, wx = wc := ⟨_, rfl⟩
    have hle : w.heap.size ≤ W0.heap.size := HK0.out.size
    have OK := Lib.hid (own_base ok hle)
    have OV := Lib.hid (own_base ov hle)
    have HKX : Hid (Keeps (fun _ => False) w wx) := Lib.hid (((HK0.out.mono (S' := fun k => k = w.heap.size) (fun _ _ h => h.elim)).trans hk).mono fun k hk' e => by
      have e : k = w.heap.size := e
      omega)
    obtain ⟨ka, kc, rfl, _⟩ := own_bytes ok
    obtain ⟨va, vc, rfl, _⟩ := own_bytes ov
    have b0 := hb.cell (i := 0) rfl
    have b1 := hb.cell (i := 1) rfl
    have b2 := hb.cell (i := 2) rfl
    have b3 := hb.cell (i := 3) rfl
    have b4 := hb.cell (i := 4) rfl
    have b5 := hb.cell (i := 5) rfl
    have z0 := hz.cell (i := 0) rfl
    have z1 := hz.cell (i := 1) rfl
    have z2 := hz.cell (i := 2) rfl
    have z3 := hz.cell (i := 3) rfl
    have z4 := hz.cell (i := 4) rfl
    have z5 := hz.cell (i := 5) rfl
    have f0 := hz.free 0
    have f1 := hz.free 1
    have f2 := hz.free 2
    have f3 := hz.free 3
    have f4 := hz.free 4
    have f5 := hz.free 5
    have HZX := Lib.hid hz
    clear hb hz ok ov hk HCK HCV HB HZ F
    go_wp2_with fail
    have ho := (((((HZX.out.store 0 (.slice ka key.length kc)).store 1 (.slice va val.length vc)).store 2 (.int .u32 fg)).store 3 (.int .u32 ex)).store 4 (.int .u64 sq)).store 5 (.bool dt)
    have hk6 : Keeps (fun k => k = w.heap.size + 1) wx ((((((wx.setCell ⟨w.heap.size + 1, 0, none⟩ (.slice ka key.length kc)).setCell ⟨w.heap.size + 1, 1, none⟩ (.slice va val.length vc)).setCell ⟨w.heap.size + 1, 2, none⟩ (.int .u32 fg)).setCell ⟨w.heap.size + 1, 3, none⟩ (.int .u32 ex)).setCell ⟨w.heap.size + 1, 4, none⟩ (.int .u64 sq)).setCell ⟨w.heap.size + 1, 5, none⟩ (.bool dt)) :=
      ((((((Keeps.refl (fun k => k = w.heap.size + 1) wx).store (p := ⟨w.heap.size + 1, 0, none⟩) (.inl rfl) _).store (p := ⟨w.heap.size + 1, 1, none⟩) (.inl rfl) _).store (p := ⟨w.heap.size + 1, 2, none⟩) (.inl rfl) _).store (p := ⟨w.heap.size + 1, 3, none⟩) (.inl rfl) _).store (p := ⟨w.heap.size + 1, 4, none⟩) (.inl rfl) _).store (p := ⟨w.heap.size + 1, 5, none⟩) (.inl rfl) _
    have q0 := ho.cell (i := 0) rfl
    have q1 := ho.cell (i := 1) rfl
    have q2 := ho.cell (i := 2) rfl
    have q3 := ho.cell (i := 3) rfl
    have q4 := ho.cell (i := 4) rfl
    have q5 := ho.cell (i := 5) rfl
    have ok2 := hk6.own' OK.out fun g hg e => own_ne_blk HZX.out OK.out (by decide) ((show g = w.heap.size + 1 from e) ▸ hg)
    have ov2 := hk6.own' OV.out fun g hg e => own_ne_blk HZX.out OV.out (by decide) ((show g = w.heap.size + 1 from e) ▸ hg)
    have hkf : Keeps (fun _ => False) w _ := ((HKX.out.mono (S' := fun k => k = w.heap.size + 1) (fun _ _ h => h.elim)).trans hk6).mono (S' := fun _ => False) fun k hk' e => by
      have e : k = w.heap.size + 1 := e
      omega
    refine bodyPost_ret (v := .agg #[.slice ka key.length kc, .slice va val.length vc, .int .u32 fg, .int .u32 ex, .int .u64 sq, .bool dt]) (by simp [results, Tryd.f66, go_sem, q0, q1, q2, q3, q4, q5]) rfl ⟨_, _, rfl, ok2, ov2, hkf⟩
end Go.Proofs.YthnagihgjenimaaDoor
