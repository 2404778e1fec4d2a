/- icehouseref13: Right, Charge, New, oldest, Touch, Clean. -/
import Derived.Test.YthnagihgjenimaaDoorRamH
namespace Go.Proofs.YthnagihgjenimaaDoor
open Go.RowKit
set_option linter.unusedVariables false
set_option linter.unusedSimpArgs false
set_option maxRecDepth 100000 in
set_option maxHeartbeats 2000000 in
theorem right_ok (i : IT) (kv vv : Value) (w : World) (h : ItB w i kv vv) (hi : i.Ok) : Calls Tryd.prog 41 #[i.agg kv vv] w (BoolP true w) := by
  obtain ⟨⟨a, c, rfl, _⟩, ⟨b, d, rfl, _⟩⟩ := h
  have h0 := Blk.new w 64 [.slice a i.key.length c, .slice b i.val.length d, .int .u32 i.fg, .int .u32 i.ex, .int .u64 i.sq, .bool i.dt]
  have p0 := h0.cell (i := 0) rfl
  have p1 := h0.cell (i := 1) rfl
  have p4 := h0.cell (i := 4) rfl
  have k1 := hi.k1
  have k2 := hi.k2
  have v2 := hi.v2
  have s1 := hi.sq
  clear h0 hi
  obtain ⟨key, val, fg, ex, sq, dt⟩ := i
  dsimp only at *
  unfold IT.agg
  dsimp only
  obtain ⟨n, hn⟩ : ∃ n, n = key.length := ⟨_, rfl⟩
  obtain ⟨m, hm⟩ : ∃ m, m = val.length := ⟨_, rfl⟩
  rw [← hn] at p0 k1 k2 ⊢
  rw [← hm] at p1 v2 ⊢
  clear hn hm
  have e1 : (1 : Int) ≤ (n : Int) := by omega
  have e2 : (n : Int) ≤ 250 := by omega
  have e3 : (m : Int) ≤ 512 := by omega
  have e4 : (0 : Int) < sq := by omega
  go_enter Tryd.func41, Tryd.ntmps41
  go_wp2_with fail
  go_ret
  exact ⟨rfl, (Keeps.refl _ _).alloc _⟩
set_option maxRecDepth 100000 in
set_option maxHeartbeats 2000000 in
theorem right_bad (i : IT) (kv vv : Value) (w : World) (h : ItB w i kv vv) (hi : i.Bad) (hs : 0 ≤ i.sq) : Calls Tryd.prog 41 #[i.agg kv vv] w (BoolP false w) := by
  obtain ⟨⟨a, c, rfl, _⟩, ⟨b, d, rfl, _⟩⟩ := h
  have h0 := Blk.new w 64 [.slice a i.key.length c, .slice b i.val.length d, .int .u32 i.fg, .int .u32 i.ex, .int .u64 i.sq, .bool i.dt]
  have p0 := h0.cell (i := 0) rfl
  have p1 := h0.cell (i := 1) rfl
  have p4 := h0.cell (i := 4) rfl
  unfold IT.Bad at hi
  clear h0
  obtain ⟨key, val, fg, ex, sq, dt⟩ := i
  dsimp only at *
  unfold IT.agg
  dsimp only
  obtain ⟨n, hn⟩ : ∃ n, n = key.length := ⟨_, rfl⟩
  obtain ⟨m, hm⟩ : ∃ m, m = val.length := ⟨_, rfl⟩
  rw [← hn] at p0 hi ⊢
  rw [← hm] at p1 hi ⊢
  clear hn hm
  by_cases c1 : n < 1
  · have e1 : ¬ ((1 : Int) ≤ (n : Int)) := by omega
    clear hi c1
    go_enter Tryd.func41, Tryd.ntmps41
    go_wp2_with fail
    go_ret
    exact ⟨rfl, (Keeps.refl _ _).alloc _⟩
  · have e1 : (1 : Int) ≤ (n : Int) := by omega
    by_cases c2 : 250 < n
    · have e2 : ¬ ((n : Int) ≤ 250) := by omega
      clear hi c1 c2
      go_enter Tryd.func41, Tryd.ntmps41
      go_wp2_with fail
      go_ret
      exact ⟨rfl, (Keeps.refl _ _).alloc _⟩
    · have e2 : (n : Int) ≤ 250 := by omega
      by_cases c3 : 512 < m
      · have e3 : ¬ ((m : Int) ≤ 512) := by omega
        clear hi c1 c2 c3
        go_enter Tryd.func41, Tryd.ntmps41
        go_wp2_with fail
        go_ret
        exact ⟨rfl, (Keeps.refl _ _).alloc _⟩
      · have e3 : (m : Int) ≤ 512 := by omega
        obtain rfl : sq = 0 := by
          rcases hi with h | h | h | h
          · exact absurd h c1
          · exact absurd h c2
          · exact absurd h c3
          · exact h
        clear hi c1 c2 c3
        go_enter Tryd.func41, Tryd.ntmps41
        go_wp2_with fail
        go_ret
        exact ⟨rfl, (Keeps.refl _ _).alloc _⟩
set_option maxRecDepth 100000 in
theorem rcharge_any (i : IT) (kv vv : Value) (w : World) (h : ItB w i kv vv) (hk : i.key.length ≤ 1000000) (hv : i.val.length ≤ 1000000) : Calls Tryd.prog 71 #[i.agg kv vv] w (IntP (i.chg : Nat) w) := by
  obtain ⟨⟨a, c, rfl, _⟩, ⟨b, d, rfl, _⟩⟩ := h
  have h0 := Blk.new w 64 [.slice a i.key.length c, .slice b i.val.length d, .int .u32 i.fg, .int .u32 i.ex, .int .u64 i.sq, .bool i.dt]
  have p0 := h0.cell (i := 0) rfl
  have p1 := h0.cell (i := 1) rfl
  clear h0
  unfold IT.chg
  obtain ⟨key, val, fg, ex, sq, dt⟩ := i
  dsimp only at *
  unfold IT.agg
  dsimp only
  obtain ⟨n, hn⟩ : ∃ n, n = key.length := ⟨_, rfl⟩
  obtain ⟨m, hm⟩ : ∃ m, m = val.length := ⟨_, rfl⟩
  rw [← hn] at p0 hk ⊢
  rw [← hm] at p1 hv ⊢
  clear hn hm
  go_enter Tryd.func71, Tryd.ntmps71
  go_wp2_with fail
  go_ret
  exact ⟨by push_cast; rfl, (Keeps.refl _ _).alloc _⟩
theorem st2 {w : World} {g : Nat} {a' b' : Value} (h : Blk w g 74 [a', b']) (a b : Value) : Blk ((w.setCell ⟨g, 0, none⟩ a).setCell ⟨g, 1, none⟩ b) g 74 [a, b] ∧ Keeps (fun k => k = g) w ((w.setCell ⟨g, 0, none⟩ a).setCell ⟨g, 1, none⟩ b) :=
  ⟨(h.store 0 a).store 1 b, ((Keeps.refl (fun k => k = g) w).store (p := ⟨g, 0, none⟩) (.inl rfl) a).store (p := ⟨g, 1, none⟩) (.inl rfl) b⟩
theorem rg_keepB {w w' : World} {X : RG} {n g t : Nat} {f : Nat → Nat → Nat} {cs : List Value} (h : RgAt w X n f) (hb : Blk w g t cs) (ht : t ≠ 3) (ht2 : t ≠ 28) (hk : Keeps (fun k => k = g) w w') : RgAt w' X n f := h.keep hk fun g' cur t' ht' hc e => by
  have e : g' = g := e
  subst e
  unfold Blk at hb
  rw [hb] at hc
  injection hc with hc
  injection hc with _ hc
  rcases ht' with rfl | rfl
  · exact ht hc
  · exact ht2 hc
def RNew13P (N : Nat) (w : World) (e : Ending) (w' : World) : Prop := ∃ X : RG, e = .returned (.agg #[.slice (some ⟨X.O, 0, none⟩) N X.cap, .slice none 0 0]) ∧ RgAt w' X N (fun _ _ => 0) ∧ X.Over N w.heap.size ∧ Keeps (fun _ => False) w w'
set_option maxRecDepth 100000 in
theorem rnew13_any (N : Nat) (h1 : 1 ≤ N) (h2 : N ≤ 40) (w : World) : Calls Tryd.prog 38 #[.int .i64 N] w (RNew13P N w) := by
  have hz := Blk.new w 74 [.slice none 0 0, .slice none 0 0]
  have hk0 : Keeps (fun _ => False) w (w.alloc (.cells #[.slice none 0 0, .slice none 0 0] 74)) := (Keeps.refl _ _).alloc _
  obtain ⟨W0, hW0⟩ : ∃ W0, W0 = w.alloc (.cells #[.slice none 0 0, .slice none 0 0] 74) := ⟨_, rfl⟩
  rw [← hW0] at hk0
  have hz : Blk W0 w.heap.size 74 [.slice none 0 0, .slice none 0 0] := by rw [hW0]; exact hz
  have HN := Lib.hid (rnew_any N h1 h2 W0)
  have HW0 := Lib.hid hW0
  have HK0 := Lib.hid hk0
  have HZ := Lib.hid hz
  unfold NewP RG.val at HN
  clear hW0 hk0 hz
  go_enter Tryd.func38, Tryd.ntmps38
  go_upto_region 1 with fail
  rw [← HW0.out]
  go_wp2_with fail
  refine HN.out.mono ?_
  rintro e w1 ⟨X, rfl, hx, ho, hr, hk⟩
  have hb := hk.blk HZ.out id
  have y0 := hb.cell (i := 0) rfl
  have y1 := hb.cell (i := 1) rfl
  have f0 := hb.free 0
  have f1 := hb.free 1
  have HB := Lib.hid hb
  have HX := Lib.hid hx
  have HO : Hid (X.Over N w.heap.size) := Lib.hid ⟨Nat.le_trans HK0.out.size ho, fun i hi => Nat.le_trans HK0.out.size (hr i hi)⟩
  have HK := Lib.hid (HK0.out.trans hk)
  clear hb hx ho hr hk HN
  go_wp2_with fail
  obtain ⟨ho, hk9⟩ := st2 HB.out (.slice (some ⟨X.O, 0, none⟩) N X.cap) (.slice none 0 0)
  have q0 := ho.cell (i := 0) rfl
  have q1 := ho.cell (i := 1) rfl
  refine bodyPost_ret (v := .agg #[.slice (some ⟨X.O, 0, none⟩) N X.cap, .slice none 0 0]) (by simp [results, Tryd.f38, go_sem, q0, q1]) rfl ⟨X, rfl, rg_keepB HX.out HB.out (by decide) (by decide) hk9, HO.out, ?_⟩
  exact ((HK.out.mono (S' := fun k => k = w.heap.size) (fun _ _ h => h.elim)).trans hk9).mono fun k hk' h => by
    have h : k = w.heap.size := h
    omega
/-- The document's oldest of a class: its place. -/
def ROldP (l : List HM) (c : Nat) (w : World) (e : Ending) (w' : World) : Prop :=
  ∃ z : Int, e = .returned (.int .i64 z) ∧ Keeps (fun _ => False) w w' ∧ ((z = -1 ∧ lsOf l c = []) ∨ ∃ xs x ys, l = xs ++ x :: ys ∧ x.cl = c ∧ lsOf ys c = [] ∧ z = (xs.length : Int))
set_option maxRecDepth 100000 in
set_option maxHeartbeats 2000000 in
theorem roldest_any (ao : Option Addr) (an ac : Nat) (v : Value) (l : List HM) (c : Nat) (w : World) (h : HdAt w v l) (hc8 : c ≤ 1000) : Calls Tryd.prog 72 #[.agg #[.slice ao an ac, v], .int .i64 (c : Int)] w (ROldP l c w) := by
  have HH := Lib.hid h
  have hle := h.le
  obtain ⟨va, vc, hv⟩ := h.form
  subst hv
  obtain ⟨W0, hW0⟩ : ∃ W0, W0 = w.alloc (.cells #[.slice ao an ac, .slice va l.length vc] 74) := ⟨_, rfl⟩
  have hk0 : Keeps (fun _ => False) w W0 := by rw [hW0]; exact (Keeps.refl _ _).alloc _
  have hb0 : Blk W0 w.heap.size 74 [.slice ao an ac, .slice va l.length vc] := by rw [hW0]; exact Blk.new w 74 _
  have HK0 := Lib.hid hk0
  have HB0 := Lib.hid hb0
  have HW0 := Lib.hid hW0
  obtain ⟨n, hn⟩ : ∃ n, n = l.length := ⟨_, rfl⟩
  have HN := Lib.hid hn
  rw [← hn] at hle HB0 HW0 hb0 ⊢
  have b1' := hb0.cell (i := 1) rfl
  clear h hk0 hb0 hW0 hn
  go_enter Tryd.func72, Tryd.ntmps72
  go_upto_region 1 with fail
  rw [← HW0.out]
  go_wp2_with fail
  go_loopw [5] (fun s5 wr => ∃ t : Nat, t ≤ n ∧ s5 = .int .i64 ((t : Int) - 1) ∧ lsOf (l.drop t) c = [] ∧ Keeps (fun _ => False) W0 wr) (fun s5 _ => (intOf s5 + 1).toNat)
  case atStart => exact ⟨n, Nat.le_refl _, rfl, by rw [List.drop_of_length_le (by have := HN.out; omega)]; rfl, Keeps.refl _ _⟩
  case round =>
    obtain ⟨t, ht, rfl, hno, hkr⟩ := hrel
    have HNO := Lib.hid hno
    have HKR := Lib.hid hkr
    have hb := hkr.blk HB0.out id
    have b1 := hb.cell (i := 1) rfl
    clear hno hkr hb b1'
    by_cases hlt : 1 ≤ t
    · obtain ⟨j, rfl⟩ : ∃ j, t = j + 1 := ⟨t - 1, by omega⟩
      have ej : ((j + 1 : Nat) : Int) - 1 = (j : Int) := by omega
      rw [ej]
      have hj0 : (0 : Int) ≤ (j : Int) := by omega
      have hjn : (j : Int) < (n : Int) := by omega
      have hjn' : j < n := by omega
      obtain ⟨y, hy⟩ : ∃ y, l[j]? = some y := ⟨_, List.getElem?_eq_getElem (by rw [← HN.out]; exact hjn')⟩
      obtain ⟨g, cc, hg, _, hc⟩ := HH.out.at hy
      injection hg with hg _ hg'
      subst hg hg'
      have c7 := hc _ (HK0.out.trans HKR.out) 7 _ rfl
      have hok := (HH.out.ok y (List.mem_of_getElem? hy)).2.2
      have HY := Lib.hid hy
      clear hc hy ej
      by_cases hcl : y.cl = c
      · have e1 : ((y.cl : Int) == (c : Int)) = true := by simp; omega
        have HCL := Lib.hid hcl
        clear hcl
        go_wp2_with fail
        go_ret
        obtain ⟨hj, he⟩ := List.getElem?_eq_some_iff.1 HY.out
        exact ⟨_, rfl, HK0.out.trans HKR.out, .inr ⟨l.take j, y, l.drop (j + 1), by rw [← he, ← List.drop_eq_getElem_cons hj, List.take_append_drop], HCL.out, HNO.out, by rw [List.length_take]; omega⟩⟩
      · have e1 : ((y.cl : Int) == (c : Int)) = false := by
          rw [beq_eq_false_iff_ne]; omega
        have HCL := Lib.hid hcl
        clear hcl
        go_wp2_with fail
        go_roundw
        case rel => exact ⟨j, by omega, by go_num, by
          obtain ⟨hj, he⟩ := List.getElem?_eq_some_iff.1 HY.out
          rw [List.drop_eq_getElem_cons hj, he, lsOf_cons, upd_ne _ _ (Ne.symm HCL.out)]
          exact HNO.out, HKR.out⟩
        case measure => simp [intOf]
    · obtain rfl : t = 0 := by omega
      have e0 : ¬ ((0 : Int) ≤ ((0 : Nat) : Int) - 1) := by omega
      have e0' : (((0 : Nat) : Int) - 1) = -1 := by omega
      rw [e0']
      go_wp2_with fail
      go_ret
      exact ⟨_, rfl, HK0.out.trans HKR.out, .inl ⟨rfl, by have := HNO.out; simpa using this⟩⟩
end Go.Proofs.YthnagihgjenimaaDoor
