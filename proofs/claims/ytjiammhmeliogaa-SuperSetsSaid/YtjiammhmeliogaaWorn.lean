/- Ops of the law's in memory; a disk to which they were done. -/
import Derived.Test.YtjiammhmeliogaaDoes
namespace Go.Proofs.Ytjiammhmeliogaa
open Go.RowKit
set_option linter.unusedVariables false
set_option linter.unusedSimpArgs false

/-- An op: its numbers, its slice and what that holds. -/
structure OpT where
  k : Int
  a : Int
  f : Int
  va : Option Addr
  vn : Nat
  vc : Nat
  ks : List Bool
abbrev OpT.v (o : OpT) : Value := .slice o.va o.vn o.vc
def opc (o : OpT) : List Value := opv o.k o.a o.f (.slice o.va o.vn o.vc)

/-- Ops in a row of n from a on, in blocks below B. -/
def OpRow (B : Nat) (w : World) (a : Option Addr) (n : Nat) (os : List OpT) : Prop :=
  os.length = n ∧ ∀ i o, os[i]? = some o → ∃ b off, a = some ⟨b, off, none⟩ ∧ b < B ∧ w.rangeAt b (off + i * 4) (opc o)
theorem OpRow.keep {B : Nat} {w w' : World} {a : Option Addr} {n : Nat} {os : List OpT} (h : OpRow B w a n os) (hB : B ≤ w.heap.size) {S : Nat → Prop} (hk : Keeps S w w') (hS : ∀ k, S k → B ≤ k) : OpRow B w' a n os :=
  ⟨h.1, fun i o ho => by
    obtain ⟨b, off, h1, h2, h3⟩ := h.2 i o ho
    exact ⟨b, off, h1, h2, fun j v hv => (hk.cell (p := ⟨b, off + i * 4 + j, none⟩) (by show b < _; omega) fun e => by have := hS _ e; dsimp only at this; omega).trans (h3 j v hv)⟩⟩

/-- What an op answers and makes of a disk. -/
def DD.does (D : DD) (o : OpT) : List Int × Int × DD :=
  if opk o.k = 0 then D.read o.a else if opk o.k = 1 then (zb, D.write o.a (blk o.f)) else if opk o.k = 2 then (zb, D.sync) else if opk o.k = 3 then (zb, D.arm o.a)
  else if opk o.k = 5 then (zb, D.fail o.a) else (zb, 0, D.crash o.ks)

theorem does_low (L : DL) (D : DD) (w : World) (h : DkAt w L D) (hok : D.ok) (hop : D.ops < 1000000000000) (hpn : D.p.length < 1000000) (o : OpT) (ho : opk o.k < 3) :
    Calls Try.prog 23 #[L.ptr, .agg (opc o).toArray] w (DoesP L (D.does o).1 (D.does o).2.1 (D.does o).2.2 w) := by
  have h0 := opk_lo o.k
  unfold DD.does
  by_cases e0 : opk o.k = 0
  · rw [if_pos e0]
    exact does_read L D w h hop o.k o.a o.f o.v e0
  · by_cases e1 : opk o.k = 1
    · rw [if_neg e0, if_pos e1]
      exact does_write L D w h hok hop hpn o.k o.a o.f o.v e1
    · have e2 : opk o.k = 2 := by omega
      rw [if_neg e0, if_neg e1, if_pos e2]
      exact does_sync L D w h hok hop o.k o.a o.f o.v e2

/-- A disk of six sectors that is calm: not armed, no failure to come; at most t operations. -/
structure Calm (t : Nat) (D : DD) : Prop where
  n : D.n = 6
  dead : D.dead = false
  armed : D.armed = false
  fails : D.fails = 0
  ops : D.ops ≤ t
  p : D.p.length ≤ t
theorem calm_ready {t : Nat} {D : DD} (h : Calm t D) (i : Int) : D.ready i = if i < 0 ∨ 6 ≤ i then (2, D) else (0, D) := by
  unfold DD.ready
  rw [h.dead, h.fails, h.n]
  simp
theorem Calm.more {t : Nat} {D : DD} (h : Calm t D) : Calm (t + 1) D := ⟨h.n, h.dead, h.armed, h.fails, by have := h.ops; omega, by have := h.p; omega⟩
theorem calm_read {t : Nat} {D : DD} (h : Calm t D) (i : Int) : D.read i = if i < 0 ∨ 6 ≤ i then (zb, 2, D) else (D.holds i.toNat, 0, { D with ops := D.ops + 1 }) := by
  unfold DD.read
  rw [calm_ready h]
  by_cases e : i < 0 ∨ 6 ≤ i
  · simp [e]
  · simp [e]
theorem calm_write {t : Nat} {D : DD} (h : Calm t D) (i : Int) (b : List Int) : D.write i b = if i < 0 ∨ 6 ≤ i then (2, D) else (0, { D with ops := D.ops + 1, p := D.p ++ [(i.toNat, b)] }) := by
  unfold DD.write
  rw [calm_ready h]
  by_cases e : i < 0 ∨ 6 ≤ i
  · simp [e]
  · simp [e, h.armed, DD.done]
theorem calm_sync {t : Nat} {D : DD} (h : Calm t D) : D.sync = (0, { D with ops := D.ops + 1, f := setl (fun _ => true) 0 D.p D.f, p := [] }) := by
  unfold DD.sync
  rw [calm_ready h]
  simp [h.armed, DD.done, DD.synced]
theorem calm_does {t : Nat} {D : DD} (h : Calm t D) (o : OpT) (ho : opk o.k < 3) : Calm (t + 1) (D.does o).2.2 := by
  have h0 := opk_lo o.k
  have h5 := h.ops
  have h6 := h.p
  unfold DD.does
  by_cases e0 : opk o.k = 0
  · rw [if_pos e0, calm_read h]
    split
    · exact h.more
    · exact ⟨h.n, h.dead, h.armed, h.fails, by show D.ops + 1 ≤ _; omega, by show D.p.length ≤ _; omega⟩
  · by_cases e1 : opk o.k = 1
    · rw [if_neg e0, if_pos e1, calm_write h]
      split
      · exact h.more
      · exact ⟨h.n, h.dead, h.armed, h.fails, by show D.ops + 1 ≤ _; omega, by show (D.p ++ [_]).length ≤ _; simp; omega⟩
    · have e2 : opk o.k = 2 := by omega
      rw [if_neg e0, if_neg e1, if_pos e2, calm_sync h]
      exact ⟨h.n, h.dead, h.armed, h.fails, by show D.ops + 1 ≤ _; omega, by show ([] : List (Nat × List Int)).length ≤ _; simp⟩

/-- What worn makes. -/
def wornL (D : DD) (os : List OpT) : DD := os.foldl (fun D o => if opk o.k < 3 then (D.does o).2.2 else D) D
def wornD (os : List OpT) : DD := wornL (DD.fresh 6) (os.take 120)
theorem wornL_take {D : DD} {os : List OpT} {t : Nat} {o : OpT} (h : os[t]? = some o) : wornL D (os.take (t + 1)) = if opk o.k < 3 then ((wornL D (os.take t)).does o).2.2 else wornL D (os.take t) := by
  obtain ⟨ht, rfl⟩ := List.getElem?_eq_some_iff.1 h
  rw [List.take_succ_eq_append_getElem ht]
  unfold wornL
  rw [List.foldl_append]
  rfl
theorem fresh_calm : Calm 0 (DD.fresh 6) := ⟨rfl, rfl, rfl, rfl, by simp [DD.fresh], by simp [DD.fresh]⟩
theorem wornL_calm (os : List OpT) : ∀ t, t ≤ os.length → Calm t (wornL (DD.fresh 6) (os.take t))
  | 0, _ => fresh_calm
  | t + 1, h => by
    have ih := wornL_calm os t (by omega)
    have hg : os[t]? = some os[t] := List.getElem?_eq_getElem h
    rw [wornL_take hg]
    split
    · exact calm_does ih _ ‹_›
    · exact ih.more

/-- The disk moves on, still in blocks from n0 on. -/
theorem DMoved.here {L : DL} {D' : DD} {w1 w2 : World} {n0 : Nat} (h : DMoved L D' w1 w2) (ho : ∀ k, L.own k → n0 ≤ k) (hw : n0 ≤ w1.heap.size) :
    ∃ L' : DL, L'.ptr = L.ptr ∧ DkAt w2 L' D' ∧ (∀ k, L'.own k → n0 ≤ k) ∧ (∀ k, L'.own k → L.own k ∨ w1.heap.size ≤ k) ∧ Keeps L.own w1 w2 := by
  obtain ⟨pv, h1, h2, h3⟩ := h
  have hx : ∀ k, DL.own ⟨L.B, L.sv, pv⟩ k → L.own k ∨ w1.heap.size ≤ k := by
    intro k hk
    rcases hk with e | e | e
    · exact .inl (.inl e)
    · exact .inl (.inr (.inl e))
    · exact (h2 k e).imp (fun h => .inr (.inr h)) id
  exact ⟨⟨L.B, L.sv, pv⟩, rfl, h1, fun k hk => (hx k hk).elim (ho k) fun h => by omega, hx, h3⟩

/-- An op is done to a disk in blocks from n0 on, of which no more is known than that. -/
theorem does_here {L : DL} {D : DD} {w0 w1 : World} {t : Nat} (hd : DkAt w1 L D) (ho : ∀ k, L.own k → w0.heap.size ≤ k) (hk : Keeps (fun _ => False) w0 w1) (hca : Calm t D) (ht : t < 1000000) (o : OpT) (hlow : opk o.k < 3) {p : Value} (hp : L.ptr = p) :
    Calls Try.prog 23 #[p, .agg #[.int .i64 o.k, .int .i64 o.a, .int .u8 o.f, .slice o.va o.vn o.vc]] w1 fun e w' => e = .returned (.tuple #[.agg (bk (D.does o).1).toArray, .int .i64 (D.does o).2.1]) ∧
      ∃ L' : DL, L'.ptr = p ∧ DkAt w' L' (D.does o).2.2 ∧ (∀ k, L'.own k → w0.heap.size ≤ k) ∧ (∀ k, L'.own k → L.own k ∨ w1.heap.size ≤ k) ∧ Keeps L.own w1 w' ∧ Keeps (fun _ => False) w0 w' := by
  have h5 := hca.ops
  have h6 := hca.p
  have hdo := does_low L D w1 hd (fun h => by rw [hca.armed] at h; cases h) (by omega) (by omega) o hlow
  rw [hp] at hdo
  refine hdo.mono ?_
  rintro e w' ⟨rfl, hm⟩
  obtain ⟨L', e1, e2, e3, e4, e5⟩ := hm.here ho hk.size
  exact ⟨rfl, L', e1.trans hp, e2, e3, e4, e5, (Keeps.mono (S := L.own) ((hk.mono fun _ _ h => h.elim).trans e5) fun k hk' h => absurd (ho k h) (Nat.not_le.2 hk'))⟩

/-- The disk that worn hands back. -/
def WornP (os : List OpT) (w : World) (e : Ending) (w' : World) : Prop := ∃ L : DL, e = .returned L.ptr ∧ DkAt w' L (wornD os) ∧ (∀ k, L.own k → w.heap.size ≤ k) ∧ Keeps (fun _ => False) w w'

attribute [local go_sem ↓] exec_load27 exec_store27 exec_build27 exec_alloc27 zeroValue27
attribute [local go_sem] padr_some rowAt_drew hasRow_drew mayRow_drew run_cells27

set_option maxHeartbeats 1000000 in
theorem worn_any (a : Option Addr) (n c : Nat) (os : List OpT) (w : World) (hr : OpRow w.heap.size w a n os) (hn : n ≤ c) (hc : c ≤ maxLen) : Calls Try.prog 16 #[.slice a n c] w (WornP os w) := by
  have HN := Lib.hid (new_ok 6 (by omega) (by omega) w)
  have HF := Lib.hid (fun w => few_any a n c w hn hc)
  have HR := Lib.hid hr
  have hlen := hr.1
  clear hr
  go_enter Try.func16, Try.ntmps16
  go_wp2_with fail
  refine HN.out.mono ?_
  rintro e w1 ⟨L, rfl, hd, hown, hk⟩
  have HD := Lib.hid hd
  have HO := Lib.hid hown
  have HK := Lib.hid hk
  clear hd hown hk
  obtain ⟨B, hB⟩ : ∃ B, B = L.B := ⟨_, rfl⟩
  have hLp : L.ptr = .pointer (some ⟨B, 0, none⟩) := by rw [hB]; rfl
  rw [hLp]
  have HLP := Lib.hid hLp
  clear hLp hB
  go_wp2_with fail
  refine (HF.out _).mono ?_
  rintro e w2 ⟨rfl, rfl⟩
  obtain ⟨m, hm⟩ : ∃ m, m = min n 120 := ⟨_, rfl⟩
  rw [← hm]
  have hml : m ≤ n := by omega
  have hm120 : m ≤ 120 := by omega
  have HM := Lib.hid hm
  clear hm
  go_wp2_with fail
  go_loopw [20] (fun i wr => ∃ t : Nat, t ≤ m ∧ i = .int .i64 t ∧ ∃ L' : DL, L'.ptr = .pointer (some ⟨B, 0, none⟩) ∧ DkAt wr L' (wornL (DD.fresh 6) (os.take t)) ∧ (∀ k, L'.own k → w.heap.size ≤ k) ∧ Keeps (fun _ => False) w wr) (fun i _ => m - (intOf i).toNat)
  case atStart => exact ⟨0, by omega, rfl, L, HLP.out, HD.out, HO.out, HK.out⟩
  case round =>
    obtain ⟨t, ht, rfl, L', hLp, hd, hown, hk⟩ := hrel
    have HD' := Lib.hid hd
    have HO' := Lib.hid hown
    have HK' := Lib.hid hk
    have HLP' := Lib.hid hLp
    by_cases hlt : t < m
    · obtain ⟨o, ho⟩ : ∃ o, os[t]? = some o := ⟨_, List.getElem?_eq_getElem (by omega)⟩
      obtain ⟨b, off, rfl, hb, hrow⟩ := HR.out.2 t o ho
      have hrow' : wr.rangeAt b (off + t * 4) (opc o) := fun j v hv => (hk.cell (p := ⟨b, off + t * 4 + j, none⟩) hb id).trans (hrow j v hv)
      have g0 := hrow' 0 _ rfl
      have g1 := hrow' 1 _ rfl
      have g2 := hrow' 2 _ rfl
      have g3 := hrow' 3 _ rfl
      rw [Nat.add_zero] at g0
      have hlt' : (t : Int) < (m : Int) := by omega
      have hca : Calm t (wornL (DD.fresh 6) (os.take t)) := wornL_calm os t (by omega)
      have HCA := Lib.hid hca
      have HT := Lib.hid (wornL_take (D := DD.fresh 6) ho)
      have hwr := hk.size
      clear hca hd hown hk hLp hrow hrow' ho
      go_wp2_with fail
      refine (kind_any o.k o.a o.f (.slice o.va o.vn o.vc) _).mono ?_
      rintro e w4 ⟨rfl, rfl⟩
      by_cases h3 : opk o.k < 3
      · go_wp2_with fail
        have hq : Keeps (fun _ => False) wr ((wr.alloc (.cells #[.int .i64 o.k, .int .i64 o.a, .int .u8 o.f, .slice o.va o.vn o.vc] 32)).alloc (.cells #[.int .i64 o.k, .int .i64 o.a, .int .u8 o.f, .slice o.va o.vn o.vc] 32)) := ((Keeps.refl _ _).alloc _).alloc _
        refine (does_here (HD'.out.quiet hq) HO'.out (HK'.out.trans hq) HCA.out (by omega) o h3 HLP'.out).mono ?_
        rintro e W ⟨rfl, L2, e1, e2, e3, e4, e5, e6⟩
        rw [if_pos h3] at HT
        rw [← HT.out] at e2
        have E : Hid (∃ L' : DL, L'.ptr = .pointer (some ⟨B, 0, none⟩) ∧ DkAt W L' (wornL (DD.fresh 6) (os.take (t + 1))) ∧ (∀ k, L'.own k → w.heap.size ≤ k) ∧ Keeps (fun _ => False) w W) := Lib.hid ⟨L2, e1, e2, e3, e6⟩
        clear e1 e2 e3 e4 e5 e6 hq
        go_wp2_with fail
        go_roundw
        case rel => exact ⟨t + 1, by omega, by go_num, E.out⟩
        case measure => simp [intOf]; omega
      · rw [if_neg h3] at HT
        have hq : Keeps (fun _ => False) wr ((wr.alloc (.cells #[.int .i64 o.k, .int .i64 o.a, .int .u8 o.f, .slice o.va o.vn o.vc] 32)).alloc (.cells #[.int .i64 o.k, .int .i64 o.a, .int .u8 o.f, .slice o.va o.vn o.vc] 32)) := ((Keeps.refl _ _).alloc _).alloc _
        have HQ := Lib.hid hq
        clear hq
        go_wp2_with fail
        go_roundw
        case rel => exact ⟨t + 1, by omega, by go_num, L', HLP'.out, by rw [HT.out]; exact HD'.out.quiet HQ.out, HO'.out, HK'.out.trans HQ.out⟩
        case measure => simp [intOf]; omega
    · obtain rfl : t = m := by omega
      clear hd hown hk hLp
      go_wp2_with fail
      go_ret
      refine ⟨L', by rw [HLP'.out]; rfl, ?_, HO'.out, HK'.out⟩
      have hh := HD'.out
      rw [HM.out] at hh
      unfold wornD
      have e : os.take (min n 120) = os.take 120 := by
        by_cases h : n ≤ 120
        · rw [Nat.min_eq_left h, List.take_of_length_le (by omega), List.take_of_length_le (by omega)]
        · rw [Nat.min_eq_right (by omega)]
      rwa [e] at hh
end Go.Proofs.Ytjiammhmeliogaa
