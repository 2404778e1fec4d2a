/- SlabAgain: what is taken can be given again: the walk. -/
import Derived.Test.YthnagihgjenimaaDoorInts
import Derived.Test.YthnagihgjenimaaDoorWakes
import Derived.Deep.DeepCutAuto
namespace Go.Proofs.YthnagihgjenimaaDoor
open Go.RowKit
set_option linter.unusedVariables false
set_option linter.unusedSimpArgs false

/-- What stands behind t rounds: chunks and their sizes. -/
structure AgS (w1 : World) (L : AL) (D : AD) (l : List (Nat × Int)) (c s : Value) (wr : World) : Prop where
  ar : ArAt wr L D
  n : D.n = 9
  len : l.length ≤ 100
  has : ∀ p ∈ l, D.Has p.1 (cls p.2) ∧ 0 ≤ p.2 ∧ p.2 ≤ 1024
  cs : wr.ownsRow w1.heap.size 3 1 c l.length (ints (l.map fun p => (p.1 : Int)))
  ss : wr.ownsRow w1.heap.size 3 1 s l.length (ints (l.map fun p => p.2))
  apart : ∀ g, s.ownBlock = some g → c.ownBlock ≠ some g
  keeps : Keeps (fun k => k = L.G ∨ w1.heap.size ≤ k) w1 wr
  lt : ∀ k, L.own k → k < w1.heap.size

theorem AgS.tab {w1 wr : World} {L : AL} {D : AD} {l : List (Nat × Int)} {c s : Value} (h : AgS w1 L D l c s wr) (hT : Tab w1) (h0 : L.G ≠ 0) : Tab wr :=
  hT.keep h.keeps fun e => by
    rcases e with e | e
    · exact h0 e.symm
    · have := hT.lt; omega
theorem AgS.row_ne {w1 wr : World} {L : AL} {D : AD} {l : List (Nat × Int)} {c s : Value} (h : AgS w1 L D l c s wr) {v : Value} {n : Nat} {xs : List Value} (ho : wr.ownsRow w1.heap.size 3 1 v n xs) : ∀ g, v.ownBlock = some g → g ≠ L.G ∧ g ≠ L.B := fun g hg => by
  have h1 := (own_heap ho hg).1
  have h2 := h.lt L.G (.inr rfl)
  have h3 := h.lt L.B (.inl rfl)
  exact ⟨by omega, by omega⟩
/-- A give that is not gathered. -/
theorem AgS.gave {w1 wr w2 : World} {L : AL} {D D' : AD} {l : List (Nat × Int)} {c s : Value} (h : AgS w1 L D l c s wr) (hk : Keeps (fun k => k = L.G) wr w2) (ha : ArAt w2 L D') (hn : D'.n = D.n) (hh : ∀ x k, D.Has x k → D'.Has x k) : AgS w1 L D' l c s w2 :=
  ⟨ha, hn.trans h.n, h.len, fun p hp => ⟨hh _ _ (h.has p hp).1, (h.has p hp).2⟩, hk.own h.cs fun g hg => (h.row_ne h.cs g hg).1, hk.own h.ss fun g hg => (h.row_ne h.ss g hg).1, h.apart,
    h.keeps.trans (hk.mono fun k _ e => .inl e), h.lt⟩
theorem AgS.mid {w1 w2 wa : World} {L : AL} {D : AD} {l : List (Nat × Int)} {c s : Value} (h : AgS w1 L D l c s w2) {o1 : Obj} (hg : (w2.alloc o1).grownBy wa c.ownBlock) : wa.ownsRow w1.heap.size 3 1 s l.length (ints (l.map fun p => p.2)) := by
  refine (h.ss.alloc o1).kept hg ?_
  cases e : s.ownBlock with
  | none => exact .inl rfl
  | some g => exact .inr fun e2 => h.apart g e e2.symm
theorem AgS.push {w1 w2 wa wb : World} {L : AL} {D : AD} {l : List (Nat × Int)} {c s c' s' : Value} (h : AgS w1 L D l c s w2) {o1 o2 : Obj} {m : Nat} {z : Int} (hl : l.length ≤ 99) (hm : D.Has m (cls z)) (hz : 0 ≤ z ∧ z ≤ 1024)
    (hc : wa.ownsRow w1.heap.size 3 1 c' (l.length + 1) (ints (l.map fun p => (p.1 : Int)) ++ [.int .i64 (m : Int)])) (hg1 : (w2.alloc o1).grownBy wa c.ownBlock) (ha1 : c'.ownBlock = c.ownBlock ∨ c'.ownBlock = some (w2.heap.size + 1))
    (hs : wb.ownsRow w1.heap.size 3 1 s' (l.length + 1) (ints (l.map fun p => p.2) ++ [.int .i64 z])) (hg2 : (wa.alloc o2).grownBy wb s.ownBlock) (ha2 : s'.ownBlock = s.ownBlock ∨ s'.ownBlock = some (wa.heap.size + 1)) : AgS w1 L D (l ++ [(m, z)]) c' s' wb := by
  have k1 : Keeps (fun k => some k = c.ownBlock ∨ some k = s.ownBlock) w2 wb := by
    have a1 := (Keeps.refl (fun k => some k = c.ownBlock ∨ some k = s.ownBlock) w2).alloc o1
    have a2 := a1.trans ((Keeps.of_grown hg1).mono fun k _ e => .inl e.symm)
    exact (a2.alloc o2).trans ((Keeps.of_grown hg2).mono fun k _ e => .inr e.symm)
  have hcl := h.row_ne h.cs
  have hsl := h.row_ne h.ss
  have hcb := fun g (e : c.ownBlock = some g) => own_heap h.cs e
  have hsb := fun g (e : s.ownBlock = some g) => own_heap h.ss e
  have hsz1 : w2.heap.size + 1 ≤ wa.heap.size := by have := hg1.size; simpa using this
  have hap : ∀ g, s.ownBlock = some g → c'.ownBlock ≠ some g := fun g e e2 => by
    rcases ha1 with a | a
    · exact h.apart g e (a.symm.trans e2)
    · rw [a] at e2
      have := (hsb g e).2.1
      simp at e2
      omega
  refine ⟨h.ar.keep k1 fun k hk e => ?_, h.n, by simp; omega, fun p hp => ?_, ?_, ?_, fun g e e2 => ?_, h.keeps.trans (k1.mono fun k hk e => ?_), h.lt⟩
  · rcases e with e | e
    · have := hcl k e.symm
      rcases hk with rfl | rfl
      · exact this.2 rfl
      · exact this.1 rfl
    · have := hsl k e.symm
      rcases hk with rfl | rfl
      · exact this.2 rfl
      · exact this.1 rfl
  · rcases List.mem_append.1 hp with hp | hp
    · exact h.has p hp
    · obtain rfl := List.mem_singleton.1 hp
      exact ⟨hm, hz⟩
  · have := (hc.alloc o2).kept hg2 (by
      cases e : c'.ownBlock with
      | none => exact .inl rfl
      | some g => exact .inr fun e2 => hap g e2.symm e)
    rw [List.map_append, ints, List.map_append]
    simpa [ints] using this
  · rw [List.map_append, ints, List.map_append]
    simpa [ints] using hs
  · rcases ha2 with a | a
    · exact hap g (a.symm.trans e) e2
    · rw [a] at e
      have := (own_heap hc e2).2.1
      simp at e
      omega
  · rcases e with e | e
    · exact .inr (hcb k e.symm).1
    · exact .inr (hsb k e.symm).1
theorem used_le {D : AD} (h : D.Ok) (k : Int) : D.used k ≤ 32 * D.n := by
  rw [used_eq]
  refine sumN_mul _ fun i hi => ?_
  rw [useN_eq]
  split
  · exact pc_le _ (h.g32 hi)
  · omega
/-- The arena without the chunk m. -/
def AD.less (D : AD) (m : Nat) : AD := { D with g := updN D.g (m / 32) (D.g (m / 32) - 2 ^ (m % 32)) }
theorem again_give {D D' : AD} {m k : Nat} {r q : Int} (h : D.Ok) (hk : k < 8) (hm : D.Has m k) (hs : GiveS (D.less m) k r q D') : q = 0 ∧ (D.less m).used (k : Nat) + 1 = D.used (k : Nat) ∧ D'.used (k : Nat) = D.used (k : Nat) := by
  obtain ⟨h1, h2, h3⟩ := hm
  have hu : (D.less m).used (k : Nat) + 1 = D.used (k : Nat) := by
    have := used_take h (p := m % 32) h1 (by omega) h2
    rw [h3] at this
    exact this
  have hok : (D.less m).Ok := h.take h1
  rcases give_has hok hk hs with ⟨rfl, rfl, hn, hz⟩ | ⟨rfl, _, _, _, _, _, _, _, hu2⟩
  · refine absurd ⟨hz _ h1, h3, ?_⟩ (hn (m / 32) h1)
    have hb : bitN ((D.less m).g (m / 32)) (m % 32) = 0 := by
      show bitN (updN D.g (m / 32) _ (m / 32)) _ = 0
      rw [updN_same, bitN_off h2, if_pos rfl]
    have := low_le (hok.g32 h1) hb (by omega)
    have h5 := bit_lt (h.gl _ h1) h2
    rw [h3] at h5
    omega
  · exact ⟨rfl, hu, by omega⟩
theorem AgF {w w0 w1 : World} {L : AL} (ho : ∀ k, L.own k → w0.heap.size ≤ k) (h0 : w.heap.size ≤ w0.heap.size) (h1 : w.heap.size ≤ w1.heap.size) : ∀ k, k < w.heap.size → k = L.G ∨ w1.heap.size ≤ k → False := fun k hk e => by
  have := ho L.G (.inr rfl)
  omega
set_option maxRecDepth 100000 in
set_option maxHeartbeats 1000000 in
theorem again_law (A : Option Addr) (len cap : Nat) (zs : List Int) (at' : Int) (w : World) (hR : Row .i64 w A len zs) (hc : len ≤ 140737488351232) (hnc : len ≤ cap) (hT : Tab w) :
    Calls Tryd.prog 5 #[.slice A len cap, .int .i64 at'] w (TrueP w) := by
  have HR := Lib.hid hR
  have HTT := Lib.hid hT
  obtain ⟨i0, hi1, hz0, hz1, hz2⟩ := info_parts info3'
  have HW := Lib.hid (wakes_any w hT)
  clear hT hR
  go_enter Tryd.func5, Tryd.ntmps5
  go_wp2_with fail
  refine HW.out.mono ?_
  rintro e w0 ⟨rfl, hk⟩
  have HK0 := Lib.hid hk
  clear hk
  go_wp2_with fail
  refine (anew_ok 9 (by omega) (by omega) w0).mono ?_
  rintro e w1 ⟨L, rfl, h1, ho, hk1⟩
  have HK1 := Lib.hid (HK0.out.trans hk1)
  have hT1 := HTT.out.keep HK1.out id
  have hG0 : L.G ≠ 0 := fun e => by
    have h0 := ho L.G (.inr rfl)
    have := (HTT.out.keep HK0.out id).lt
    omega
  have HS : Hid (AgS w1 L (AD.fresh 9) [] (.slice none 0 0) (.slice none 0 0) w1) := Lib.hid ⟨h1, rfl, by simp, by simp, World.ownsRow_nil _ _ _ _, World.ownsRow_nil _ _ _ _, fun g hg => by simp [Value.ownBlock] at hg, Keeps.refl _ _, h1.lt⟩
  have HT1 := Lib.hid hT1
  have HG0 := Lib.hid hG0
  have HO := Lib.hid ho
  clear h1 ho hk1 hT1 hG0
  unfold AL.ptr at *
  go_wp2_with fail
  go_loopw [7, 8, 27] (fun c s i wr => ∃ (t : Nat) (D : AD) (l : List (Nat × Int)), t ≤ len ∧ i = .int .i64 t ∧ l.length ≤ t ∧ AgS w1 L D l c s wr) (fun _ _ i _ => len - (intOf i).toNat)
  case atStart => exact ⟨0, _, [], Nat.zero_le _, rfl, Nat.le_refl _, HS.out⟩
  case round =>
    obtain ⟨t, D, l, ht, rfl, hlt, hs⟩ := hrel
    have HS2 := Lib.hid hs
    by_cases htl : t < len
    · obtain ⟨ad, rfl, hcell⟩ := HR.out.2 t htl
      obtain ⟨z, hz⟩ : ∃ z, z = zs.getD t 0 := ⟨_, rfl⟩
      rw [← hz] at hcell
      have hadl := cell_lt hcell
      have hk1 := HK1.out
      have hlw := hk1.size
      have hcell2 := (hs.keeps.cell (p := ad.add t) (by omega) (by
        have := HO.out L.G (.inr rfl)
        have := HK0.out.size
        rintro (e | e)
        · omega
        · omega)).trans ((hk1.cell hadl id).trans hcell)
      have HG := Lib.hid (give_any L D wr hs.ar (hs.tab HT1.out HG0.out) z)
      clear hs hcell hz hk1 hadl
      unfold AL.ptr at *
      go_wp2_with fail
      refine HG.out.mono ?_
      rintro e w2 ⟨r, q, D', rfl, hk2, ha2, hres⟩
      have hD := HS2.out.ar.good
      have hq : (q ≠ 0 ∧ D' = D) ∨ (q = 0 ∧ ∃ m : Nat, r = m ∧ D'.n = D.n ∧ D'.Has m (cls z) ∧ (0 ≤ z ∧ z ≤ 1024) ∧ (∀ x k, D.Has x k → D'.Has x k)) := by
        rcases hres with ⟨_, _, rfl, rfl⟩ | ⟨hz0, hz1, hg⟩ | ⟨_, _, rfl, rfl⟩
        · exact .inl ⟨by decide, rfl⟩
        · rcases give_has hD (cls_lt z) hg with ⟨rfl, rfl, _⟩ | ⟨rfl, m, rfl, g1, _, _, g2, _⟩
          · exact .inl ⟨by decide, rfl⟩
          · exact .inr ⟨rfl, m, rfl, (hD.give (cls_lt z) hg).2, g1, ⟨hz0, hz1⟩, g2⟩
        · exact .inl ⟨by decide, rfl⟩
      clear hres
      rcases hq with ⟨hq, rfl⟩ | ⟨rfl, m, rfl, hn', hm, hzz, hh⟩
      · have HN := Lib.hid (HS2.out.gave hk2 ha2 rfl (fun _ _ h => h))
        have hq' : (q == 0) = false := by simpa using hq
        clear hk2 ha2 hq hD hcell2
        go_wp2_with fail
        go_roundw
        case rel => exact ⟨t + 1, _, l, by omega, by go_num, by omega, HN.out⟩
        case measure => simp [intOf]; omega
      · have hN := HS2.out.gave hk2 ha2 hn' hh
        have HN := Lib.hid hN
        have HM := Lib.hid hm
        have HZZ := Lib.hid hzz
        have hsz2 := hN.keeps.size
        have hl100 : l.length < maxLen := by have := hN.len; unfold maxLen; omega
        have hl8 : l.length ≤ 100 := hN.len
        clear hk2 ha2 hD hcell2 hm hzz hn' hh hN
        by_cases h100 : t < 100
        · go_wp2_with (at_builtin; refine wpList_append_own_at _ rfl (.tmp 44) (.tmp 46) 28 rfl w1.heap.size 3 i0 (.int .i64 0) 1 8 Tryd.underlying28 hi1 hz0 hz1 hz2 rfl (by decide) _ _ _ rfl (HN.out.cs.alloc _) ⟨w2.heap.size, 0, none⟩ 1 1 [.int .i64 (m : Int)] rfl rfl (cell_one_new _ _ _) (by simp [Value.oneCell']) (by unfold maxLen; omega) (by omega) (by simp; omega) ?_)
          intro c' wa hc hg1 _ ha1
          have HMID := Lib.hid (HN.out.mid hg1)
          have HC := Lib.hid hc
          have HG1 := Lib.hid hg1
          have HA1 := Lib.hid ha1
          have hsa : w1.heap.size ≤ wa.heap.size := by have := hg1.size; simp at this; omega
          clear hc hg1 ha1
          go_wp2_with (at_builtin; refine wpList_append_own_at _ rfl (.tmp 48) (.tmp 50) 28 rfl w1.heap.size 3 i0 (.int .i64 0) 1 8 Tryd.underlying28 hi1 hz0 hz1 hz2 rfl (by decide) _ _ _ rfl (HMID.out.alloc _) ⟨wa.heap.size, 0, none⟩ 1 1 [.int .i64 z] rfl rfl (cell_one_new _ _ _) (by simp [Value.oneCell']) (by unfold maxLen; omega) (by omega) (by simp; omega) ?_)
          intro s' wb hs3 hg2 _ ha2
          have HS3 := Lib.hid (HN.out.push (by omega) HM.out HZZ.out HC.out HG1.out HA1.out hs3 hg2 ha2)
          clear hs3 hg2 ha2
          go_wp2_with fail
          go_roundw
          case rel => exact ⟨t + 1, _, _, by omega, by go_num, by simp; omega, HS3.out⟩
          case measure => simp [intOf]; omega
        · have h100' : decide ((t : Int) < 100) = false := by simp; omega
          clear h100
          go_wp2_with fail
          go_roundw
          case rel => exact ⟨t + 1, _, l, by omega, by go_num, by omega, HN.out⟩
          case measure => simp [intOf]; omega
    · obtain rfl : t = len := by omega
      obtain ⟨ca, cc, hce, hcl, hcc⟩ := own_ints (l := l.map fun p => (p.1 : Int)) (by rw [List.length_map]; exact hs.cs)
      obtain ⟨sa, sc, hse, hsl, hsc⟩ := own_ints (l := l.map fun p => p.2) (by rw [List.length_map]; exact hs.ss)
      rw [List.length_map] at hce hcl hcc hse hsl hsc
      subst hce hse
      have h100 := hs.len
      have HCC := Lib.hid hcc
      have HSC := Lib.hid hsc
      have hkk := HS2.out.keeps
      have HKK : Hid (Keeps (fun k => k = L.G ∨ w1.heap.size ≤ k) w wr) := Lib.hid ((HK1.out.mono fun k _ hf => hf.elim).trans hkk)
      have hTw := hs.tab HT1.out HG0.out
      have HTW := Lib.hid hTw
      clear hs hkk hcc hsc hTw
      by_cases h0 : l.length = 0
      · rw [h0]
        go_wp2_with fail
        go_ret
        exact ⟨rfl, HKK.out.mono (AgF HO.out HK0.out.size HK1.out.size)⟩
      · go_upto_region 16 with fail
        go_cut [13] (fun v wx => ∃ i : Nat, i < l.length ∧ v = .int .i64 i ∧ wr = wx)
        case first =>
          by_cases ha : 0 ≤ at'
          · have h1 := Int.emod_nonneg at' (show (l.length : Int) ≠ 0 by omega)
            have h2 := Int.emod_lt_of_pos at' (show (0 : Int) < l.length by omega)
            go_wp2_with fail
            go_meet
            exact ⟨(at' % (l.length : Int)).toNat, by omega, by rw [Int.toNat_of_nonneg h1], rfl⟩
          · go_wp2_with fail
            go_meet
            exact ⟨0, by omega, by simp, rfl⟩
        case rest =>
          obtain ⟨i, hi, rfl, rfl⟩ := hcut
          obtain ⟨g1, rfl, _, hg1, hcell⟩ := HCC.out i hi
          obtain ⟨g2, rfl, _, hg2, hcell2⟩ := HSC.out i hi
          have HP := Lib.hid (HS2.out.has l[i] (List.getElem_mem hi))
          have hLG := HS2.out.lt L.G (.inr rfl)
          have hg2b : g2 ≠ L.G := (HS2.out.row_ne HS2.out.ss g2 rfl).1
          obtain ⟨m, hm⟩ : ∃ m, m = l[i].1 := ⟨_, rfl⟩
          obtain ⟨z, hz⟩ : ∃ z, z = l[i].2 := ⟨_, rfl⟩
          have e1 : (l.map fun p => (p.1 : Int)).getD i 0 = (m : Int) := by simp [hi, hm]
          have e2 : (l.map fun p => p.2).getD i 0 = z := by simp [hi, hz]
          rw [e1] at hcell
          rw [e2] at hcell2
          rw [← hm, ← hz] at HP
          clear e1 e2 hm hz
          obtain ⟨hHas, hz0, hz1⟩ := HP.out
          have hf := hHas.find
          have hA := HS2.out.ar
          have HD := Lib.hid hA.good
          have hn := HS2.out.n
          have hmb : m / 32 < 9 := by have := hHas.1; omega
          have HWH := Lib.hid (where_any L D wr hA m (by omega))
          have HTK := Lib.hid (fun W (hk : Keeps (fun _ => False) wr W) => take_any L D W (hA.quiet hk) m (by omega))
          have HUS := Lib.hid (used_any L D wr hA (cls z : Nat))
          have hw1 : Hid (WhereP D m wr = fun e w' => e = .returned (.tuple #[.int .i64 (cls z : Nat), .int .i64 0]) ∧ wr = w') := Lib.hid (by
            unfold WhereP
            rw [hf, if_pos rfl, Int.toNat_natCast, hHas.2.2])
          rw [hw1.out] at HWH
          have HF := Lib.hid hf
          have HHAS := Lib.hid hHas
          clear hHas hf hA hw1
          unfold AL.ptr at *
          go_wp2_with fail
          refine HWH.out.mono ?_
          rintro e w2 ⟨rfl, rfl⟩
          go_wp2_with fail
          refine HUS.out.mono ?_
          rintro e w2 ⟨rfl, hk2⟩
          have HK2 := Lib.hid hk2
          have hcell' := (hk2.cell (p := ⟨g1, i, none⟩) hg1 id).trans hcell
          clear hk2 hcell
          go_wp2_with fail
          refine (HTK.out _ HK2.out).mono ?_
          rintro e w3 ⟨rfl, _, ht3⟩
          obtain ⟨hk3, ha3⟩ := ht3 HF.out
          rw [HF.out]
          rw [Int.toNat_natCast] at ha3
          have ha3 : ArAt w3 L (D.less m) := ha3
          have HU3 := Lib.hid (used_any L _ w3 ha3 (cls z : Nat))
          have HK3 := Lib.hid hk3
          have HA3 := Lib.hid ha3
          have HT3 := Lib.hid ((HTW.out.keep HK2.out id).keep hk3 fun e => HG0.out e.symm)
          have hus := used_take HD.out (p := m % 32) HHAS.out.1 (by omega) HHAS.out.2.1
          rw [HHAS.out.2.2] at hus
          have hus : (D.less m).used (cls z : Nat) + 1 = D.used (cls z : Nat) := hus
          have hub := used_le HD.out (cls z : Nat)
          obtain ⟨u, hu⟩ : ∃ u, u = (D.less m).used (cls z : Nat) := ⟨_, rfl⟩
          have hu2 : D.used (cls z : Nat) = u + 1 := by omega
          have hg2w : g2 < w2.heap.size := Nat.lt_of_lt_of_le hg2 HK2.out.size
          have hcell3 := (hk3.cell (p := ⟨g2, i, none⟩) hg2w hg2b).trans ((HK2.out.cell (p := ⟨g2, i, none⟩) hg2 id).trans hcell2)
          rw [← hu] at HU3
          rw [hu2]
          rw [hu2, hn] at hub
          have HU := Lib.hid hu2
          clear hk3 ha3 hus hu hu2 ht3 hcell' hcell2
          unfold AL.ptr at *
          go_wp2_with fail
          refine HU3.out.mono ?_
          rintro e w4 ⟨rfl, hk4⟩
          have HK4 := Lib.hid hk4
          have hcell4 := (hk4.cell (p := ⟨g2, i, none⟩) (Nat.lt_of_lt_of_le hg2w HK3.out.size) id).trans hcell3
          have HGV := Lib.hid (give_any L _ w4 (HA3.out.quiet hk4) (HT3.out.keep hk4 id) z)
          clear hk4 hcell3
          unfold AL.ptr at *
          go_wp2_with fail
          refine HGV.out.mono ?_
          rintro e w5 ⟨r, q, D', rfl, hk5, ha5, hres⟩
          have hgs : GiveS (D.less m) (cls z) r q D' := by
            rcases hres with hh | ⟨_, _, hh⟩ | hh
            · omega
            · exact hh
            · omega
          obtain ⟨rfl, _, hu5⟩ := again_give HD.out (cls_lt z) HHAS.out hgs
          have HU5 := Lib.hid (used_any L D' w5 ha5 (cls z : Nat))
          rw [hu5, HU.out] at HU5
          have HK5 := Lib.hid hk5
          clear hk5 ha5 hres hgs hu5 hcell4
          unfold AL.ptr at *
          go_wp2_with fail
          refine HU5.out.mono ?_
          rintro e w6 ⟨rfl, hk6⟩
          have HK6 := Lib.hid hk6
          clear hk6
          go_wp2_with fail
          go_ret
          have h36 : Keeps (fun k => k = L.G ∨ w1.heap.size ≤ k) wr w6 := ((((HK2.out.mono fun k _ hf => hf.elim).trans (HK3.out.mono fun k _ e => .inl e)).trans (HK4.out.mono fun k _ hf => hf.elim)).trans (HK5.out.mono fun k _ e => .inl e)).trans (HK6.out.mono fun k _ hf => hf.elim)
          exact ⟨rfl, (HKK.out.trans h36).mono (AgF HO.out HK0.out.size HK1.out.size)⟩
end Go.Proofs.YthnagihgjenimaaDoor
