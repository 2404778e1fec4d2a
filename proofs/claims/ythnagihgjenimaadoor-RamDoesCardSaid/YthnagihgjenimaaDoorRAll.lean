/- icehouseref13: All. -/
import Derived.Test.YthnagihgjenimaaDoorRJo
namespace Go.Proofs.YthnagihgjenimaaDoor
open Go.RowKit
set_option linter.unusedVariables false
set_option linter.unusedSimpArgs false
/-- What is held, by class and then in order. -/
def ordC (l : List HM) (c : Nat) : List HM := (List.range c).flatMap fun k => l.filter fun h => decide (h.cl = k)
theorem ordC_succ (l : List HM) (c : Nat) : ordC l (c + 1) = ordC l c ++ l.filter fun h => decide (h.cl = c) := by simp [ordC, List.range_succ]
theorem ordC_len (l : List HM) : ∀ c, (ordC l c).length ≤ c * l.length
  | 0 => by simp [ordC]
  | c + 1 => by
    rw [ordC_succ, List.length_append, Nat.succ_mul]
    exact Nat.add_le_add (ordC_len l c) (List.length_filter_le _ _)
def partC (l : List HM) (c t : Nat) : List HM := ordC l c ++ (l.take t).filter fun h => decide (h.cl = c)
theorem partC_zero (l : List HM) (c : Nat) : partC l c 0 = ordC l c := by simp [partC]
theorem partC_in {l : List HM} {c t : Nat} {y : HM} (hy : l[t]? = some y) (hc : y.cl = c) : partC l c (t + 1) = partC l c t ++ [y] := by
  unfold partC
  rw [List.take_add_one, hy]
  simp [hc]
theorem partC_out {l : List HM} {c t : Nat} {y : HM} (hy : l[t]? = some y) (hc : y.cl ≠ c) : partC l c (t + 1) = partC l c t := by
  unfold partC
  rw [List.take_add_one, hy]
  simp [hc]
theorem partC_all (l : List HM) (c : Nat) : partC l c l.length = ordC l (c + 1) := by
  unfold partC
  rw [List.take_length, ordC_succ]
theorem partC_len (l : List HM) (c t : Nat) : (partC l c t).length ≤ (c + 1) * l.length := by
  unfold partC
  rw [List.length_append, Nat.succ_mul]
  refine Nat.add_le_add (ordC_len l c) (Nat.le_trans (List.length_filter_le _ _) ?_)
  simp
  omega
def RAllP (l : List HM) (w : World) (e : Ending) (w' : World) : Prop := ∃ v, e = .returned v ∧ w'.ownsRow w.heap.size 64 6 v (ordC l 8).length (itemCells (ordC l 8)) ∧ Keeps (fun _ => False) w w'
set_option maxRecDepth 100000 in
set_option maxHeartbeats 4000000 in
theorem rall_any (ao : Option Addr) (an ac : Nat) (v : Value) (l : List HM) (w : World) (h : HdAt w v l) : Calls Tryd.prog 73 #[.agg #[.slice ao an ac, v]] w (RAllP l w) := by
  have HH := Lib.hid h
  have hle := h.le
  obtain ⟨va, vc, hv⟩ := h.form
  subst hv
  obtain ⟨W0, hW0⟩ : ∃ W0, W0 = w.alloc (.cells #[.slice ao an ac, .slice va l.length vc] 74) := ⟨_, rfl⟩
  have hk0 : Keeps (fun _ => False) w W0 := by rw [hW0]; exact (Keeps.refl _ _).alloc _
  have hb0 : Blk W0 w.heap.size 74 [.slice ao an ac, .slice va l.length vc] := by rw [hW0]; exact Blk.new w 74 _
  have hs0 : W0.heap.size = w.heap.size + 1 := by rw [hW0]; simp
  have HK0 := Lib.hid hk0
  have HB0 := Lib.hid hb0
  have HW0 := Lib.hid hW0
  have HS0 := Lib.hid hs0
  obtain ⟨n, hn⟩ : ∃ n, n = l.length := ⟨_, rfl⟩
  have HN := Lib.hid hn
  rw [← hn] at hle HB0 HW0 ⊢
  obtain ⟨i64, z64, hi1, hz0, hzc, hz1, hz2⟩ := info64'
  have hzs : z64.cells.size = 6 := by rw [hzc]; rfl
  clear h hk0 hb0 hW0 hn hs0 hzc
  go_enter Tryd.func73, Tryd.ntmps73
  go_upto_region 1 with fail
  rw [← HW0.out]
  go_wp2_with fail
  go_loopw [3, 4, 5] (fun s3 s4 s5 wr => ∃ c : Nat, c ≤ 8 ∧ s4 = .int .i64 (c : Int) ∧ wr.ownsRow W0.heap.size 64 6 s3 (ordC l c).length (itemCells (ordC l c)) ∧ Keeps (fun _ => False) W0 wr) (fun _ s4 _ _ => 8 - (intOf s4).toNat)
  case atStart => exact ⟨0, by omega, rfl, World.ownsRow_nil _ _ _ _, Keeps.refl _ _⟩
  case round =>
    obtain ⟨c, hc8, rfl, hrow, hkr⟩ := hrel
    have HROW := Lib.hid hrow
    have HKR := Lib.hid hkr
    clear hrow hkr
    obtain ⟨wo, rfl⟩ : ∃ wo : World, wo = wr := ⟨_, rfl⟩
    by_cases hlt : c < 8
    · have hlt' : (c : Int) < 8 := by omega
      go_wp2_with fail
      go_loopw [3, 5] (fun s3 s5 wr => ∃ t : Nat, t ≤ n ∧ s5 = .int .i64 (t : Int) ∧ wr.ownsRow W0.heap.size 64 6 s3 (partC l c t).length (itemCells (partC l c t)) ∧ Keeps (fun _ => False) W0 wr) (fun _ s5 _ => n - (intOf s5).toNat)
      case atStart => exact ⟨0, Nat.zero_le _, rfl, by rw [partC_zero]; exact HROW.out, HKR.out⟩
      case round =>
        obtain ⟨t, ht, rfl, hrow, hkr⟩ := hrel
        have HROW2 := Lib.hid hrow
        have HKR2 := Lib.hid hkr
        have hb := hkr.blk HB0.out id
        have b1 := hb.cell (i := 1) rfl
        by_cases hlt2 : t < n
        · have hlt2' : (t : Int) < (n : Int) := by omega
          obtain ⟨y, hy⟩ : ∃ y, l[t]? = some y := ⟨_, List.getElem?_eq_getElem (by rw [← HN.out]; exact hlt2)⟩
          obtain ⟨g, cc, hg, _, hc⟩ := HH.out.at hy
          injection hg with hg _ hg'
          subst hg hg'
          have c7 := hc _ (HK0.out.trans HKR2.out) 7 _ rfl
          by_cases hcl : y.cl = c
          · have e1 : ((y.cl : Int) == (c : Int)) = true := by simp; omega
            have hyr := HH.out.rd y (List.mem_of_getElem? hy)
            obtain ⟨⟨yk, ykc, hyk, _⟩, ⟨yv, yvc, hyv, _⟩⟩ := hyr
            have c0 := hc _ (HK0.out.trans HKR2.out) 0 _ rfl
            have c1 := hc _ (HK0.out.trans HKR2.out) 1 _ rfl
            have c2 := hc _ (HK0.out.trans HKR2.out) 2 _ rfl
            have c3 := hc _ (HK0.out.trans HKR2.out) 3 _ rfl
            have c4 := hc _ (HK0.out.trans HKR2.out) 4 _ rfl
            have c5 := hc _ (HK0.out.trans HKR2.out) 5 _ rfl
            rw [hyk] at c0
            rw [hyv] at c1
            simp only [Nat.add_zero] at c0
            obtain ⟨cs, hcs⟩ : ∃ cs, cs = [Value.slice yk y.it.key.length ykc, .slice yv y.it.val.length yvc, .int .u32 y.it.fg, .int .u32 y.it.ex, .int .u64 y.it.sq, .bool y.it.dt] := ⟨_, rfl⟩
            have hyc : cs = y.it.cells y.kv y.vv := by rw [hyk, hyv]; exact hcs
            have hcl6 : cs.length = 6 := by rw [hcs]; rfl
            obtain ⟨W2, hW2⟩ : ∃ W2, W2 = wr.alloc (.cells #[.slice yk y.it.key.length ykc, .slice yv y.it.val.length yvc, .int .u32 y.it.fg, .int .u32 y.it.ex, .int .u64 y.it.sq, .bool y.it.dt] 64) := ⟨_, rfl⟩
            have hb2 : Blk W2 wr.heap.size 64 cs := by rw [hW2, hcs]; exact Blk.new wr 64 _
            have hk2 : Keeps (fun _ => False) wr W2 := by rw [hW2]; exact (Keeps.refl _ _).alloc _
            have HNW : Hid (∀ j u, cs[j]? = some u → W2.cell? ((⟨wr.heap.size, 0, none⟩ : Addr).add j) = some u) := Lib.hid (fun j u hu => by rw [add0]; exact hb2.cell hu)
            have HONE : Hid (∀ u ∈ cs, u.oneCell' = true) := Lib.hid (by rw [hcs]; intro u hu; simp at hu; rcases hu with rfl | rfl | rfl | rfl | rfl | rfl <;> rfl)
            have HR2 : Hid (W2.ownsRow W0.heap.size 64 6 u3 (partC l c t).length (itemCells (partC l c t))) := Lib.hid (hk2.own' HROW2.out (fun _ _ => id))
            have hlen : (partC l c t).length ≤ 1000000 := by
              have h1 := partC_len l c t
              have h2 := HN.out
              have h3 : (c + 1) * l.length ≤ 8 * l.length := Nat.mul_le_mul_right _ (by omega)
              omega
            have hbs : W0.heap.size ≤ W2.heap.size := by have h2 := hkr.size; have h3 := hk2.size; omega
            have HYC := Lib.hid hyc
            have HK2 := Lib.hid (HKR2.out.trans hk2)
            have HW2 := Lib.hid hW2
            have HST : Hid (partC l c (t + 1) = partC l c t ++ [y]) := Lib.hid (partC_in hy hcl)
            obtain ⟨m, hm⟩ : ∃ m, m = (partC l c t).length := ⟨_, rfl⟩
            rw [← hm] at HR2 hlen
            have HM := Lib.hid hm
            clear hrow hkr hb hc hyk hyv hcs hyc hb2 hk2 hW2 hy hm hcl
            go_wp2_with (at_builtin; rw [← HW2.out]; refine wpList_append_own _ rfl _ _ 58 rfl W0.heap.size 64 i64 z64 6 72 Tryd.underlying58 hi1 hz0 hz1 hz2 hzs (by decide) _ _ _ rfl HR2.out ⟨wr.heap.size, 0, none⟩ 1 1 cs rfl (by omega) HNW.out HONE.out (by unfold maxLen; omega) (by omega) hbs ?_)
            intro v' w3 hown' hgrow _
            have HO3 := Lib.hid hown'
            have HK3 : Hid (Keeps (fun _ => False) W0 w3) := Lib.hid (((HK2.out.mono (S' := fun k => W0.heap.size ≤ k) fun _ _ h => h.elim).trans ((Keeps.of_grown hgrow).mono fun k _ e => (own_heap HR2.out e).1)).mono fun k hk h => by
              have h : W0.heap.size ≤ k := h
              omega)
            clear hown' hgrow HNW HONE HR2
            go_wp2_with fail
            go_roundw
            case rel => exact ⟨t + 1, by omega, by go_num, by
              rw [HST.out, itemCells_snoc, List.length_append, ← HYC.out, ← HM.out]
              exact HO3.out, HK3.out⟩
            case measure => simp [intOf]; omega
          · have e1 : ((y.cl : Int) == (c : Int)) = false := by rw [beq_eq_false_iff_ne]; omega
            have HST : Hid (partC l c (t + 1) = partC l c t) := Lib.hid (partC_out hy hcl)
            clear hrow hkr hb hc hy hcl
            go_wp2_with fail
            go_roundw
            case rel => exact ⟨t + 1, by omega, by go_num, by rw [HST.out]; exact HROW2.out, HKR2.out⟩
            case measure => simp [intOf]; omega
        · have hlt2' : ¬ ((t : Int) < (n : Int)) := by omega
          have htn : t = n := by omega
          have HROW3 : Hid (wr.ownsRow W0.heap.size 64 6 u3 (ordC l (c + 1)).length (itemCells (ordC l (c + 1)))) := Lib.hid (by
            have h1 := HROW2.out
            rw [htn, HN.out, partC_all] at h1
            exact h1)
          clear hrow hkr hb htn
          go_wp2_with fail
          go_roundw
          case rel => exact ⟨c + 1, by omega, by go_num, HROW3.out, HKR2.out⟩
          case measure => simp [intOf]; omega
    · have hlt' : ¬ ((c : Int) < 8) := by omega
      obtain rfl : c = 8 := by omega
      go_wp2_with fail
      go_ret
      exact ⟨_, rfl, own_low HROW.out (by have := HS0.out; omega), HK0.out.trans HKR.out⟩
end Go.Proofs.YthnagihgjenimaaDoor
