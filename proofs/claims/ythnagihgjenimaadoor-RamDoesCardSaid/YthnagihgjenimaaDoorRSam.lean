/- icehouselaw13: sameItems. -/
import Derived.Test.YthnagihgjenimaaDoorRAll
namespace Go.Proofs.YthnagihgjenimaaDoor
open Go.RowKit
set_option linter.unusedVariables false
set_option linter.unusedSimpArgs false
/-- A row of items. -/
structure ItsAt (w : World) (v : Value) (l : List HM) : Prop where
  row : w.ownsRow 0 64 6 v l.length (itemCells l)
  rd : ∀ h ∈ l, ItB w h.it h.kv h.vv
  ok : ∀ h ∈ l, h.it.key.length ≤ 140737488351232 ∧ h.it.val.length ≤ 140737488351232
  le : l.length ≤ 10000000
theorem ItsAt.quiet {w w' : World} {v : Value} {l : List HM} (h : ItsAt w v l) (hk : Keeps (fun _ => False) w w') : ItsAt w' v l := ⟨hk.own' h.row fun _ _ => id, fun x hx => (h.rd x hx).quiet hk, h.ok, h.le⟩
theorem ItsAt.at {w : World} {v : Value} {l : List HM} (h : ItsAt w v l) {j : Nat} {y : HM} (hy : l[j]? = some y) : ∃ g c, v = .slice (some ⟨g, 0, none⟩) l.length c ∧ g < w.heap.size ∧ ∀ w', Keeps (fun _ => False) w w' → ∀ i u, (y.it.cells y.kv y.vv)[i]? = some u → w'.cell? ⟨g, j * 6 + i, none⟩ = some u := by
  have hj := (List.getElem?_eq_some_iff.1 hy).1
  rcases h.row.2 with ⟨rfl, h0⟩ | ⟨g, cap, cur, rfl, _⟩
  · omega
  · have hg := own_heap h.row (g := g) rfl
    refine ⟨g, cap, rfl, hg.2.1, fun w' hk i u hu => ?_⟩
    have h0 := h.row.cells (g := g) rfl _ u (itemCells_at hy hu)
    rw [add0] at h0
    rw [hk.cell (p := ⟨g, j * 6 + i, none⟩) hg.2.1 id]
    exact h0
def itsOf (l : List HM) : List IT := l.map fun h => h.it
theorem its_at {l : List HM} {j : Nat} {y : HM} (h : l[j]? = some y) : (itsOf l)[j]? = some y.it := by simp [itsOf, h]
def RSamP (l m : List HM) (w : World) (e : Ending) (w' : World) : Prop := ∃ b : Bool, e = .returned (.bool b) ∧ Keeps (fun _ => False) w w' ∧ (b = true ↔ itsOf l = itsOf m)
set_option maxRecDepth 100000 in
set_option maxHeartbeats 4000000 in
theorem rsame_any (v v' : Value) (l m : List HM) (w : World) (h : ItsAt w v l) (h' : ItsAt w v' m) : Calls Tryd.prog 43 #[v, v'] w (RSamP l m w) := by
  have HH := Lib.hid h
  have HH' := Lib.hid h'
  have hle := h.le
  have hle' := h'.le
  obtain ⟨va, vc, hv⟩ := own_formQ h.row
  subst hv
  obtain ⟨ua, uc, hu⟩ := own_formQ h'.row
  subst hu
  obtain ⟨n, hn⟩ : ∃ n, n = l.length := ⟨_, rfl⟩
  obtain ⟨p, hp⟩ : ∃ p, p = m.length := ⟨_, rfl⟩
  have HN := Lib.hid hn
  have HP := Lib.hid hp
  rw [← hn] at hle ⊢
  rw [← hp] at hle' ⊢
  clear h h'
  by_cases hnp : n = p
  · subst hnp
    clear hn hp
    have e0 : ((n : Int) != (n : Int)) = false := by simp
    go_enter Tryd.func43, Tryd.ntmps43
    go_wp2_with fail
    go_loopw [5, 13] (fun s5 s13 wr => ∃ t : Nat, t ≤ n ∧ s13 = .int .i64 (t : Int) ∧ (∀ j, j < t → (itsOf l)[j]? = (itsOf m)[j]?) ∧ Keeps (fun _ => False) w wr) (fun _ s13 _ => n - (intOf s13).toNat)
    case atStart => exact ⟨0, Nat.zero_le _, rfl, fun j hj => absurd hj (Nat.not_lt_zero _), Keeps.refl _ _⟩
    case round =>
      obtain ⟨t, ht, rfl, heq, hkr⟩ := hrel
      have HEQ := Lib.hid heq
      have HKR := Lib.hid hkr
      clear heq hkr
      by_cases hlt : t < n
      · have hlt' : (t : Int) < (n : Int) := by omega
        obtain ⟨y, hy⟩ : ∃ y, l[t]? = some y := ⟨_, List.getElem?_eq_getElem (by rw [← HN.out]; exact hlt)⟩
        obtain ⟨z, hz⟩ : ∃ z, m[t]? = some z := ⟨_, List.getElem?_eq_getElem (by rw [← HP.out]; exact hlt)⟩
        obtain ⟨g, c, hg, _, hc⟩ := HH.out.at hy
        obtain ⟨f, d, hf, _, hd⟩ := HH'.out.at hz
        injection hg with hg _ hg'
        injection hf with hf _ hf'
        subst hg hg' hf hf'
        have hyr := HH.out.rd y (List.mem_of_getElem? hy)
        have hzr := HH'.out.rd z (List.mem_of_getElem? hz)
        have hyo := HH.out.ok y (List.mem_of_getElem? hy)
        have hzo := HH'.out.ok z (List.mem_of_getElem? hz)
        have HS : Hid (∀ W, Keeps (fun _ => False) wr W → Calls Tryd.prog 44 #[y.it.agg y.kv y.vv, z.it.agg z.kv z.vv] W (BoolP (sameI y.it z.it) W)) := Lib.hid (fun W hk => same_any y.it z.it _ _ _ _ W (hyr.quiet (HKR.out.trans hk)) (hzr.quiet (HKR.out.trans hk)) hyo.1 hyo.2 hzo.1 hzo.2)
        have c0 := hc _ HKR.out.drew 0 _ rfl
        have c1 := hc _ HKR.out.drew 1 _ rfl
        have c2 := hc _ HKR.out.drew 2 _ rfl
        have c3 := hc _ HKR.out.drew 3 _ rfl
        have c4 := hc _ HKR.out.drew 4 _ rfl
        have c5 := hc _ HKR.out.drew 5 _ rfl
        have d0 := hd _ HKR.out.drew 0 _ rfl
        have d1 := hd _ HKR.out.drew 1 _ rfl
        have d2 := hd _ HKR.out.drew 2 _ rfl
        have d3 := hd _ HKR.out.drew 3 _ rfl
        have d4 := hd _ HKR.out.drew 4 _ rfl
        have d5 := hd _ HKR.out.drew 5 _ rfl
        simp only [Nat.add_zero] at c0 d0
        have HY := Lib.hid (its_at hy)
        have HZ := Lib.hid (its_at hz)
        obtain ⟨⟨yk, ykc, hyk, _⟩, ⟨yv, yvc, hyv, _⟩⟩ := hyr
        obtain ⟨⟨zk, zkc, hzk, _⟩, ⟨zv, zvc, hzv, _⟩⟩ := hzr
        rw [hyk] at c0
        rw [hyv] at c1
        rw [hzk] at d0
        rw [hzv] at d1
        rw [hyk, hyv, hzk, hzv] at HS
        obtain ⟨b, hb⟩ : ∃ b, b = sameI y.it z.it := ⟨_, rfl⟩
        rw [← hb] at HS
        have HB := Lib.hid hb
        unfold IT.agg BoolP at HS
        clear hc hd hy hz hyo hzo hyk hyv hzk hzv hb
        go_upto_region 6 with fail
        go_region_with (go_at_call 44; refine (HS.out _ (Keeps.refl _ _).drew).mono ?_; rintro e w2 ⟨rfl, hk2⟩; have hk2' : Keeps (fun _ => False) w w2 := HKR.out.trans ((Keeps.refl (fun _ => False) wr).drew.trans hk2))
        all_goals
          cases b with
          | true =>
            go_wp2_with fail
            go_roundw
            case rel => exact ⟨t + 1, by omega, by go_num, fun j hj => by
              by_cases e : j = t
              · subst e
                rw [HY.out, HZ.out, sameI_iff.1 HB.out.symm]
              · exact HEQ.out j (by omega), hk2'⟩
            case measure => simp [intOf]; omega
          | false =>
            go_wp2_with fail
            go_ret
            exact ⟨false, rfl, hk2', ⟨fun h => (nomatch h), fun h => by
              have h1 := HY.out
              rw [h, HZ.out] at h1
              injection h1 with h1
              have h2 := HB.out
              rw [sameI_iff.2 h1.symm] at h2
              cases h2⟩⟩
      · have hlt' : ¬ ((t : Int) < (n : Int)) := by omega
        obtain rfl : t = n := by omega
        go_wp2_with fail
        go_ret
        refine ⟨true, rfl, HKR.out, ⟨fun _ => List.ext_getElem? fun j => ?_, fun _ => rfl⟩⟩
        by_cases hj : j < t
        · exact HEQ.out j hj
        · rw [List.getElem?_eq_none (by simp [itsOf]; have := HN.out; omega), List.getElem?_eq_none (by simp [itsOf]; have := HP.out; omega)]
  · have e0 : ((n : Int) != (p : Int)) = true := by simp; omega
    have HNP := Lib.hid hnp
    clear hn hp hnp
    go_enter Tryd.func43, Tryd.ntmps43
    go_wp2_with fail
    go_ret
    exact ⟨false, rfl, Keeps.refl _ _, ⟨fun h => (nomatch h), fun h => by
      have h1 := congrArg List.length h
      simp [itsOf] at h1
      exact absurd (HN.out.trans (h1.trans HP.out.symm)) HNP.out⟩⟩
end Go.Proofs.YthnagihgjenimaaDoor
