/- keeps: which writes live, in memory of their own; a crash by an op. -/
import Derived.Test.YtjiammhmeliogaaNilD
import Derived.Laws.AppendOwnNone
namespace Go.Proofs.Ytjiammhmeliogaa
open Go.RowKit
set_option linter.unusedVariables false
set_option linter.unusedSimpArgs false

theorem madeB (n : Nat) : madeCells #[Value.bool false] n = (List.replicate n (Value.bool false)).toArray := by
  apply Array.ext
  · simp [madeCells]
  · intro j h1 h2
    simp only [madeCells, Array.getElem_map, Array.getElem_range, List.getElem_toArray, List.getElem_replicate, List.size_toArray, List.length_cons, List.length_nil, Nat.zero_add, Nat.mod_one]
    rfl
theorem makeK (n : Nat) (hn : n ≤ 140737488355320) (w : World) : (Instr.makeSlice 30 (.int .i64 0) (.int .i64 ((n : Int) + 3))).run Try.prog w = .ok (.slice (some ⟨w.heap.size, 0, none⟩) 0 (n + 3)) (w.alloc (.cells (List.replicate (n + 3) (Value.bool false)).toArray 4)) := by
  obtain ⟨i0, hi1, hz0, hz1, hz2⟩ := info_parts info4
  have h := run_make (P := Try.prog) w 30 4 i0 (.bool false) Try.underlying30 hi1 hz0 .i64 .i64 0 ((n : Int) + 3) (by omega) (by omega) (by rw [hz2]; omega) (by omega)
  rw [hz1, show ((n : Int) + 3).toNat = n + 3 by omega] at h
  rw [h]
  rw [show (Value.bool false).cells = #[Value.bool false] from rfl, Nat.mul_one, madeB]
  rfl

/-- The copy of the kept. -/
def KeepsP (n : Nat) (xs : List Bool) (w : World) (e : Ending) (w' : World) : Prop := ∃ a c, e = .returned (.slice a n c) ∧ BoolRow w' a n xs ∧ (∀ b off, a = some ⟨b, off, none⟩ → w.heap.size ≤ b) ∧ Keeps (fun _ => False) w w'

theorem own_boolRow {w : World} {base n : Nat} {v : Value} {xs : List Bool} (h : w.ownsRow base 4 1 v n (xs.map Value.bool)) : ∃ a c, v = .slice a n c ∧ BoolRow w a n xs ∧ (∀ b off, a = some ⟨b, off, none⟩ → base ≤ b) := by
  have hl : xs.length = n := by have := h.1; simpa using this
  rcases h.2 with ⟨rfl, rfl⟩ | ⟨g, cap, cur, rfl, hb, hg, _⟩
  · exact ⟨none, 0, rfl, ⟨hl, fun i hi => absurd hi (by omega)⟩, fun b off e => by cases e⟩
  · refine ⟨_, cap, rfl, ⟨hl, fun i hi => ⟨g, 0, rfl, (Array.getElem?_eq_some_iff.1 hg).1, ?_⟩⟩, fun b off e => by injection e with e; injection e with e; omega⟩
    have := h.cells (g := g) rfl i (.bool (xs.getD i false)) (by simp [List.getD_eq_getElem?_getD, List.getElem?_eq_getElem (show i < xs.length by omega)])
    rw [add0] at this
    rwa [Nat.zero_add]

theorem boolRow_cells {w : World} {ad : Addr} {n : Nat} {xs : List Bool} (h : BoolRow w (some ad) n xs) (o : Obj) : ∀ j u, (xs.map Value.bool)[j]? = some u → (w.alloc o).cell? (ad.add j) = some u := by
  intro j u hu
  rw [List.getElem?_map, Option.map_eq_some_iff] at hu
  obtain ⟨x, hx, rfl⟩ := hu
  have hj : j < n := by
    rw [← h.1]
    exact (List.getElem?_eq_some_iff.1 hx).1
  obtain ⟨b, off, e, hb, hc⟩ := h.2 j hj
  injection e with e
  subst e
  rw [List.getD_eq_getElem?_getD, hx] at hc
  have : (⟨b, off, none⟩ : Addr).add j = ⟨b, off + j, none⟩ := by unfold Addr.add; split <;> simp_all
  rw [this, World.cell?_alloc_lt _ _ _ hb]
  exact hc

set_option maxRecDepth 100000 in
theorem keeps_any (ka : Option Addr) (kn kc : Nat) (xs : List Bool) (w : World) (hr : BoolRow w ka kn xs) (hn : kn ≤ 140737488351232) (h0 : ka = none → kc = 0) : Calls Try.prog 51 #[.slice ka kn kc] w (KeepsP kn xs w) := by
  have hmk := makeK kn (by omega) w
  obtain ⟨i0, hi1, hz0, hz1, hz2⟩ := info_parts info4
  have hown : (w.alloc (.cells (List.replicate (kn + 3) (Value.bool false)).toArray 4)).ownsRow w.heap.size 4 1 (.slice (some ⟨w.heap.size, 0, none⟩) 0 (kn + 3)) 0 [] :=
    World.ownsRow_made w _ _ (Nat.le_refl _) (by unfold maxLen; omega) (by simp)
  have hq : Keeps (fun _ => False) w (w.alloc (.cells (List.replicate (kn + 3) (Value.bool false)).toArray 4)) := (Keeps.refl _ _).alloc _
  have HQ := Lib.hid hq
  have HOW := Lib.hid hown
  have hsum : IntKind.i64.wrap ((kn : Int) + 3) = (kn : Int) + 3 := by rw [IntKind.wrap_i64]; omega
  rcases ka with _ | ad
  · obtain rfl := h0 rfl
    have hk0 : kn = 0 := by
      rcases Nat.eq_zero_or_pos kn with h | h
      · exact h
      · obtain ⟨_, _, e, _⟩ := hr.2 0 h
        cases e
    subst hk0
    have HX : Hid (xs = []) := Lib.hid (List.eq_nil_of_length_eq_zero hr.1)
    clear hr h0 hown hq hsum hmk
    have hmk : (Instr.makeSlice 30 (.int .i64 0) (.int .i64 3)).run Try.prog w = .ok (.slice (some ⟨w.heap.size, 0, none⟩) 0 3) (w.alloc (.cells (List.replicate 3 (Value.bool false)).toArray 4)) := makeK 0 (by omega) w
    go_enter Try.func51, Try.ntmps51
    go_wp2_with (at_builtin; refine wpList_append_own_none rfl _ _ 30 rfl w.heap.size 4 i0 1 Try.underlying30 hi1 _ 0 [] rfl HOW.out rfl ?_)
    go_ret
    obtain ⟨a, c, e, h1, h2⟩ := own_boolRow (xs := []) HOW.out
    rw [HX.out]
    exact ⟨a, c, congrArg Ending.returned e, h1, h2, HQ.out⟩
  · have HN := Lib.hid (boolRow_cells hr (.cells (List.replicate (kn + 3) (Value.bool false)).toArray 4))
    have HL : Hid ((xs.map Value.bool).length = kn * 1) := Lib.hid (by simp [hr.1])
    have HO : Hid (∀ u ∈ xs.map Value.bool, u.oneCell' = true) := Lib.hid (by intro u hu; simp at hu; rcases hu with ⟨_, rfl⟩ | ⟨_, rfl⟩ <;> rfl)
    clear hr h0 hown hq
    go_enter Try.func51, Try.ntmps51
    go_wp2_with (at_builtin; refine wpList_append_own _ rfl _ _ 30 rfl w.heap.size 4 i0 (.bool false) 1 1 Try.underlying30 hi1 hz0 hz1 hz2 rfl (by decide) _ _ _ rfl HOW.out ad kn kc (xs.map Value.bool) rfl HL.out HN.out HO.out (by unfold maxLen; omega) (by omega) (by simp) ?_; intro v' w3 hown' hgrow _; have HO3 := Lib.hid hown'; have HG3 := Lib.hid hgrow; clear hown' hgrow)
    go_ret
    have ho := HO3.out
    rw [Nat.zero_add, List.nil_append] at ho
    obtain ⟨a, c, rfl, h1, h2⟩ := own_boolRow ho
    exact ⟨a, c, rfl, h1, h2, own_grow HQ.out HG3.out fun g hg => by injection hg with hg; rw [← hg]; exact Nat.le_refl _⟩

attribute [local go_sem ↓] exec_load27 exec_store27 exec_build27 exec_alloc27 zeroValue27
attribute [local go_sem] padr_some rowAt_drew hasRow_drew mayRow_drew run_cells27

set_option maxHeartbeats 1000000 in
theorem does_crash (L : DL) (D : DD) (w : World) (h : DkAt w L D) (k a f : Int) (ka : Option Addr) (kn kc : Nat) (xs : List Bool) (hr : BoolRow w ka kn xs) (hn : kn ≤ 140737488351232) (h0 : ka = none → kc = 0) (hk : opk k = 4) :
    Calls Try.prog 23 #[L.ptr, .agg (opv k a f (.slice ka kn kc)).toArray] w (DoesP L zb 0 (D.crash xs) w) := by
  obtain ⟨b1, b2, k0, hs0⟩ := does_start w (opv k a f (.slice ka kn kc))
  have HD0 := Lib.hid (h.quiet k0)
  have HKS := Lib.hid (keeps_any ka kn kc xs _ (hr.keep k0 fun _ _ _ => id) hn h0)
  have HOWN := Lib.hid h.lt
  unfold opv at *
  have HK := Lib.hid (kind_any k a f (.slice ka kn kc))
  rw [hk] at HK
  obtain ⟨W1, hW1⟩ : ∃ W1, W1 = ((w.alloc (.cells #[.int .i64 k, .int .i64 a, .int .u8 f, .slice ka kn kc] 32)).alloc (.cells (bk zb).toArray 27)).alloc (.cells #[.int .i64 k, .int .i64 a, .int .u8 f, .slice ka kn kc] 32) := ⟨_, rfl⟩
  have e3 := b1.cell (i := 3) rfl
  rw [← hW1] at HD0 HKS b1 b2 k0 hs0 e3
  have HB := Lib.hid b1
  have HB2 := Lib.hid b2
  have HK0 := Lib.hid k0
  have HS := Lib.hid hs0
  have HW := Lib.hid hW1
  clear b1 b2 k0 hk hs0 h hW1 hr h0
  go_enter Try.func23, Try.ntmps23
  have hzl : (bk zb).length = 64 := by rw [bk_len, zb_len]
  have hone : oneAll (bk zb).toArray = true := all_oneCell_toArray bk_one
  go_wp2_with fail
  refine (HK.out _).mono ?_
  rintro e w1 ⟨rfl, hw1⟩
  rw [← HW.out] at hw1
  subst hw1
  go_wp2_with fail
  refine HKS.out.mono ?_
  rintro e W2 ⟨ra, rc, rfl, hrow, hrb, hk2⟩
  have HF2 := Lib.hid (crash_any L D W2 (HD0.out.quiet hk2) ra kn rc xs hrow (fun b off e h1 => by
    have := hrb b off e
    have := HD0.out.lt b (.inr (.inl h1))
    omega) (by omega))
  have HK2 := Lib.hid hk2
  clear hrow hrb hk2
  go_wp2_with fail
  refine HF2.out.mono ?_
  rintro e W ⟨rfl, hd⟩
  obtain ⟨hm, hb, hD⟩ := does_fin (cs := bk zb) HOWN.out HK0.out HS.out HB2.out (hd.quiet HK2.out) hzl
  have HF := Lib.hid hb
  have HD := Lib.hid hD
  clear hb hD hd
  go_wp2_with fail
  refine bodyPost_ret (v := .tuple #[.agg (bk zb).toArray, .int .i64 0]) (result27_38 rfl rfl rfl hzl HF.out) rfl ?_
  exact ⟨rfl, HD.out⟩
end Go.Proofs.Ytjiammhmeliogaa
