/- LruTurns: who is touched is the newest, none is lost. -/
import Derived.Test.YthnagihgjenimaaTold
import Derived.Test.YthnagihgjenimaaWakes
namespace Go.Proofs.Ythnagihgjenimaa
open Go.RowKit
set_option linter.unusedVariables false

/-- A slice, nil or not, whose cells hold the integers xs. -/
def Row (k : IntKind) (w : World) (a : Option Addr) (n : Nat) (xs : List Int) : Prop :=
  xs.length = n ∧ ∀ i, i < n → ∃ ad, a = some ad ∧ w.cell? (ad.add i) = some (.int k (xs.getD i 0))

theorem wf_u8 {x : Int} (h : (Lit.int .u8 x).wf = true) : 0 ≤ x ∧ x ≤ 255 := by
  simpa [Lit.wf, IntKind.min, IntKind.max, IntKind.signed, IntKind.bits] using h

theorem cell_lt {W : World} {a : Addr} {v : Value} (h : W.cell? a = some v) : a.block < W.heap.size := by
  rcases Nat.lt_or_ge a.block W.heap.size with h' | h'
  · exact h'
  · simp [World.cell?, Array.getElem?_eq_none h'] at h

theorem told_of (k : LK) (w : World) (ls : Nat → List Nat) (h : k.Has w ls) (i : Nat) (hi : i < k.n) :
    Calls Try.prog 20 #[k.ptr, .int .i64 i] w fun e w' => ∃ sv, e = .returned (.tuple #[sv, .bool true]) ∧ w'.ownsRow w.heap.size 3 1 sv (ls i).length (nats (ls i)) ∧ Keeps (fun _ => False) w w' :=
  told_law k.ptr i (ls i) (by have := h.len_le hi; have := h.bounds; omega) w fun W hW => all_ok k W ls (h.quiet hW) i hi

theorem told_bad (k : LK) (w : World) (ls : Nat → List Nat) (h : k.Has w ls) (i : Int) (ho : ¬ okLN k i 0) :
    Calls Try.prog 20 #[k.ptr, .int .i64 i] w fun e w' => ∃ sv, e = .returned (.tuple #[sv, .bool true]) ∧ w'.ownsRow w.heap.size 3 1 sv 0 (nats []) ∧ Keeps (fun _ => False) w w' :=
  told_law k.ptr i [] (by simp) w fun W hW => all_bad k W ls (h.quiet hW) i ho

/-- All of the n numbers stand in list 0. -/
def TurnS (w0 : World) (k : LK) (t : Nat) (wr : World) : Prop := ∃ ls, k.Has wr ls ∧ (ls 0).length = t ∧ (∀ x, x < t → x ∈ ls 0) ∧ (∀ x, x ∈ ls 0 → x < t) ∧ Below w0.heap.size w0 wr

theorem turn_push {w0 wr w2 : World} {k : LK} {t : Nat} {ls : Nat → List Nat} (hh : k.Has w2 (upd ls 0 (t :: ls 0))) (h1 : (ls 0).length = t) (h2 : ∀ x, x < t → x ∈ ls 0) (h3 : ∀ x, x ∈ ls 0 → x < t) (hb : Below w0.heap.size w0 w2) : TurnS w0 k (t + 1) w2 := by
  refine ⟨_, hh, ?_, ?_, ?_, hb⟩
  · rw [upd_same]; simp [h1]
  · intro x hx
    rw [upd_same]
    by_cases e : x = t
    · rw [e]; exact List.mem_cons_self ..
    · exact List.mem_cons_of_mem _ (h2 x (by omega))
  · intro x hx
    rw [upd_same] at hx
    rcases List.mem_cons.1 hx with e | hx
    · omega
    · have := h3 x hx; omega

theorem info4b : (Try.prog.info? 4).map (fun i => (i.zero, i.size, i.bytes)) = some (some (.bool false), 1, 1) := by kernel_rfl

def bools (l : List Bool) : List Value := l.map Value.bool
theorem made_bools (n : Nat) : madeCells #[.bool false] n = (bools (List.replicate n false)).toArray := by
  apply Array.ext'
  rw [toList_madeCells_one]
  simp [bools]

theorem make_bools (n : Nat) (hn : n ≤ 65600) (w : World) : (Instr.makeSlice 46 (.int .i64 (n : Int)) (.int .i64 (n : Int))).run Try.prog w = .ok (.slice (some ⟨w.heap.size, 0, none⟩) n n) (w.alloc (.cells (bools (List.replicate n false)).toArray 4)) := by
  rw [← made_bools]
  exact run_make_row' 46 4 (.bool false) 1 Try.underlying46 info4b rfl .i64 .i64 n (by omega) (by omega) w

theorem bools_get {l : List Bool} {i : Nat} (h : i < l.length) : (bools l)[i]? = some (.bool (l.getD i false)) := by simp [bools, h]

/-- Behind q rounds: met says of each number whether it is among the first q. -/
def MetS (w0 w4 : World) (b t : Nat) (l : List Nat) (q : Nat) (wr : World) : Prop :=
  ∃ bs : List Bool, bs.length = t ∧ Blk wr b 4 (bools bs) ∧ (∀ x, bs.getD x false = true → x ∈ l.take q) ∧ Below b w4 wr

theorem nodup_take {l : List Nat} (hn : l.Nodup) {j y : Nat} (hj : j < l.length) (hy : y = l.getD j 0) : y ∉ l.take j := by
  intro h
  have e : y = l[j] := by rw [hy, List.getD_eq_getElem?_getD, List.getElem?_eq_getElem hj]; rfl
  have h2 : l.take j ++ l.drop j = l := List.take_append_drop j l
  rw [← h2] at hn
  have h3 : y ∈ l.drop j := by rw [List.drop_eq_getElem_cons hj, e]; exact List.mem_cons_self ..
  exact (List.nodup_append.1 hn).2.2 y h y h3 rfl

theorem TurnS.quiet {w0 w1 w2 : World} {k : LK} {t : Nat} (h : TurnS w0 k t w1) (hk : Keeps (fun _ => False) w1 w2) : TurnS w0 k t w2 := by
  obtain ⟨ls, hh, g1, g2, g3, hb⟩ := h
  exact ⟨ls, hh.quiet hk, g1, g2, g3, Keeps.thenQ hb hk hb.size⟩

theorem turn_touch {w0 wr w2 : World} {k : LK} {t x : Nat} {ls : Nat → List Nat} {xs ys : List Nat} (hl : ls 0 = xs ++ x :: ys) (hh : k.Has w2 (upd ls 0 (x :: (xs ++ ys)))) (h1 : (ls 0).length = t) (h2 : ∀ x, x < t → x ∈ ls 0) (h3 : ∀ x, x ∈ ls 0 → x < t) (hb : Below w0.heap.size w0 w2) : TurnS w0 k t w2 := by
  rw [hl] at h1 h2 h3
  refine ⟨_, hh, ?_, ?_, ?_, hb⟩
  · rw [upd_same]; simp at h1 ⊢; omega
  · intro z hz
    have := h2 z hz
    rw [upd_same]
    simp at this ⊢
    rcases this with a | a | a <;> simp [a]
  · intro z hz
    rw [upd_same] at hz
    refine h3 z ?_
    simp at hz ⊢
    rcases hz with a | a | a <;> simp [a]

set_option maxRecDepth 100000 in
set_option maxHeartbeats 4000000 in
theorem turns_law (a : Int) (A : Option Addr) (len cap : Nat) (zs : List Int) (w : World) (ha : (Lit.int .i64 a).wf = true) (hR : Row .u8 w A len zs) (hwf : ∀ x ∈ zs, (Lit.int .u8 x).wf = true) (hnc : len ≤ cap) (hc : len ≤ 140737488351232) :
    Calls Try.prog 5 #[.int .i64 a, .slice A len cap] w fun e w' => e = .returned (.bool true) ∧ Below w.heap.size w w' := by
  have HR := Lib.hid hR
  have HWF := Lib.hid hwf
  obtain ⟨nn, hnn⟩ : ∃ nn, nn = min len 200 := ⟨_, rfl⟩
  have hnn1 : nn ≤ 200 := by omega
  have hnn2 : nn ≤ len := by omega
  have HNN := Lib.hid hnn
  clear hR hwf hnn
  go_enter Try.func5, Try.ntmps5
  go_wp2_with (go_at_call 8; refine (wakes_yes _).mono ?_; rintro e w0 ⟨rfl, hb0⟩)
  have hur : 0 ≤ IntKind.u64.wrap a := by rw [IntKind.wrap_u64]; omega
  obtain ⟨v0, hv⟩ : ∃ v0, v0 = wrap64 (1 + wrap64 ((IntKind.u64.wrap a).tmod 40)) := ⟨_, rfl⟩
  rw [← hv]
  have hvN : ∃ N : Nat, v0 = (N : Int) ∧ 1 ≤ N ∧ N ≤ 40 := by
    rw [Int.tmod_eq_emod_of_nonneg hur] at hv
    have h1 := Int.emod_nonneg (IntKind.u64.wrap a) (show (40 : Int) ≠ 0 by omega)
    have h2 := Int.emod_lt_of_pos (IntKind.u64.wrap a) (show (0 : Int) < 40 by omega)
    generalize (IntKind.u64.wrap a) % 40 = r at hv h1 h2
    have : v0 = 1 + r := by rw [hv]; unfold wrap64; omega
    exact ⟨v0.toNat, by omega, by omega, by omega⟩
  obtain ⟨N, rfl, hN1, hN2⟩ := hvN
  clear hv hur
  refine (new_ok N 1 w0 (by omega) (by omega) (by omega) (by omega)).mono ?_
  rintro e w1 ⟨k, rfl, hN, hn, hHas, hkB, hown, hb1⟩
  have hbw := hb0.trans (hb1.mono hb0.size)
  have HN := Lib.hid hN
  have HM := Lib.hid hn
  have HO := Lib.hid (fun b hb => Nat.le_trans hb0.size (hown b hb))
  have HS : Hid (TurnS w k 0 w1) := Lib.hid ⟨_, hHas, rfl, fun x hx => absurd hx (by omega), fun x hx => (by cases hx), hbw⟩
  have HLT := Lib.hid hHas.lt
  have hsz := hbw.size
  clear hN hn hown hHas hb0 hb1 hkB hbw
  unfold LK.ptr at *
  go_wp2_with fail
  go_loopw [7, 33] (fun _ i wr => ∃ t : Nat, t ≤ N ∧ i = .int .i64 t ∧ TurnS w k t wr) (fun _ i _ => N - (intOf i).toNat)
  case atStart => exact ⟨0, Nat.zero_le _, rfl, HS.out⟩
  case round =>
    obtain ⟨t, ht, rfl, hs⟩ := hrel
    by_cases hlt : t < N
    · obtain ⟨ls, hh, g1, g2, g3, hB⟩ := hs
      have HP := Lib.hid (push_ok k wr ls hh 0 t (by rw [HM.out]; omega) (by rw [HN.out]; exact hlt) (fun j hj hx => by
        obtain rfl : j = 0 := by rw [HM.out] at hj; omega
        exact Nat.lt_irrefl _ (g3 t hx)))
      have HG := Lib.hid (fun w2 hh hb => turn_push (w0 := w) (wr := wr) (w2 := w2) (k := k) hh g1 g2 g3 hb)
      have HB := Lib.hid hB
      have hsb := hB.size
      clear hh g1 g2 g3 hB
      unfold LK.ptr at *
      go_wp2_with (go_at_call 11; refine HP.out.mono ?_; rintro e w2 ⟨rfl, hh2, hk2⟩; have HT := Lib.hid (HG.out w2 hh2 (Keeps.thenB HB.out hk2 HO.out hsb)); clear hh2 hk2)
      go_roundw
      case rel => exact ⟨t + 1, by omega, by simp, HT.out⟩
      case measure => simp [intOf]; omega
    · obtain rfl : t = N := by omega
      have HS2 := Lib.hid hs
      clear hs
      go_upto_region 13 with fail
      go_cut [45, 46, 47] (fun s45 s46 s47 wx => s45 = .slice A nn cap ∧ s46 = .int .i64 nn ∧ s47 = .int .i64 0 ∧ wx = wr)
      case first =>
        by_cases h200 : len ≤ 200
        · obtain rfl : nn = len := by rw [HNN.out]; omega
          go_wp2_with fail
          go_meet
          all_goals exact ⟨rfl, rfl, rfl, rfl⟩
        · obtain rfl : nn = 200 := by rw [HNN.out]; omega
          go_wp2_with fail
          go_meet
          all_goals exact ⟨rfl, rfl, rfl, rfl⟩
      case rest =>
        obtain ⟨rfl, rfl, rfl, rfl⟩ := hcut
        go_wp2_with fail
        go_loopw [47] (fun i wr => ∃ q : Nat, q ≤ nn ∧ i = .int .i64 q ∧ TurnS w k t wr) (fun i _ => nn - (intOf i).toNat)
        case atStart => exact ⟨0, Nat.zero_le _, rfl, HS2.out⟩
        case round =>
          obtain ⟨q, hq, rfl, hs⟩ := hrel
          by_cases hlt2 : q < nn
          · obtain ⟨ls, hh, g1, g2, g3, hB⟩ := hs
            obtain ⟨ad, rfl, hcell⟩ := HR.out.2 q (by omega)
            obtain ⟨z, hz⟩ : ∃ z, z = zs.getD q 0 := ⟨_, rfl⟩
            rw [← hz] at hcell
            have hzw : (Lit.int .u8 z).wf = true := HWF.out z (by
              have hl := HR.out.1
              rw [hz, List.getD_eq_getElem?_getD, List.getElem?_eq_getElem (by omega)]
              simp)
            have hz0 : 0 ≤ z ∧ z ≤ 255 := wf_u8 hzw
            have hadl : (ad.add q).block < w.heap.size := cell_lt hcell
            have hcell2 := (hB.cell hadl).trans hcell
            clear hcell hz hzw
            unfold LK.ptr at *
            go_wp2_with fail
            obtain ⟨x, hx⟩ : ∃ x : Nat, z % (t : Int) = (x : Int) := ⟨(z % (t : Int)).toNat, by have := Int.emod_nonneg z (show (t : Int) ≠ 0 by omega); omega⟩
            have hxt : x < t := by have := Int.emod_lt_of_pos z (show (0 : Int) < t by omega); omega
            simp only [hx]
            obtain ⟨xs, ys, hl⟩ := List.append_of_mem (g2 x hxt)
            refine (touch_ok k wr ls hh x 0 xs ys (by rw [HM.out]; omega) hl).mono ?_
            rintro e w2 ⟨rfl, hh2, hk2⟩
            have hb2 := Keeps.thenB hB hk2 HO.out hB.size
            have hlen2 : (upd ls 0 (x :: (xs ++ ys)) 0).length = t := by rw [upd_same]; rw [hl] at g1; simp at g1 ⊢; omega
            have hst := turn_touch (w0 := w) (wr := wr) (k := k) hl hh2 g1 g2 g3 hb2
            have hhd : (upd ls 0 (x :: (xs ++ ys)) 0).head? = some x := by rw [upd_same]; rfl
            obtain ⟨l2, hl2⟩ : ∃ l2, l2 = upd ls 0 (x :: (xs ++ ys)) := ⟨_, rfl⟩
            rw [← hl2] at hh2 hlen2 hhd
            have HL2 := Lib.hid hlen2
            have HH2 := Lib.hid hh2
            have HD := Lib.hid hhd
            have HB2 := Lib.hid hb2
            have HST := Lib.hid hst
            clear hh hk2 hB hl g1 g2 g3 hh2 hlen2 hhd hl2 hb2 hst hx hcell2
            go_wp2_with (go_at_call 12; refine (len_ok k w2 _ HH2.out 0 (by rw [HM.out]; omega)).mono ?_; rw [HL2.out]; rintro e w3 ⟨rfl, rfl⟩)
            refine (newest_ok k w2 _ HH2.out 0 x (by rw [HM.out]; omega) HD.out).mono ?_
            unfold two
            rintro e w3 ⟨rfl, hk3⟩
            have HST3 := Lib.hid (HST.out.quiet hk3)
            clear hk3
            go_wp2_with fail
            go_roundw
            case rel => exact ⟨q + 1, by omega, by simp, HST3.out⟩
            case measure => simp [intOf]; omega
          · obtain rfl : q = nn := by omega
            obtain ⟨ls, hh, g1, g2, g3, hB⟩ := hs
            have HT := Lib.hid (told_of k wr ls hh 0 (by rw [HM.out]; omega))
            have HND := Lib.hid (hh.nodup (i := 0) (by rw [HM.out]; omega))
            have H1 := Lib.hid g1
            have H3 := Lib.hid g3
            have HB := Lib.hid hB
            clear hh g1 g2 g3 hB
            unfold LK.ptr at *
            go_wp2_with (go_at_call 20; refine HT.out.mono ?_; rintro e w3 ⟨sv, rfl, hrow, hk3⟩; have HROW := Lib.hid hrow; have hs3 := hk3.size; have HB3 := Lib.hid (Keeps.thenQ HB.out hk3 HB.out.size); clear hrow hk3)
            have hmk := make_bools t (by omega) w3
            have hrow := HROW.out
            rcases come_form hrow with ⟨_, h0⟩ | ⟨g, cp, rfl, hg, hcs⟩
            · exact absurd h0 (by have := H1.out; omega)
            rw [H1.out] at hcs
            have HCS := Lib.hid hcs
            clear hrow hcs
            rw [H1.out, hmk]
            go_wp2_with fail
            have hm0 : MetS w w3 w3.heap.size t (ls 0) 0 (w3.alloc (.cells (bools (List.replicate t false)).toArray 4)) :=
              ⟨_, by simp, Blk.new _ _ _, fun x hx => by simp [List.getD_eq_getElem?_getD, List.getElem?_replicate] at hx; split at hx <;> simp_all, (Below.refl _ _).alloc (Nat.le_refl _) _⟩
            have HM0 := Lib.hid hm0
            clear hm0 hmk
            go_loopw [87] (fun i wr => ∃ j : Nat, j ≤ t ∧ i = .int .i64 j ∧ MetS w w3 w3.heap.size t (ls 0) j wr) (fun i _ => t - (intOf i).toNat)
            case atStart => exact ⟨0, Nat.zero_le _, rfl, HM0.out⟩
            case round =>
              obtain ⟨j, hj, rfl, bs, hbl, hblk, hbm, hbel⟩ := hrel
              by_cases hlt3 : j < t
              · have q1 := (hbel.cell (p := ⟨g, j, none⟩) hg).trans (HCS.out j hlt3)
                obtain ⟨y, hy⟩ : ∃ y, y = (ls 0).getD j 0 := ⟨_, rfl⟩
                rw [← hy] at q1
                have hyt : y < t := H3.out y (by rw [hy, List.getD_eq_getElem?_getD, List.getElem?_eq_getElem (by rw [H1.out]; exact hlt3)]; exact List.getElem_mem _)
                have hno : bs.getD y false = false := by
                  cases hb : bs.getD y false with
                  | false => rfl
                  | true =>
                    have h1 := hbm y hb
                    exact absurd h1 (nodup_take HND.out (by rw [H1.out]; exact hlt3) hy)
                have q2 := hblk.cell (bools_get (i := y) (by rw [hbl]; exact hyt))
                rw [hno] at q2
                have q3 := hblk.free y
                have HBM := Lib.hid hbm
                have HBK := Lib.hid hblk
                have HBL := Lib.hid hbel
                have HY := Lib.hid hy
                clear hbm hblk hbel hy hno
                go_wp2_with fail
                have hset : bools (bs.set y true) = (bools bs).set y (.bool true) := by simp [bools, List.map_set]
                refine ⟨⟨j + 1, by omega, by simp, bs.set y true, by simp [hbl], by rw [hset]; exact HBK.out.store y _, fun x hx => ?_, HBL.out.setCell (p := ⟨w3.heap.size, y, none⟩) (Nat.le_refl _) _⟩, by simp [intOf]; omega⟩
                have htk : y ∈ (ls 0).take (j + 1) := by
                  have hjl : j < (ls 0).length := by rw [H1.out]; exact hlt3
                  have e : y = (ls 0)[j] := by rw [HY.out, List.getD_eq_getElem?_getD, List.getElem?_eq_getElem hjl]; rfl
                  rw [List.take_succ_eq_append_getElem hjl, e]
                  exact List.mem_append_right _ (List.mem_singleton.2 rfl)
                by_cases hxy : x = y
                · rw [hxy]; exact htk
                · have h1 : bs.getD x false = true := by
                    rw [← hx, List.getD_eq_getElem?_getD, List.getD_eq_getElem?_getD, List.getElem?_set_ne (fun e => hxy e.symm)]
                  have h2 := HBM.out x h1
                  exact List.mem_of_mem_take (i := j) (by rw [List.take_take]; simpa using h2)
              · obtain rfl : j = t := by omega
                have HBL := Lib.hid hbel
                clear hbm hblk hbel
                go_wp2_with fail
                go_ret
                exact ⟨by simp, HB3.out.trans (HBL.out.mono HB3.out.size)⟩
end Go.Proofs.Ythnagihgjenimaa
