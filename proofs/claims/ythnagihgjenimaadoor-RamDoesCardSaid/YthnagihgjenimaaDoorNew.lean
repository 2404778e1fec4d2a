/- New: what it refuses; the empty lists that it makes. -/
import Derived.Test.YthnagihgjenimaaDoorLNil
import Derived.Deep.DeepCutAuto
import Derived.Deep.OwnRows
namespace Go.Proofs.YthnagihgjenimaaDoor
open Go.RowKit
set_option linter.unusedVariables false

theorem info3 : (Tryd.prog.info? 3).map (fun i => (i.zero, i.size, i.bytes)) = some (some (.int .i64 0), 1, 8) := by kernel_rfl

def zeros (n : Nat) : List Value := nats (List.replicate n 0)
theorem made_zeros (n : Nat) : madeCells #[.int .i64 0] n = (zeros n).toArray := by
  apply Array.ext'
  rw [toList_madeCells_one]
  simp [zeros, nats]

theorem make_zeros (n : Nat) (hn : n ≤ 65600) (w : World) : (Instr.makeSlice 28 (.int .i64 (n : Int)) (.int .i64 (n : Int))).run Tryd.prog w = .ok (.slice (some ⟨w.heap.size, 0, none⟩) n n) (w.alloc (.cells (zeros n).toArray 3)) := by
  rw [← made_zeros]
  exact run_make_row' 28 3 (.int .i64 0) 8 Tryd.underlying28 info3 rfl .i64 .i64 n (by omega) (by omega) w

/-- Right behind the composite literal. -/
def Lit0 (N n : Nat) (w : World) (v : Value) (w' : World) : Prop :=
  ∃ k : LK, v = k.ptr ∧ k.N = N ∧ k.n = n ∧ Blk w' k.B 130 (k.full [] [] [] []).obj ∧ Blk w' k.bn 3 (zeros (N + n)) ∧ Blk w' k.ba 3 (zeros (N + n)) ∧ Blk w' k.bw 3 (zeros N) ∧ Blk w' k.bl 3 (zeros n) ∧
    k.bn ≠ k.ba ∧ k.bn ≠ k.bw ∧ k.bn ≠ k.bl ∧ k.ba ≠ k.bw ∧ k.ba ≠ k.bl ∧ k.bw ≠ k.bl ∧ w.heap.size ≤ k.B ∧ (∀ b, k.own b → w.heap.size ≤ b) ∧ Below w.heap.size w w'

theorem four0 (w : World) (a b c d : Obj) : ((((w.alloc a).alloc b).alloc c).alloc d).heap[w.heap.size]? = some a := by
  show ((((w.heap.push a).push b).push c).push d)[w.heap.size]? = _
  simp only [Array.getElem?_push, Array.size_push]
  rw [if_neg (by omega), if_neg (by omega), if_neg (by omega), if_pos trivial]
theorem four1 (w : World) (a b c d : Obj) : ((((w.alloc a).alloc b).alloc c).alloc d).heap[w.heap.size + 1]? = some b := by
  show ((((w.heap.push a).push b).push c).push d)[w.heap.size + 1]? = _
  simp only [Array.getElem?_push, Array.size_push]
  rw [if_neg (by omega), if_neg (by omega), if_pos trivial]
theorem four2 (w : World) (a b c d : Obj) : ((((w.alloc a).alloc b).alloc c).alloc d).heap[w.heap.size + 1 + 1]? = some c := by
  show ((((w.heap.push a).push b).push c).push d)[w.heap.size + 1 + 1]? = _
  simp only [Array.getElem?_push, Array.size_push]
  rw [if_neg (by omega), if_pos trivial]
theorem four3 (w : World) (a b c d : Obj) : ((((w.alloc a).alloc b).alloc c).alloc d).heap[w.heap.size + 1 + 1 + 1]? = some d := by
  show ((((w.heap.push a).push b).push c).push d)[w.heap.size + 1 + 1 + 1]? = _
  simp only [Array.getElem?_push, Array.size_push]
  rw [if_pos trivial]

theorem lit_of (N n : Nat) (w : World) (a b c d : Obj) (p q r s : Nat)
    (hp : Blk ((((w.alloc a).alloc b).alloc c).alloc d) p 3 (zeros (N + n))) (hq : Blk ((((w.alloc a).alloc b).alloc c).alloc d) q 3 (zeros (N + n)))
    (hr : Blk ((((w.alloc a).alloc b).alloc c).alloc d) r 3 (zeros N)) (hs : Blk ((((w.alloc a).alloc b).alloc c).alloc d) s 3 (zeros n))
    (hd : p ≠ q ∧ p ≠ r ∧ p ≠ s ∧ q ≠ r ∧ q ≠ s ∧ r ≠ s) (hb : w.heap.size ≤ p ∧ w.heap.size ≤ q ∧ w.heap.size ≤ r ∧ w.heap.size ≤ s) :
    Lit0 N n w (.pointer (some ⟨w.heap.size + 1 + 1 + 1 + 1, 0, none⟩)) ((((((w.alloc a).alloc b).alloc c).alloc d).alloc
      (.cells #[.slice (some ⟨p, 0, none⟩) (N + n) (N + n), .slice (some ⟨q, 0, none⟩) (N + n) (N + n), .slice (some ⟨r, 0, none⟩) N N, .slice (some ⟨s, 0, none⟩) n n] 130)).drew) := by
  have h4 : ((((w.alloc a).alloc b).alloc c).alloc d).heap.size = w.heap.size + 1 + 1 + 1 + 1 := by simp
  have hbel : Below w.heap.size w ((((w.alloc a).alloc b).alloc c).alloc d) := ((((Below.refl _ w).alloc (Nat.le_refl _) a).alloc (by simp) b).alloc (by simp; omega) c).alloc (by simp; omega) d
  generalize ((((w.alloc a).alloc b).alloc c).alloc d) = w4 at *
  refine ⟨⟨w.heap.size + 1 + 1 + 1 + 1, p, q, r, s, N, n⟩, rfl, rfl, rfl, ?_, (hp.alloc _).drew, (hq.alloc _).drew, (hr.alloc _).drew, (hs.alloc _).drew, hd.1, hd.2.1, hd.2.2.1, hd.2.2.2.1, hd.2.2.2.2.1, hd.2.2.2.2.2, ?_, ?_, (hbel.alloc hbel.size _).drew⟩
  · rw [← h4]
    exact (Blk.new w4 130 _).drew
  · show w.heap.size ≤ w.heap.size + 1 + 1 + 1 + 1
    omega
  · intro x hx
    rcases hx with rfl | rfl | rfl | rfl
    · exact hb.1
    · exact hb.2.1
    · exact hb.2.2.1
    · exact hb.2.2.2

theorem new_bad (a b : Int) (w : World) (h : ¬ (1 ≤ a ∧ a ≤ 65536 ∧ 1 ≤ b ∧ b ≤ 64)) :
    Calls Tryd.prog 61 #[.int .i64 a, .int .i64 b] w fun e w' => e = .returned (.tuple #[.pointer none, .int .i64 2]) ∧ w = w' := by
  have hc : a < 1 ∨ (1 ≤ a ∧ 65536 < a) ∨ (1 ≤ a ∧ a ≤ 65536 ∧ b < 1) ∨ (1 ≤ a ∧ a ≤ 65536 ∧ 1 ≤ b ∧ 64 < b) := by omega
  clear h
  rcases hc with a1 | ⟨a1, a2⟩ | ⟨a1, a2, a3⟩ | ⟨a1, a2, a3, a4⟩ <;>
  · go_enter Tryd.func61, Tryd.ntmps61
    go_wp2
    go_ret2
    exact ⟨rfl, rfl⟩

set_option maxHeartbeats 2000000 in
theorem new_ok (N n : Nat) (w : World) (h1 : 1 ≤ N) (h2 : N ≤ 65536) (h3 : 1 ≤ n) (h4 : n ≤ 64) :
    Calls Tryd.prog 61 #[.int .i64 N, .int .i64 n] w fun e w' => ∃ k : LK, e = .returned (.tuple #[k.ptr, .int .i64 0]) ∧ k.N = N ∧ k.n = n ∧ k.Has w' (fun _ => []) ∧ w.heap.size ≤ k.B ∧ (∀ b, k.own b → w.heap.size ≤ b) ∧ Below w.heap.size w w' := by
  have m1 := fun W => make_zeros (N + n) (by omega) W
  rw [show (((N + n : Nat) : Int)) = (N : Int) + (n : Int) from rfl] at m1
  have m2 := fun W => make_zeros N (by omega) W
  have m3 := fun W => make_zeros n (by omega) W
  go_enter Tryd.func61, Tryd.ntmps61
  go_upto_region 3 with fail
  go_cut [6] (fun s6 wx => Lit0 N n w s6 wx)
  case first =>
    go_region
    all_goals go_wp2_with fail
    all_goals go_meet
    all_goals (refine lit_of N n w _ _ _ _ _ _ _ _ ?_ ?_ ?_ ?_ ?_ ?_)
    all_goals first
      | exact four0 _ _ _ _ _
      | exact four1 _ _ _ _ _
      | exact four2 _ _ _ _ _
      | exact four3 _ _ _ _ _
      | (refine ⟨?_, ?_, ?_, ?_, ?_, ?_⟩ <;> omega)
      | (refine ⟨?_, ?_, ?_, ?_⟩ <;> omega)
  case rest =>
    obtain ⟨k, rfl, rfl, rfl, hB, hbn, hba, hbw, hbl, d1, d2, d3, d4, d5, d6, u1, u2, hbel⟩ := hcut
    have A0 : LL.At (k.full (List.replicate (k.N + k.n) 0) (List.replicate (k.N + k.n) 0) (List.replicate k.N 0) (List.replicate k.n 0)) wc :=
      ⟨hB, hbn, hba, by show Blk _ _ _ (lints (List.replicate k.N 0)); have : lints (List.replicate k.N 0) = zeros k.N := by simp [lints, zeros, nats]
                        rw [this]; exact hbw, hbl, d1, d2, d3, d4, d5, d6, by simp [LK.full], by simp [LK.full], by simp [LK.full], by simp [LK.full], h1, h2, h3, h4⟩
    clear hB hbn hba hbw hbl m1 m2 m3
    go_wp2_with fail
    go_loopw [7, 38] (fun _ j wr => ∃ (i : Nat) (wh : List Int), i ≤ k.N ∧ j = .int .i64 i ∧ LL.At (k.full (List.replicate (k.N + k.n) 0) (List.replicate (k.N + k.n) 0) wh (List.replicate k.n 0)) wr ∧ (∀ x, x < i → wh.getD x 0 = -1) ∧ Below w.heap.size w wr)
      (fun _ j _ => k.N - (intOf j).toNat)
    case atStart => exact ⟨0, _, Nat.zero_le _, rfl, A0, fun x hx => absurd hx (by omega), hbel⟩
    case round =>
      obtain ⟨i, wh, hi, rfl, A, hwh, hb⟩ := hrel
      by_cases hlt : i < k.N
      · obtain ⟨o0, o1, o2, o3⟩ := A.fields
        have g1 := A.getWh (i := i) hlt
        have f1 := A.wh.free i
        have A2 := A.setWh i (-1)
        have hb2 := hb.setCell (p := ⟨k.bw, i, none⟩) (u2 _ (.inr (.inr (.inl rfl)))) (.int .i64 (-1))
        have hwl := A.lwh
        dsimp only [LK.full] at o0 o1 o2 o3 g1 f1 A2 hwl
        have HA := Lib.hid A2
        have HB := Lib.hid hb2
        have HW := Lib.hid hwh
        have HL := Lib.hid hwl
        unfold LK.ptr
        clear A A2 hb hb2 hwh hwl A0 hbel
        go_wp2_with fail
        go_roundw
        case rel =>
          refine ⟨i + 1, wh.set i (-1), by omega, by go_num, HA.out, fun x hx => ?_, HB.out⟩
          by_cases e : x = i
          · subst e; exact gsetI_eq _ _ (by rw [HL.out]; exact hlt)
          · rw [gsetI_ne _ _ (fun e' => e e'.symm)]; exact HW.out x (by omega)
        case measure => simp [intOf]; omega
      · obtain rfl : i = k.N := by omega
        have HW := Lib.hid hwh
        clear hwh A0 hbel
        go_wp2_with fail
        obtain ⟨wo, rfl⟩ : ∃ wo : World, wo = wr := ⟨_, rfl⟩
        have HA0 := Lib.hid A
        have HB0 := Lib.hid hb
        clear A hb
        go_loopw [8] (fun j wr => ∃ (i : Nat) (nx ah : List Nat), k.N ≤ i ∧ i ≤ k.N + k.n ∧ j = .int .i64 i ∧ LL.At (k.full nx ah wh (List.replicate k.n 0)) wr ∧ (∀ x, k.N ≤ x → x < i → nx.getD x 0 = x ∧ ah.getD x 0 = x) ∧ Below w.heap.size w wr)
          (fun j _ => k.N + k.n - (intOf j).toNat)
        case atStart => exact ⟨k.N, _, _, Nat.le_refl _, by omega, rfl, HA0.out, fun x hx1 hx2 => absurd hx2 (by omega), HB0.out⟩
        case round =>
          obtain ⟨i, nx, ah, hi1, hi2, rfl, A, hxa, hb⟩ := hrel
          by_cases hlt : i < k.N + k.n
          · obtain ⟨o0, o1, o2, o3⟩ := A.fields
            have g1 := A.getNx (i := i) hlt
            have g2 := A.getAh (i := i) hlt
            have f1 := A.nx.free i
            have f2 := A.ah.free i
            have A2 := ((A.setNx i i).setAh i i).drew
            have hb2 := ((hb.setCell (p := ⟨k.bn, i, none⟩) (u2 _ (.inl rfl)) (.int .i64 (i : Int))).setCell (p := ⟨k.ba, i, none⟩) (u2 _ (.inr (.inl rfl))) (.int .i64 (i : Int))).drew
            have hl1 := A.lnx
            have hl2 := A.lah
            have e1 := A.en
            have e2 := A.ea
            dsimp only [LK.full] at o0 o1 o2 o3 g1 g2 f1 f2 A2 hl1 hl2 e1 e2
            have HA := Lib.hid A2
            have HB := Lib.hid hb2
            have HX := Lib.hid hxa
            have HL1 := Lib.hid hl1
            have HL2 := Lib.hid hl2
            unfold LK.ptr
            have q2 : (i : Int) < (k.N : Int) + (k.n : Int) := by omega
            clear A A2 hb hb2 hxa hl1 hl2
            go_wp2_with fail
            go_region
            go_wp2_with fail
            go_roundw
            case rel =>
              refine ⟨i + 1, nx.set i i, ah.set i i, by omega, by omega, by go_num, HA.out, fun x hx1 hx2 => ?_, HB.out⟩
              by_cases e : x = i
              · subst e; exact ⟨gset_eq _ _ (by rw [HL1.out]; exact hlt), gset_eq _ _ (by rw [HL2.out]; exact hlt)⟩
              · rw [gset_ne _ _ (fun e' => e e'.symm), gset_ne _ _ (fun e' => e e'.symm)]; exact HX.out x hx1 (by omega)
            case measure => simp [intOf]; omega
          · obtain rfl : i = k.N + k.n := by omega
            have HX := Lib.hid hxa
            have HAA := Lib.hid A
            have HBB := Lib.hid hb
            clear hxa A hb
            go_wp2_with fail
            go_ret2
            refine ⟨k, rfl, rfl, rfl, ⟨nx, ah, wh, _, HAA.out, ?_⟩, u1, u2, HBB.out⟩
            have h := HAA.out
            exact ⟨h.lnx, h.lah, h.lwh, h.lln, fun i x _ hx => (by cases hx), fun i _ => List.nodup_nil, fun i j x _ _ hx _ => (by cases hx),
              fun i (hi : i < k.n) => (HX.out (k.N + i) (by omega) (by omega)).1, fun i (hi : i < k.n) => (HX.out (k.N + i) (by omega) (by omega)).2, fun i x _ hx => (by cases hx),
              fun x hx _ => HW.out x hx, fun i (hi : i < k.n) => by show (List.replicate k.n 0).getD i 0 = 0; simp [hi]⟩
end Go.Proofs.YthnagihgjenimaaDoor
