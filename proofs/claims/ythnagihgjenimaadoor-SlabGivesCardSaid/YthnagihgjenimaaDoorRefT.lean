/- icehouseref11: Take. -/
import Derived.Test.YthnagihgjenimaaDoorRefG
import Derived.Test.YthnagihgjenimaaDoorNoneL
namespace Go.Proofs.YthnagihgjenimaaDoor
open Go.RowKit
set_option linter.unusedVariables false
set_option linter.unusedSimpArgs false

theorem gv_less {D : AD} {m k : Nat} (h : D.Has m k) (a b : Nat) (hb : b < 32) : upd2 (gv D) (m / 32) (m % 32) 0 a b = gv (D.less m) a b := by
  obtain ⟨h1, h2, h3⟩ := h
  have hg : ∀ a, (D.less m).g a = updN D.g (m / 32) (D.g (m / 32) - 2 ^ (m % 32)) a := fun _ => rfl
  have hc : (D.less m).c a = D.c a := rfl
  unfold upd2 gv
  rw [hg, hc]
  by_cases e : a = m / 32
  · rw [e, updN_same, bitN_off h2]
    by_cases e2 : b = m % 32
    · simp [e2]
    · simp [e2]
  · rw [updN_ne _ _ _ e, if_neg (fun h => e h.1)]
theorem gv_hit {D : AD} {j p : Nat} (hb : bitN (D.g j) p = 0) (a b : Nat) : upd2 (gv D) j p (D.c j + 1) a b = gv { D with g := updN D.g j (D.g j + 2 ^ p) } a b := by
  unfold upd2 gv
  show _ = if bitN (updN D.g j (D.g j + 2 ^ p) a) b = 1 then D.c a + 1 else 0
  by_cases e : a = j
  · subst e
    rw [updN_same, bitN_on hb]
    by_cases e2 : b = p
    · simp [e2]
    · simp [e2]
  · rw [updN_ne _ _ _ e, if_neg (fun h => e h.1)]
theorem bit_one (b : Nat) : bitN 1 b = 1 ↔ b = 0 := by
  constructor
  · intro h
    rcases Nat.eq_zero_or_pos b with e | e
    · exact e
    · have := bit_ge h
      have := Nat.one_lt_two_pow (n := b) (by omega)
      omega
  · rintro rfl; rfl
theorem gv_page {D : AD} {j k : Nat} (h0 : D.g j = 0) (a b : Nat) : upd2 (gv D) j 0 (k + 1) a b = gv { D with c := updN D.c j k, g := updN D.g j 1 } a b := by
  unfold upd2 gv
  show _ = if bitN (updN D.g j 1 a) b = 1 then updN D.c j k a + 1 else 0
  by_cases e : a = j
  · subst e
    rw [updN_same, updN_same, h0, bitN_zero]
    by_cases e2 : b = 0
    · simp [e2, (bit_one 0).2 rfl]
    · have : ¬ bitN 1 b = 1 := fun h => e2 ((bit_one b).1 h)
      simp [e2, this]
  · rw [updN_ne _ _ _ e, updN_ne _ _ _ e, if_neg (fun h => e h.1)]
def AD.took (D : AD) (x : Int) : AD := if D.find x = 0 then D.less x.toNat else D
def RTakeP (D : AD) (x : Int) (w : World) (e : Ending) (w' : World) : Prop := ∃ Y : RG, e = .returned (.tuple #[Y.val D.n, .int .i64 (D.find x)]) ∧ RgAt w' Y D.n (gv (D.took x)) ∧ Keeps (fun _ => False) w w'
/-- The two blocks at a method's head: the receiver, the result. -/
theorem two_blocks (w : World) (v : Value) : Blk ((w.alloc (.cells #[v] 40)).alloc (.cells #[.slice none 0 0] 40)) w.heap.size 40 [v] ∧ Blk ((w.alloc (.cells #[v] 40)).alloc (.cells #[.slice none 0 0] 40)) (w.heap.size + 1) 40 [.slice none 0 0] ∧ Keeps (fun _ => False) w ((w.alloc (.cells #[v] 40)).alloc (.cells #[.slice none 0 0] 40)) := by
  refine ⟨(Blk.new w 40 [v]).alloc _, ?_, ((Keeps.refl _ w).alloc _).alloc _⟩
  have := Blk.new (w.alloc (.cells #[v] 40)) 40 [.slice none 0 0]
  rwa [World.size_alloc] at this
theorem rg_result {w w5 : World} {Y : RG} {n : Nat} {f : Nat → Nat → Nat} {B : Nat} (h : RgAt w5 Y n f) (hb : Blk w5 B 40 [.slice none 0 0]) (hk : Keeps (fun _ => False) w w5) (hB : w.heap.size ≤ B) (v : Value) :
    RgAt (w5.setCell ⟨B, 0, none⟩ v) Y n f ∧ (w5.setCell ⟨B, 0, none⟩ v).cell? ⟨B, 0, none⟩ = some v ∧ Keeps (fun _ => False) w (w5.setCell ⟨B, 0, none⟩ v) := by
  have k9 : Keeps (fun g => g = B) w5 (w5.setCell ⟨B, 0, none⟩ v) := (Keeps.refl (fun g => g = B) w5).store (p := ⟨B, 0, none⟩) (.inl rfl) _
  refine ⟨h.keep k9 fun g cur t' ht' hc e => ?_, (hb.store 0 v).cell rfl, ((hk.mono fun _ _ h => h.elim).trans k9).mono fun g hg e => by have e : g = B := e; omega⟩
  unfold Blk at hb
  rw [show g = B from e, hb] at hc
  injection hc with hc
  injection hc with _ hc
  rcases ht' with rfl | rfl <;> cases hc
set_option maxRecDepth 100000 in
set_option maxHeartbeats 1000000 in
theorem rtake_any (X : RG) (D : AD) (hD : D.Ok) (w : World) (h : RgAt w X D.n (gv D)) (x : Int) (hx : x < 9223372036854775808) : Calls Tryd.prog 28 #[X.val D.n, .int .i64 x] w (RTakeP D x w) := by
  obtain ⟨hcap, hmx⟩ := h.cap
  have n2 := h.n2
  obtain ⟨b0, b1, hk0⟩ := two_blocks w (.slice (some ⟨X.O, 0, none⟩) D.n X.cap)
  obtain ⟨W0, hW0⟩ : ∃ W0, W0 = (w.alloc (.cells #[.slice (some ⟨X.O, 0, none⟩) D.n X.cap] 40)).alloc (.cells #[.slice none 0 0] 40) := ⟨_, rfl⟩
  have hcb := b0.cell (i := 0) rfl
  rw [← hW0] at b0 b1 hk0
  have h' := h.quiet hk0
  have HX0 := Lib.hid h'
  have HWH := Lib.hid (rwhere_any X D hD W0 h' x hx)
  have HD := Lib.hid hD
  have HK0 := Lib.hid hk0
  have HB0 := Lib.hid b0
  have HB1 := Lib.hid b1
  clear hk0 b0 b1 h hx hD h'
  unfold maxLen at hmx
  unfold RG.val RWhereP at *
  go_enter Tryd.func28, Tryd.ntmps28
  go_wp2_with fail
  rw [← hW0]
  clear hW0 hcb
  refine HWH.out.mono ?_
  rintro e w1 ⟨rfl, hk1⟩
  have b0 := hk1.blk HB0.out id
  have b1 := hk1.blk HB1.out id
  have c0 := b0.cell (i := 0) rfl
  have c1 := b1.cell (i := 0) rfl
  have f1 := b1.free 0
  have HX1 := Lib.hid (HX0.out.quiet hk1)
  have HK1 := Lib.hid (HK0.out.trans hk1)
  have HB1' := Lib.hid b1
  clear hk1 b0 b1
  by_cases hf : D.find x = 0
  · obtain ⟨h0, hi, hb⟩ := find_zero hf
    obtain ⟨m, rfl⟩ := Int.eq_ofNat_of_zero_le h0
    simp only [Int.toNat_natCast] at *
    have hHas := find_has hf
    have HH := Lib.hid hHas
    have HF := Lib.hid hf
    have HT : Hid (D.took m = D.less m) := Lib.hid (by unfold AD.took; rw [if_pos hf]; rfl)
    have HW : Hid (Calls Tryd.prog 59 #[X.val D.n, .int .i64 ((m : Int) / 32), .int .i64 ((m : Int) % 32), .int .i64 0] w1 (WithP D.n (upd2 (gv D) (m / 32) (m % 32) 0) w1)) := Lib.hid (with_any X D.n (gv D) w1 HX1.out (fun a b ha _ => gv_le HD.out ha b) (m / 32) (m % 32) 0 hi (by omega) (by omega))
    rw [hf]
    clear hf h0 hb hHas
    unfold RG.val at *
    go_wp2_with fail
    refine HW.out.mono ?_
    rintro e w2 ⟨Y, rfl, hy, hk2⟩
    have b1 := hk2.blk HB1'.out id
    have c1' := b1.cell (i := 0) rfl
    have f1' := b1.free 0
    have hyf := hy.congr fun a ha b hb => gv_less HH.out a b hb
    obtain ⟨r1, r2, r3⟩ := rg_result hyf b1 (HK1.out.trans hk2) (Nat.le_succ _) (.slice (some ⟨Y.O, 0, none⟩) D.n Y.cap)
    have R1 := Lib.hid r1
    have R3 := Lib.hid r3
    clear hy hk2 b1 hyf r1 r3
    unfold RG.val
    go_wp2_with fail
    refine bodyPost_ret (v := .tuple #[.agg #[.slice (some ⟨Y.O, 0, none⟩) D.n Y.cap], .int .i64 0]) (by simp [results, Tryd.f28, go_sem, r2]) rfl ⟨Y, by rw [HF.out]; rfl, ?_, R3.out⟩
    rw [HT.out]
    exact R1.out
  · have HT : Hid (D.took x = D) := Lib.hid (by unfold AD.took; rw [if_neg hf])
    obtain ⟨r1, r2, r3⟩ := rg_result HX1.out HB1'.out HK1.out (Nat.le_succ _) (.slice (some ⟨X.O, 0, none⟩) D.n X.cap)
    have R1 := Lib.hid r1
    have R3 := Lib.hid r3
    have hq : (D.find x == 0) = false := by simpa using hf
    obtain ⟨fi, hfi⟩ : ∃ fi, fi = D.find x := ⟨_, rfl⟩
    have HFI := Lib.hid hfi
    rw [if_neg hf]
    rw [← hfi] at hq ⊢
    clear hf r1 r3 hfi
    go_wp2_with fail
    refine bodyPost_ret (v := .tuple #[.agg #[.slice (some ⟨X.O, 0, none⟩) D.n X.cap], .int .i64 fi]) (by simp [results, Tryd.f28, go_sem, r2]) rfl ⟨X, by rw [HFI.out]; rfl, ?_, R3.out⟩
    rw [HT.out]
    exact R1.out
end Go.Proofs.YthnagihgjenimaaDoor
