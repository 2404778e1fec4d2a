/- icehouseref01: Number; octet: the reader. -/
import Derived.Test.YtjiammhmeliogaaOctet2
namespace Go.Proofs.Ytjiammhmeliogaa
open Go.RowKit
set_option linter.unusedVariables false
set_option linter.unusedSimpArgs false

def Byte (z : Int) : Prop := 0 ≤ z ∧ z ≤ 255
theorem num_rev (l : List Int) : ∀ n, l.length = n → (∀ b ∈ l, Byte b) → 0 ≤ num l ∧ num l < 256 ^ n := by
  intro n
  induction n generalizing l with
  | zero =>
    intro h _
    have : l = [] := List.eq_nil_of_length_eq_zero h
    subst this
    simp [num]
  | succ n ih =>
    intro h hb
    rcases List.eq_nil_or_concat l with rfl | ⟨m, b, rfl⟩
    · simp at h
    · rw [List.concat_eq_append] at h hb ⊢
      have h1 := ih m (by simpa using h) fun c hc => hb c (List.mem_append_left _ hc)
      have h2 := hb b (by simp)
      rw [num_snoc, Int.pow_succ]
      have : (num m) * 256 ≤ (256 ^ n - 1) * 256 := Int.mul_le_mul_of_nonneg_right (by omega) (by omega)
      rw [Int.sub_mul] at this
      unfold Byte at h2
      omega
theorem num_take {l : List Int} {t : Nat} (h : t < l.length) : num (l.take (t + 1)) = num (l.take t) * 256 + l.getD t 0 := by
  rw [List.take_succ_eq_append_getElem h, num_snoc, List.getD_eq_getElem?_getD, List.getElem?_eq_getElem h]
  rfl
theorem num_small {l : List Int} {t : Nat} (ht : t ≤ 7) (hl : t ≤ l.length) (hb : ∀ b ∈ l, Byte b) : 0 ≤ num (l.take t) ∧ num (l.take t) ≤ 72057594037927935 := by
  obtain ⟨h1, h2⟩ := num_rev (l.take t) t (by simp; omega) fun b h => hb b (List.mem_of_mem_take h)
  refine ⟨h1, ?_⟩
  have h3 : (256 : Int) ^ t ≤ 256 ^ 7 := by
    have := Nat.pow_le_pow_right (n := 256) (by omega) ht
    have e : ((256 ^ t : Nat) : Int) = 256 ^ t := by simp
    have e2 : ((256 ^ 7 : Nat) : Int) = 256 ^ 7 := by simp
    omega
  have e : (256 : Int) ^ 7 = 72057594037927936 := by decide
  omega
theorem byte_at {l : List Int} {t : Nat} (h : t < l.length) (hb : ∀ b ∈ l, Byte b) : Byte (l.getD t 0) := by
  rw [List.getD_eq_getElem?_getD, List.getElem?_eq_getElem h]
  exact hb _ (List.getElem_mem h)
set_option maxRecDepth 100000 in
set_option maxHeartbeats 1000000 in
theorem rnumber_any (a : Option Addr) (n c : Nat) (xs : List Int) (w : World) (h : Row .u8 w a n xs) (hb : ∀ b ∈ xs, Byte b) (hn : n ≤ 8) : Calls Try.prog 80 #[.slice a n c] w fun e w' => e = .returned (.int .u64 (num xs)) ∧ w = w' := by
  have HR := Lib.hid h
  have HB := Lib.hid hb
  clear h hb
  go_enter Try.func80, Try.ntmps80
  go_wp2_with fail
  go_loopw [3, 4] (fun v i wr => ∃ t : Nat, t ≤ n ∧ i = .int .i64 t ∧ v = .int .u64 (num (xs.take t)) ∧ w = wr) (fun _ i _ => n - (intOf i).toNat)
  case atStart => exact ⟨0, Nat.zero_le _, rfl, rfl, rfl⟩
  case round =>
    obtain ⟨t, ht, rfl, rfl, rfl⟩ := hrel
    have hl := HR.out.1
    by_cases hlt : t < n
    · obtain ⟨ad, rfl, hcell⟩ := HR.out.2 t hlt
      obtain ⟨b1, b2⟩ := byte_at (l := xs) (t := t) (by omega) HB.out
      obtain ⟨n1, n2⟩ := num_small (l := xs) (t := t) (by omega) (by omega) HB.out
      have HT := Lib.hid (num_take (l := xs) (t := t) (by omega))
      obtain ⟨z, hz⟩ : ∃ z, z = xs.getD t 0 := ⟨_, rfl⟩
      obtain ⟨v, hv⟩ : ∃ v, v = num (xs.take t) := ⟨_, rfl⟩
      rw [← hz] at hcell HT b1 b2
      rw [← hv] at HT n1 n2 ⊢
      clear hz hv
      go_wp2_with fail
      go_roundw
      case rel => exact ⟨t + 1, by omega, by go_num, by rw [HT.out], trivial⟩
      case measure => simp [intOf]; omega
    · obtain rfl : n = t := by omega
      have HE : Hid (xs.take n = xs) := Lib.hid (List.take_of_length_le (by omega))
      go_wp2_with fail
      go_ret
      exact ⟨by rw [HE.out]; rfl, rfl⟩
/-- A reader of the bytes bs, at k. -/
structure RdrAt (w : World) (B : Nat) (bs : List Int) (g cap k : Nat) : Prop where
  obj : Blk w B 138 [.slice (some ⟨g, 0, none⟩) bs.length cap, .int .i64 k, .int .i64 0]
  row : w.ownsRow 0 5 1 (.slice (some ⟨g, 0, none⟩) bs.length cap) bs.length (bk bs)
section
variable {w w' : World} {B : Nat} {bs : List Int} {g cap k : Nat}
theorem RdrAt.quiet (h : RdrAt w B bs g cap k) (hk : Keeps (fun _ => False) w w') : RdrAt w' B bs g cap k := ⟨hk.blk h.obj id, hk.own h.row fun _ _ => id⟩
theorem RdrAt.fits (h : RdrAt w B bs g cap k) : bs.length ≤ cap ∧ cap ≤ maxLen := by
  obtain ⟨a, c, e, h1, h2⟩ := own_slice h.row
  injection e with e1 e2 e3
  subst e3
  exact ⟨h1, h2⟩
theorem RdrAt.move (h : RdrAt w B bs g cap k) (k' : Nat) : RdrAt (w.setCell ⟨B, 1, none⟩ (.int .i64 k')) B bs g cap k' ∧ Keeps (fun z => z = B) w (w.setCell ⟨B, 1, none⟩ (.int .i64 k')) := by
  have hk : Keeps (fun z => z = B) w (w.setCell ⟨B, 1, none⟩ (.int .i64 k')) := (Keeps.refl (fun z => z = B) w).store (p := ⟨B, 1, none⟩) (.inl rfl) _
  refine ⟨⟨h.obj.store 1 _, hk.own h.row fun z hz e => own_ne_blk h.obj h.row (by decide) (by rw [hz]; exact congrArg some e)⟩, hk⟩
theorem RdrAt.part {j : Nat} (h : RdrAt w B bs g cap j) {n : Nat} (hn : k + n ≤ bs.length) : Row .u8 w (some ⟨g, k, none⟩) n ((bs.drop k).take n) := by
  refine ⟨by simp; omega, fun i hi => ⟨_, rfl, ?_⟩⟩
  obtain ⟨_, a, c, e, _, _, hc⟩ := own_read1 h.row
  obtain ⟨g', e', _, _, hcell⟩ := hc (k + i) (by omega)
  cases e
  cases e'
  have e2 : ((bs.drop k).take n).getD i 0 = bs.getD (k + i) 0 := by simp [List.getD_eq_getElem?_getD, hi]
  have e3 : (⟨g, k, none⟩ : Addr).add i = ⟨g, k + i, none⟩ := by unfold Addr.add; split <;> simp_all
  rw [e3, hcell, bk_at (by omega), e2]
end
def ReadrP (bs : List Int) (w : World) (e : Ending) (w' : World) : Prop := ∃ B g cap, e = .returned (.pointer (some ⟨B, 0, none⟩)) ∧ RdrAt w' B bs g cap 0 ∧ w.heap.size ≤ B ∧ Keeps (fun _ => False) w w'
set_option maxHeartbeats 1000000 in
theorem oread_any (a : Option Addr) (n c : Nat) (xs : List Int) (w : World) (h : Row .u8 w a n xs) (hn1 : 1 ≤ n) (hn : n ≤ 4096) : Calls Try.prog 77 #[.slice a n c] w (ReadrP xs w) := by
  have HC := Lib.hid (clone5 a n c xs w h (by omega))
  have HL := Lib.hid h.1
  clear h
  go_enter Try.func77, Try.ntmps77
  go_wp2_with fail
  refine HC.out.mono ?_
  rintro e w1 ⟨rv, rfl, ho, hk⟩
  obtain ⟨g, cap, rfl, _⟩ := own_some ho (by rw [HL.out]; omega)
  have HO := Lib.hid ho
  have HK := Lib.hid hk
  clear ho hk
  go_wp2_with fail
  go_ret
  exact ⟨_, g, cap, rfl, ⟨Blk.new w1 138 [.slice (some ⟨g, 0, none⟩) xs.length cap, .int .i64 0, .int .i64 0], own_base (HO.out.alloc _) (Nat.zero_le _)⟩, HK.out.size, HK.out.alloc _⟩
def TakenP (bs : List Int) (B g cap k n : Nat) (w : World) (e : Ending) (w' : World) : Prop := e = .returned (.slice (some ⟨g, k, none⟩) n (cap - k)) ∧ RdrAt w' B bs g cap (k + n) ∧ Keeps (fun z => z = B) w w'
set_option maxRecDepth 100000 in
set_option maxHeartbeats 2000000 in
theorem otake_any (B g cap k n : Nat) (bs : List Int) (w : World) (h : RdrAt w B bs g cap k) (hn : k + n ≤ bs.length) (hl : bs.length ≤ 4096) (hn1 : 1 ≤ n) : Calls Try.prog 92 #[.pointer (some ⟨B, 0, none⟩), .int .i64 (n : Nat)] w (TakenP bs B g cap k n w) := by
  obtain ⟨hcap, hmx⟩ := h.fits
  unfold maxLen at hmx
  have c0 := h.obj.cell (i := 0) rfl
  have c1 := h.obj.cell (i := 1) rfl
  have c2 := h.obj.cell (i := 2) rfl
  have f1 := h.obj.free 1
  have HM := Lib.hid (h.move (k + n))
  have HH := Lib.hid h
  obtain ⟨L, hL⟩ : ∃ L, L = bs.length := ⟨_, rfl⟩
  have m1 := HM.out.1.obj.cell (i := 1) rfl
  have m0 := HM.out.1.obj.cell (i := 0) rfl
  rw [← hL] at c0 hcap hn hl m0
  have HLL := Lib.hid hL
  have hq : decide ((L : Int) - (k : Int) < (n : Int)) = false := by simp; omega
  have hq0 : decide ((n : Int) < 0) = false := by simp
  clear h hL
  go_enter Try.func92, Try.ntmps92
  go_wp2_with fail
  go_quiet (fail)
  go_wp2_with fail
  obtain ⟨W7, hW7⟩ : ∃ W7, W7 = (w.drewN nq).setCell ⟨B, 1, none⟩ (.int .i64 ((k : Int) + (n : Int))) := ⟨_, rfl⟩
  have k1 : Keeps (fun _ => False) w (w.drewN nq) := (Keeps.refl _ _).drewN _
  have hm7 := (HH.out.quiet k1).move (k + n)
  rw [show ((k + n : Nat) : Int) = (k : Int) + (n : Int) by omega, ← hW7] at hm7
  rw [← hW7]
  have d0 := hm7.1.obj.cell (i := 0) rfl
  have d1 := hm7.1.obj.cell (i := 1) rfl
  rw [← HLL.out] at d0
  have HM7 := Lib.hid hm7
  have HK7 : Hid (Keeps (fun z => z = B) w W7) := Lib.hid ((k1.mono fun _ _ h => h.elim).trans hm7.2)
  clear hW7 hm7 m0 m1 c0 c1 c2 f1 k1 HM
  have e3 : (0 : Int) ≤ (k : Int) := by omega
  have hck : ¬ cap = k := by omega
  have e4 : (k : Int) ≤ (k : Int) + (n : Int) := by omega
  have e5 : (k : Int) + (n : Int) ≤ (cap : Int) := by omega
  go_quiet (fail)
  go_wp2_with fail
  go_ret
  refine ⟨?_, HM7.out.1.quiet ((Keeps.refl _ _).drewN _), HK7.out.drewN _⟩
  show Ending.returned (.slice (some ⟨g, k, none⟩) (k + n - k) (cap - k)) = _
  rw [show k + n - k = n by omega]
/-- The next n bytes, in a row of their own. -/
def RawP (bs : List Int) (B g cap k n : Nat) (w : World) (e : Ending) (w' : World) : Prop := ∃ rv, e = .returned rv ∧ w'.ownsRow w.heap.size 5 1 rv n (bk ((bs.drop k).take n)) ∧ RdrAt w' B bs g cap (k + n) ∧ Keeps (fun z => z = B) w w'
set_option maxHeartbeats 1000000 in
theorem raw_any (B g cap k n : Nat) (bs : List Int) (w : World) (h : RdrAt w B bs g cap k) (hn : k + n ≤ bs.length) (hl : bs.length ≤ 4096) (hn1 : 1 ≤ n) : Calls Try.prog 91 #[.pointer (some ⟨B, 0, none⟩), .int .i64 (n : Nat)] w (RawP bs B g cap k n w) := by
  have HT := Lib.hid (otake_any B g cap k n bs w h hn hl hn1)
  have HN := Lib.hid hn
  have HL : Hid (((bs.drop k).take n).length = n) := Lib.hid (by simp; omega)
  clear h
  go_enter Try.func91, Try.ntmps91
  go_wp2_with fail
  refine HT.out.mono ?_
  rintro e w1 ⟨rfl, h1, hk⟩
  have HC := Lib.hid (clone5 (some ⟨g, k, none⟩) n (cap - k) _ w1 (h1.part HN.out) (by omega))
  have H1 := Lib.hid h1
  have HK := Lib.hid hk
  clear h1 hk
  go_wp2_with fail
  refine HC.out.mono ?_
  rintro e w2 ⟨rv, rfl, ho, hk2⟩
  rw [HL.out] at ho
  have HO := Lib.hid ho
  have HK2 := Lib.hid hk2
  clear ho hk2
  go_wp2_with fail
  go_ret
  exact ⟨_, rfl, own_base HO.out HK.out.size, H1.out.quiet HK2.out, HK.out.trans (HK2.out.mono fun _ _ h => h.elim)⟩
theorem or_low (a c : Int) (ha : 0 ≤ a) (ha2 : a ≤ 72057594037927935) (hc : 0 ≤ c) (hc2 : c ≤ 255) : bits .or .u64 (a * 256) c = a * 256 + c := by
  obtain ⟨x, rfl⟩ := Int.eq_ofNat_of_zero_le ha
  obtain ⟨y, rfl⟩ := Int.eq_ofNat_of_zero_le hc
  have e1 : (x : Int) * 256 = ((x * 256 : Nat) : Int) := by omega
  rw [e1]
  show IntKind.u64.wrap ((BitVec.ofInt 64 ((x * 256 : Nat) : Int) ||| BitVec.ofInt 64 (y : Int)).toNat : Int) = _
  rw [BitVec.toNat_or, BitVec.ofInt_natCast, BitVec.ofInt_natCast, BitVec.toNat_ofNat, BitVec.toNat_ofNat, Nat.mod_eq_of_lt (by omega), Nat.mod_eq_of_lt (by omega), IntKind.wrap_u64]
  have e2 : x * 256 ||| y = x * 256 + y := by
    have := Nat.shiftLeft_add_eq_or_of_lt (i := 8) (b := y) (by omega) x
    rw [Nat.shiftLeft_eq] at this
    exact this.symm
  rw [e2]
  omega
/-- The next number. -/
def NumP (bs : List Int) (B g cap k n : Nat) (w : World) (e : Ending) (w' : World) : Prop := e = .returned (.int .u64 (part bs k n)) ∧ RdrAt w' B bs g cap (k + n) ∧ Keeps (fun z => z = B) w w'
set_option maxRecDepth 100000 in
set_option maxHeartbeats 1000000 in
theorem onumber_any (B g cap k n : Nat) (bs : List Int) (w : World) (h : RdrAt w B bs g cap k) (hb : ∀ b ∈ bs, Byte b) (hn : k + n ≤ bs.length) (hl : bs.length ≤ 4096) (hn1 : 1 ≤ n) (hn8 : n ≤ 8) : Calls Try.prog 90 #[.pointer (some ⟨B, 0, none⟩), .int .i64 (n : Nat)] w (NumP bs B g cap k n w) := by
  have HT := Lib.hid (raw_any B g cap k n bs w h hn hl hn1)
  obtain ⟨xs, hxs⟩ : ∃ xs, xs = (bs.drop k).take n := ⟨_, rfl⟩
  have hlen : xs.length = n := by rw [hxs]; simp; omega
  have HB : Hid (∀ b ∈ xs, Byte b) := Lib.hid (fun b hb' => hb b (by rw [hxs] at hb'; exact List.mem_of_mem_drop (List.mem_of_mem_take hb')))
  have HP : Hid (part bs k n = num xs) := Lib.hid (by rw [hxs]; rfl)
  unfold RawP at HT
  rw [← hxs] at HT
  clear h hb hxs hn
  go_enter Try.func90, Try.ntmps90
  go_wp2_with fail
  refine HT.out.mono ?_
  rintro e w1 ⟨rv, rfl, ho, h1, hk⟩
  rw [← hlen] at ho
  obtain ⟨a, c, rfl, hac, hcm, hrow⟩ := own_bytes ho
  have HR := Lib.hid hrow
  have H1 := Lib.hid h1
  have HK := Lib.hid hk
  unfold maxLen at hcm
  clear ho h1 hk hrow
  go_wp2_with fail
  go_loopw [5, 12] (fun v i wr => ∃ t : Nat, t ≤ xs.length ∧ i = .int .i64 t ∧ v = .int .u64 (num (xs.take t)) ∧ w1 = wr) (fun _ i _ => xs.length - (intOf i).toNat)
  case atStart => exact ⟨0, Nat.zero_le _, rfl, rfl, rfl⟩
  case round =>
    obtain ⟨t, ht, rfl, rfl, rfl⟩ := hrel
    by_cases hlt : t < xs.length
    · obtain ⟨ad, rfl, hcell⟩ := HR.out.2 t hlt
      obtain ⟨b1, b2⟩ := byte_at hlt HB.out
      obtain ⟨n1, n2⟩ := num_small (l := xs) (t := t) (by omega) (by omega) HB.out
      have HT2 := Lib.hid (num_take hlt)
      obtain ⟨z, hz⟩ : ∃ z, z = xs.getD t 0 := ⟨_, rfl⟩
      obtain ⟨v, hv⟩ : ∃ v, v = num (xs.take t) := ⟨_, rfl⟩
      rw [← hz] at hcell HT2 b1 b2
      rw [← hv] at HT2 n1 n2 ⊢
      have HOR := Lib.hid (or_low v z n1 n2 b1 b2)
      clear hz hv
      go_wp2_with fail
      go_roundw
      case rel => exact ⟨t + 1, by omega, by go_num, by rw [HOR.out, HT2.out], trivial⟩
      case measure => simp [intOf]; omega
    · obtain ⟨L, hL⟩ : ∃ L, L = xs.length := ⟨_, rfl⟩
      have htl : t = L := by omega
      have HE : Hid (xs.take t = xs) := Lib.hid (List.take_of_length_le (by omega))
      rw [← hL] at hlt ⊢
      subst htl
      go_wp2_with fail
      go_ret
      exact ⟨by rw [HE.out, HP.out]; rfl, H1.out, HK.out⟩
def U16P (bs : List Int) (B g cap k : Nat) (w : World) (e : Ending) (w' : World) : Prop := e = .returned (.int .u16 (part bs k 2)) ∧ RdrAt w' B bs g cap (k + 2) ∧ Keeps (fun z => z = B) w w'
theorem part_range {bs : List Int} {k n : Nat} (hb : ∀ b ∈ bs, Byte b) (hn : k + n ≤ bs.length) : 0 ≤ part bs k n ∧ part bs k n < 256 ^ n :=
  num_rev _ n (by simp; omega) fun b h => hb b (List.mem_of_mem_drop (List.mem_of_mem_take h))
theorem ou64_any (B g cap k : Nat) (bs : List Int) (w : World) (h : RdrAt w B bs g cap k) (hb : ∀ b ∈ bs, Byte b) (hn : k + 8 ≤ bs.length) (hl : bs.length ≤ 4096) : Calls Try.prog 78 #[.pointer (some ⟨B, 0, none⟩)] w (NumP bs B g cap k 8 w) := by
  have HN := Lib.hid (onumber_any B g cap k 8 bs w h hb hn hl (by omega) (by omega))
  clear h hb
  go_enter Try.func78, Try.ntmps78
  go_wp2_with fail
  refine HN.out.mono ?_
  rintro e w1 ⟨rfl, h1, hk⟩
  have H1 := Lib.hid h1
  have HK := Lib.hid hk
  clear h1 hk
  go_wp2_with fail
  go_ret
  exact ⟨rfl, H1.out, HK.out⟩
theorem ou16_any (B g cap k : Nat) (bs : List Int) (w : World) (h : RdrAt w B bs g cap k) (hb : ∀ b ∈ bs, Byte b) (hn : k + 2 ≤ bs.length) (hl : bs.length ≤ 4096) : Calls Try.prog 79 #[.pointer (some ⟨B, 0, none⟩)] w (U16P bs B g cap k w) := by
  have HN := Lib.hid (onumber_any B g cap k 2 bs w h hb hn hl (by omega) (by omega))
  obtain ⟨r1, r2⟩ := part_range hb hn
  have r3 : part bs k 2 ≤ 65535 := by have : (256 : Int) ^ 2 = 65536 := by decide
                                      omega
  unfold NumP U16P at *
  generalize part bs k 2 = x at *
  clear h hb r2
  go_enter Try.func79, Try.ntmps79
  go_wp2_with fail
  refine HN.out.mono ?_
  rintro e w1 ⟨rfl, h1, hk⟩
  have H1 := Lib.hid h1
  have HK := Lib.hid hk
  clear h1 hk
  go_wp2_with fail
  go_ret
  exact ⟨rfl, H1.out, HK.out⟩
end Go.Proofs.Ytjiammhmeliogaa
