/- super: may, Encode. -/
import Derived.Test.YtjiammhmeliogaaOctet3
import Derived.Test.YtjiammhmeliogaaHeld
import Derived.Laws.CopyOwn
import Derived.Lib.SlBytesConst
import Derived.Deep.RegionLaw
import Derived.Deep.RegionWith
import Derived.Deep.DeepCutAuto
namespace Go.Proofs.Ytjiammhmeliogaa
open Go.RowKit
set_option linter.unusedVariables false
set_option linter.unusedSimpArgs false
attribute [local go_sem ↓] exec_load27 exec_store27 exec_new27 exec_alloc27 exec_build27 zeroValue27
attribute [local go_sem] padr_some rowAt_drew hasRow_drew mayRow_drew run_cells27

def SX.cells (x : SX) : List Value := [.int .i64 x.sg, .int .i64 x.sc, .int .u64 x.ge, .int .u64 x.re, .int .u64 x.rs, .int .u64 x.fl]
def SX.val (x : SX) : Value := .agg x.cells.toArray
def BoolP (b : Bool) (w : World) (e : Ending) (w' : World) : Prop := e = .returned (.bool b) ∧ Keeps (fun _ => False) w w'

theorem may_any (x : SX) (w : World) : Calls Try.prog 73 #[x.val] w (BoolP x.mayB w) := by
  have hk : Keeps (fun _ => False) w (w.alloc (.cells x.cells.toArray 71)) := (Keeps.refl _ _).alloc _
  unfold SX.mayB SX.val SX.cells at *
  have HK := Lib.hid hk
  clear hk
  by_cases h1 : 4 ≤ x.sg
  · by_cases h2 : x.sg ≤ 16
    · by_cases h3 : 24 ≤ x.sc
      · by_cases h4 : x.sc ≤ 64
        · have e1 : decide (4 ≤ x.sg) = true := by simpa using h1
          have e2 : decide (x.sg ≤ 16) = true := by simpa using h2
          have e3 : decide (24 ≤ x.sc) = true := by simpa using h3
          have e4 : decide (x.sc ≤ 64) = true := by simpa using h4
          rw [e1, e2, e3, e4]
          clear h1 h2 h3 h4
          go_enter Try.func73, Try.ntmps73
          go_wp2
          go_ret
          exact ⟨by simp, HK.out⟩
        · have e4 : decide (x.sc ≤ 64) = false := by simpa using h4
          have e1 : decide (4 ≤ x.sg) = true := by simpa using h1
          have e2 : decide (x.sg ≤ 16) = true := by simpa using h2
          have e3 : decide (24 ≤ x.sc) = true := by simpa using h3
          rw [e1, e2, e3, e4]
          clear h1 h2 h3 h4
          go_enter Try.func73, Try.ntmps73
          go_wp2
          go_ret
          exact ⟨by simp, HK.out⟩
      · have e3 : decide (24 ≤ x.sc) = false := by simpa using h3
        have e1 : decide (4 ≤ x.sg) = true := by simpa using h1
        have e2 : decide (x.sg ≤ 16) = true := by simpa using h2
        rw [e1, e2, e3]
        clear h1 h2 h3
        go_enter Try.func73, Try.ntmps73
        go_wp2
        go_ret
        exact ⟨by simp, HK.out⟩
    · have e2 : decide (x.sg ≤ 16) = false := by simpa using h2
      have e1 : decide (4 ≤ x.sg) = true := by simpa using h1
      rw [e1, e2]
      clear h1 h2
      go_enter Try.func73, Try.ntmps73
      go_wp2
      go_ret
      exact ⟨by simp, HK.out⟩
  · have e1 : decide (4 ≤ x.sg) = false := by simpa using h1
    rw [e1]
    clear h1
    go_enter Try.func73, Try.ntmps73
    go_wp2
    go_ret
    exact ⟨by simp, HK.out⟩
theorem rmay_any (x : SX) (w : World) : Calls Try.prog 40 #[x.val] w (BoolP x.mayB w) := by
  have hk : Keeps (fun _ => False) w (w.alloc (.cells x.cells.toArray 71)) := (Keeps.refl _ _).alloc _
  unfold SX.mayB SX.val SX.cells at *
  have HK := Lib.hid hk
  clear hk
  by_cases h1 : 4 ≤ x.sg
  · by_cases h2 : x.sg ≤ 16
    · by_cases h3 : 24 ≤ x.sc
      · by_cases h4 : x.sc ≤ 64
        · have e1 : decide (4 ≤ x.sg) = true := by simpa using h1
          have e2 : decide (x.sg ≤ 16) = true := by simpa using h2
          have e3 : decide (24 ≤ x.sc) = true := by simpa using h3
          have e4 : decide (x.sc ≤ 64) = true := by simpa using h4
          rw [e1, e2, e3, e4]
          clear h1 h2 h3 h4
          go_enter Try.func40, Try.ntmps40
          go_wp2
          go_ret
          exact ⟨by simp, HK.out⟩
        · have e4 : decide (x.sc ≤ 64) = false := by simpa using h4
          have e1 : decide (4 ≤ x.sg) = true := by simpa using h1
          have e2 : decide (x.sg ≤ 16) = true := by simpa using h2
          have e3 : decide (24 ≤ x.sc) = true := by simpa using h3
          rw [e1, e2, e3, e4]
          clear h1 h2 h3 h4
          go_enter Try.func40, Try.ntmps40
          go_wp2
          go_ret
          exact ⟨by simp, HK.out⟩
      · have e3 : decide (24 ≤ x.sc) = false := by simpa using h3
        have e1 : decide (4 ≤ x.sg) = true := by simpa using h1
        have e2 : decide (x.sg ≤ 16) = true := by simpa using h2
        rw [e1, e2, e3]
        clear h1 h2 h3
        go_enter Try.func40, Try.ntmps40
        go_wp2
        go_ret
        exact ⟨by simp, HK.out⟩
    · have e2 : decide (x.sg ≤ 16) = false := by simpa using h2
      have e1 : decide (4 ≤ x.sg) = true := by simpa using h1
      rw [e1, e2]
      clear h1 h2
      go_enter Try.func40, Try.ntmps40
      go_wp2
      go_ret
      exact ⟨by simp, HK.out⟩
  · have e1 : decide (4 ≤ x.sg) = false := by simpa using h1
    rw [e1]
    clear h1
    go_enter Try.func40, Try.ntmps40
    go_wp2
    go_ret
    exact ⟨by simp, HK.out⟩
/-- The two blocks at the head: what is known, the superblock to come. -/
theorem enc_start (w : World) (x : SX) : Blk ((w.alloc (.cells x.cells.toArray 71)).alloc (.cells (bk zb).toArray 27)) w.heap.size 71 x.cells ∧ Blk ((w.alloc (.cells x.cells.toArray 71)).alloc (.cells (bk zb).toArray 27)) (w.heap.size + 1) 27 (bk zb) ∧ Keeps (fun _ => False) w ((w.alloc (.cells x.cells.toArray 71)).alloc (.cells (bk zb).toArray 27)) := by
  refine ⟨(Blk.new w 71 x.cells).alloc _, ?_, ((Keeps.refl _ w).alloc _).alloc _⟩
  have := Blk.new (w.alloc (.cells x.cells.toArray 71)) 27 (bk zb)
  rwa [World.size_alloc] at this
theorem blkRow {W : World} {b t : Nat} {cs : List Value} (h : Blk W b t cs) {n : Nat} (hn : cs.length = n) : HasRow W b 0 n ∧ rowAt W b 0 n = cs ∧ MayRow W b 0 n := by
  subst hn
  refine ⟨fun j hj => ?_, ?_, fun j hj => ?_⟩
  · rw [Nat.zero_add, h.cell (List.getElem?_eq_getElem hj)]; rfl
  · unfold rowAt
    apply List.ext_getElem
    · simp
    · intro j h1 h2
      simp [h.cell (List.getElem?_eq_getElem h2)]
  · rw [Nat.zero_add]
    exact ⟨by rw [h.cell (List.getElem?_eq_getElem hj)]; rfl, h.free j⟩
theorem enc_fin {w w1 : World} {B : Nat} {cs : List Value} (hk : Keeps (fun _ => False) w w1) (hB : w.heap.size ≤ B) : Keeps (fun _ => False) w (w1.setCells B 0 cs) :=
  Keeps.mono (S := fun k => k = B) ((hk.mono fun _ _ h => h.elim).trans (setCells_keeps B cs 0 w1)) fun k hk' e => by have e : k = B := e; omega
theorem row_mark (w : World) (l : List Int) (fr : Nat × Nat) : Row .u8 (w.alloc (.cells (bk l).toArray 5 fr)) (some ⟨w.heap.size, 0, none⟩) l.length l := by
  refine ⟨rfl, fun i hi => ⟨_, rfl, ?_⟩⟩
  rw [add0, World.cell?_alloc_mark]
  have := bk_at hi
  simpa using this
theorem size5 : (Try.prog.info? 5).map (·.size) = some 1 := by kernel_rfl
theorem src_of {w : World} {a : Option Addr} {n g off : Nat} {l : List Int} (h : Row .u8 w a n l) (hl : l.length = n) : 0 < (bk l).length → (some (⟨g, off, none⟩ : Addr)) = some ⟨g, off, none⟩ ∧ ∃ ad, a = some ad ∧ ∀ j v, (bk l)[j]? = some v → w.cell? (ad.add j) = some v := by
  intro h0
  rw [bk_len, hl] at h0
  obtain ⟨ad, rfl, _⟩ := h.2 0 h0
  exact ⟨rfl, ad, rfl, row_new h⟩
theorem fnv_nat (l : List Int) : ∃ h : Nat, fnv fnv0 l = (h : Int) ∧ h ≤ 18446744073709551615 := by
  obtain ⟨r1, r2⟩ := fnv_range l
  generalize fnv fnv0 l = y at *
  obtain ⟨h, rfl⟩ := Int.eq_ofNat_of_zero_le r1
  exact ⟨h, rfl, by omega⟩
theorem splice56 {Q H : List Int} (hQ : Q.length = 56) (hH : H.length = 8) : splice (bk (Q ++ List.replicate 8 0)) 56 (bk H) = bk (Q ++ H) := by
  unfold splice
  rw [bk_len, hH, bk_app, bk_app, List.take_left' (by rw [bk_len, hQ]), List.drop_of_length_le (by simp [bk_len, hQ]), List.append_nil]
theorem one_bk (l : List Int) : oneAll (bk l).toArray = true := by simp [oneAll, bk, Value.oneCell']
theorem len52 {S : List Int} (h : S.length = 52) : (bk S).length = Nat.min 52 64 := by rw [bk_len, h]; decide
theorem fit52 {S : List Int} (h : S.length = 52) : 0 + (bk S).length ≤ (bk zb).length := by rw [bk_len, bk_len, zb_len, h]; omega
theorem splice0 {S : List Int} (h : S.length = 52) : splice (bk zb) 0 (bk S) = bk ((S ++ [0, 0, 0, 0]) ++ List.replicate 8 0) := by
  unfold splice
  rw [bk_len, h]
  simp [bk, zb]
theorem row_pre {w : World} {g t : Nat} {Q R : List Int} {n : Nat} (h : Blk w g t (bk (Q ++ R))) (hQ : Q.length = n) : Row .u8 w (some ⟨g, 0, none⟩) n Q := by
  subst hQ
  refine ⟨rfl, fun i hi => ⟨_, rfl, ?_⟩⟩
  rw [add0]
  refine h.cell ?_
  rw [bk_at (by simp; omega)]
  simp [List.getD_eq_getElem?_getD, List.getElem?_append_left hi]
theorem pre_step {P : List Int} {l : List Nat} {q z : Nat} (h : l[q]? = some z) : (P ++ (l.take q).flatMap fun (z : Nat) => hi (z : Int) 8) ++ hi (z : Int) 8 = P ++ (l.take (q + 1)).flatMap fun (z : Nat) => hi (z : Int) 8 := by
  obtain ⟨hq, rfl⟩ := List.getElem?_eq_some_iff.1 h
  rw [List.take_succ_eq_append_getElem hq, List.flatMap_append, ← List.append_assoc]
  simp
theorem idx0 (a b c d : Int) (w : World) : (Instr.index 123 (.agg #[.int .u64 a, .int .u64 b, .int .u64 c, .int .u64 d]) (.int .i64 0)).run Try.prog w = .ok (.int .u64 a) w := by kernel_rfl
theorem idx1 (a b c d : Int) (w : World) : (Instr.index 123 (.agg #[.int .u64 a, .int .u64 b, .int .u64 c, .int .u64 d]) (.int .i64 1)).run Try.prog w = .ok (.int .u64 b) w := by kernel_rfl
theorem idx2 (a b c d : Int) (w : World) : (Instr.index 123 (.agg #[.int .u64 a, .int .u64 b, .int .u64 c, .int .u64 d]) (.int .i64 2)).run Try.prog w = .ok (.int .u64 c) w := by kernel_rfl
theorem idx3 (a b c d : Int) (w : World) : (Instr.index 123 (.agg #[.int .u64 a, .int .u64 b, .int .u64 c, .int .u64 d]) (.int .i64 3)).run Try.prog w = .ok (.int .u64 d) w := by kernel_rfl
theorem wrap_u16 {x : Nat} (h : x ≤ 65535) : IntKind.u16.wrap (x : Int) = (x : Int) := by
  simp [IntKind.wrap, IntKind.signed, IntKind.bits]
  omega
theorem blk_bytes {w : World} {g : Nat} {l : List Int} (h : Blk w g 5 (bk l)) : Row .u8 w (some ⟨g, 0, none⟩) l.length l :=
  ⟨rfl, fun i hi => ⟨_, rfl, by rw [add0]; exact h.cell (bk_at hi)⟩⟩
/-- What Encode answers. -/
def EncP (x : SX) (t : Int) (w : World) (e : Ending) (w' : World) : Prop := e = .returned (.tuple #[.agg (bk (if x.mayB then sup x t else zb)).toArray, .int .i64 (if x.mayB then 0 else 2)]) ∧ Keeps (fun _ => False) w w'
set_option maxRecDepth 100000 in
set_option maxHeartbeats 4000000 in
theorem encode_any (x : SX) (hx : x.Wf) (t : Int) (ht : u64 t) (w : World) : Calls Try.prog 44 #[x.val, .int .u64 t] w (EncP x t w) := by
  obtain ⟨b0, b1, hk0⟩ := enc_start w x
  obtain ⟨W0, hW0⟩ : ∃ W0, W0 = (w.alloc (.cells x.cells.toArray 71)).alloc (.cells (bk zb).toArray 27) := ⟨_, rfl⟩
  rw [← hW0] at b0 b1 hk0
  have HM := Lib.hid (may_any x W0)
  have HW0 := Lib.hid hW0
  have HB0 := Lib.hid b0
  have HB1 := Lib.hid b1
  have HK0 := Lib.hid hk0
  have q0 := b0.cell (i := 0) rfl
  have q1 := b0.cell (i := 1) rfl
  have q2 := b0.cell (i := 2) rfl
  have q3 := b0.cell (i := 3) rfl
  have q4 := b0.cell (i := 4) rfl
  have q5 := b0.cell (i := 5) rfl
  clear b0 b1 hk0 hW0
  unfold SX.val SX.cells EncP at *
  cases hmb : x.mayB
  · rw [hmb] at HM
    go_enter Try.func44, Try.ntmps44
    go_upto_region 1 with fail
    rw [← HW0.out]
    go_wp2_with fail
    refine HM.out.mono ?_
    rintro e w1 ⟨rfl, hk1⟩
    have b1 := hk1.blk HB1.out id
    obtain ⟨a1, a2, a3⟩ := blkRow b1 (n := 64) (by rw [bk_len, zb_len])
    have HB1' := Lib.hid b1
    have HK1 := Lib.hid (HK0.out.trans hk1)
    have hz1 : oneAll (bk zb).toArray = true := by decide +kernel
    have hzl : (bk zb).length = 64 := by rw [bk_len, zb_len]
    clear hk1 b1
    go_wp2_with fail
    have b2 := blk_over (cs := bk zb) HB1'.out rfl
    refine bodyPost_ret (v := .tuple #[.agg (bk zb).toArray, .int .i64 2]) (result27_38 rfl rfl rfl hzl b2) rfl ⟨by simp, ?_⟩
    exact enc_fin HK1.out (Nat.le_succ _)
  · rw [hmb] at HM
    have hm := (mayB_iff x).1 hmb
    obtain ⟨g1, g2⟩ := hx.ge
    obtain ⟨r1, r2⟩ := hx.re
    obtain ⟨s1, s2⟩ := hx.rs
    obtain ⟨f1, f2⟩ := hx.fl
    obtain ⟨t1, t2⟩ := ht
    obtain ⟨m1, m2, m3, m4, m5⟩ := hm
    have HSU : Hid (sup x t = sup x t) := Lib.hid rfl
    obtain ⟨sg, sc, ge, re, rs, fl⟩ := x
    simp only at *
    obtain ⟨sg, rfl⟩ := Int.eq_ofNat_of_zero_le (show 0 ≤ sg by omega)
    obtain ⟨sc, rfl⟩ := Int.eq_ofNat_of_zero_le (show 0 ≤ sc by omega)
    obtain ⟨ge, rfl⟩ := Int.eq_ofNat_of_zero_le g1
    obtain ⟨re, rfl⟩ := Int.eq_ofNat_of_zero_le r1
    obtain ⟨rs, rfl⟩ := Int.eq_ofNat_of_zero_le s1
    obtain ⟨fl, rfl⟩ := Int.eq_ofNat_of_zero_le f1
    obtain ⟨t, rfl⟩ := Int.eq_ofNat_of_zero_le t1
    have n1 : sg ≤ 16 := by omega
    have n2 : sc ≤ 64 := by omega
    have n3 : ge ≤ 18446744073709551615 := by omega
    have n4 : re ≤ 18446744073709551615 := by omega
    have n5 : rs ≤ 18446744073709551615 := by omega
    have n6 : fl ≤ 18446744073709551615 := by omega
    have n7 : t ≤ 18446744073709551615 := by omega
    clear g1 g2 r1 r2 s1 s2 f1 f2 t1 t2 m1 m2 m3 m4 m5 hx hmb HSU
    go_enter Try.func44, Try.ntmps44
    go_upto_region 1 with fail
    rw [← HW0.out]
    go_wp2_with fail
    refine HM.out.mono ?_
    rintro e w1 ⟨rfl, hk1⟩
    have b0 := hk1.blk HB0.out id
    have b1 := hk1.blk HB1.out id
    have HB0' := Lib.hid b0
    have HB1' := Lib.hid b1
    have HK1 := Lib.hid (HK0.out.trans hk1)
    have hsz1 := hk1.size
    clear hk1 b1 b0 q0 q1 q2 q3 q4 q5
    have kc := fun (w : World) (C : Array Value) (n c : Nat) => Lib.run_convert_bytes_const (P := Try.prog) w 116 5 C n c Try.underlying116 Try.underlying5
    have HPL := Lib.hid (put64_any (some ⟨w1.heap.size, 0, none⟩) 8 8 letters t (w1.alloc (.cells (bk letters).toArray 5 (8, 9))) (row_mark w1 letters (8, 9)) (by omega) n7)
    go_wp2_with fail
    refine HPL.out.mono ?_
    rintro e w2 ⟨rv, rfl, ho2, hk2⟩
    obtain ⟨a2, c2, rfl, hc2, hm2, hr2⟩ := own_bytes ho2
    have hl2 : (letters ++ hi (t : Int) 8).length = 16 := by simp [hi_len, letters]
    rw [hl2] at hc2 hr2 ⊢
    have hkk : Keeps (fun _ => False) w1 w2 := ((Keeps.refl (fun _ => False) w1).alloc _).trans hk2
    have HK2 := Lib.hid hkk
    have HR2 := Lib.hid hr2
    have hb0 := hkk.blk HB0'.out id
    have HB02 := Lib.hid hb0
    have q0 := hb0.cell (i := 0) rfl
    have q1 := hb0.cell (i := 1) rfl
    unfold maxLen at hm2
    clear ho2 hk2 hr2 hkk hb0 kc
    go_upto_region 4 with fail
    go_cut [6] (fun v wx => ∃ a n c, v = .slice a n c ∧ n = 20 ∧ c ≤ 9223372036854775807 ∧ 20 ≤ c ∧ Row .u8 wx a n ((letters ++ hi (t : Int) 8) ++ hi (sg : Int) 2 ++ hi (sc : Int) 2) ∧ Keeps (fun _ => False) w2 wx)
    case first =>
      have HP1 : Hid (∀ W, Keeps (fun _ => False) w2 W → Calls Try.prog 75 #[.slice a2 16 c2, .int .u16 (IntKind.u16.wrap (sg : Int))] W (BytesP ((letters ++ hi (t : Int) 8) ++ hi (sg : Int) 2) W)) := Lib.hid (fun W hW => by
        rw [wrap_u16 (by omega)]
        exact put16_any a2 16 c2 _ sg W (HR2.out.quiet hW) (by omega) (by omega))
      have HKP : Hid (∀ W a n c, Row .u8 W a n ((letters ++ hi (t : Int) 8) ++ hi (sg : Int) 2) → n = 18 → Calls Try.prog 75 #[.slice a n c, .int .u16 (IntKind.u16.wrap (sc : Int))] W (BytesP ((letters ++ hi (t : Int) 8) ++ hi (sg : Int) 2 ++ hi (sc : Int) 2) W)) := Lib.hid (fun W a n c hr hn => by
        rw [wrap_u16 (by omega)]
        exact put16_any a n c _ sc W hr (by omega) (by omega))
      go_region_with (first
        | (go_at_call 75; refine (HP1.out _ (by (repeat (first | exact Keeps.refl _ _ | refine Keeps.drew ?_)))).mono ?_; rintro e w3 ⟨rv3, rfl, ho3, hk3⟩; obtain ⟨a3, c3, rfl, hc3, hm3, hr3⟩ := own_bytes ho3; have hk3' : Keeps (fun _ => False) w2 w3 := (by first | exact hk3 | exact (Keeps.refl (fun _ => False) w2).drew.trans hk3); have q0' := (hk3'.blk HB02.out id).cell (i := 0) rfl; have q1' := (hk3'.blk HB02.out id).cell (i := 1) rfl; have HR3 := Lib.hid hr3; have HK3 := Lib.hid hk3'; clear ho3 hk3 hr3 hk3' hm3)
        | (go_at_call 75; refine (HKP.out _ _ _ _ (HR3.out.quiet (by (repeat (first | exact Keeps.refl _ _ | refine Keeps.drew ?_)))) (by simp [hi_len, letters])).mono ?_; rintro e w4 ⟨rv4, rfl, ho4, hk4⟩; obtain ⟨a4, c4, rfl, hc4, hm4, hr4⟩ := own_bytes ho4; have HR4 := Lib.hid hr4; have HK4 : Hid (Keeps (fun _ => False) w2 w4) := Lib.hid (HK3.out.trans (by first | exact hk4 | exact (Keeps.refl (fun _ => False) _).drew.trans hk4)); clear ho4 hk4 hr4))
      all_goals
        have hc20 : 20 ≤ c4 := by simp [hi_len, letters] at hc4; omega
        unfold maxLen at hm4
        go_wp2_with fail
        go_meet
        exact ⟨a4, _, c4, rfl, by simp [hi_len, letters], by omega, hc20, HR4.out, HK4.out⟩
    case rest =>
      obtain ⟨a5, _, c5, rfl, rfl, hm5, hc5, hr5, hk5⟩ := hcut
      obtain ⟨w5, rfl⟩ : ∃ w5, w5 = wc := ⟨_, rfl⟩
      have HR5 := Lib.hid hr5
      have hb5 := hk5.blk HB02.out id
      have q2 := hb5.cell (i := 2) rfl
      have q3 := hb5.cell (i := 3) rfl
      have q4 := hb5.cell (i := 4) rfl
      have q5 := hb5.cell (i := 5) rfl
      have HK5 := Lib.hid (HK2.out.trans hk5)
      clear hr5 hk5 hb5 q0 q1
      have HPUT : Hid (∀ W a n c (xs : List Int) (z : Nat), Row .u8 W a n xs → n ≤ 64 → z ≤ 18446744073709551615 → Calls Try.prog 74 #[.slice a n c, .int .u64 (z : Nat)] W (BytesP (xs ++ hi z 8) W)) := Lib.hid (fun W a n c xs z h1 h2 h3 => put64_any a n c xs z W h1 (by omega) h3)
      go_wp2_with fail
      go_loopw [6, 36] (fun v i wr => ∃ (q : Nat) (a : Option Addr) (n c : Nat), q ≤ 4 ∧ i = .int .i64 q ∧ v = .slice a n c ∧ n = 20 + 8 * q ∧ n ≤ c ∧ c ≤ 9223372036854775807 ∧ Row .u8 wr a n (((letters ++ hi (t : Int) 8) ++ hi (sg : Int) 2 ++ hi (sc : Int) 2) ++ (([ge, re, rs, fl].take q).flatMap fun (z : Nat) => hi (z : Int) 8)) ∧ Keeps (fun _ => False) w1 wr) (fun _ i _ => 4 - (intOf i).toNat)
      case atStart => exact ⟨0, a5, 20, c5, by omega, rfl, rfl, rfl, hc5, hm5, by simpa using HR5.out, HK5.out⟩
      case round =>
        obtain ⟨q, a, n, c, hq, rfl, rfl, hn, hnc, hcm, hrow, hkr⟩ := hrel
        have HROW := Lib.hid hrow
        have HKR := Lib.hid hkr
        have hsr := hkr.size
        clear hrow hkr
        by_cases hlt : q < 4
        · have hq4 : q = 0 ∨ q = 1 ∨ q = 2 ∨ q = 3 := by omega
          have hn64 : n ≤ 64 := by omega
          have HN := Lib.hid hn
          clear hn
          rcases hq4 with rfl | rfl | rfl | rfl
          · have x0 := idx0 ge re rs fl wr
            have hlen := HROW.out.1
            go_wp2_with fail
            refine (HPUT.out _ _ _ _ _ ge HROW.out hn64 n3).mono ?_
            rintro e w6 ⟨rv, rfl, ho6, hk6⟩
            obtain ⟨a6, c6, rfl, hc6, hm6, hr6⟩ := own_bytes ho6
            rw [List.length_append, hlen, hi_len] at hc6 hr6 ⊢
            rw [pre_step (l := [ge, re, rs, fl]) (q := 0) (z := ge) rfl] at hr6
            have HR6 := Lib.hid hr6
            have HK6 := Lib.hid (HKR.out.trans hk6)
            unfold maxLen at hm6
            clear ho6 hk6 hr6 hlen
            go_wp2_with fail
            go_roundw
            case rel => exact ⟨1, a6, n + 8, c6, by omega, by go_num, rfl, by have := HN.out; omega, hc6, by omega, HR6.out, HK6.out⟩
            case measure => simp [intOf]
          · have x0 := idx1 ge re rs fl wr
            have hlen := HROW.out.1
            go_wp2_with fail
            refine (HPUT.out _ _ _ _ _ re HROW.out hn64 n4).mono ?_
            rintro e w6 ⟨rv, rfl, ho6, hk6⟩
            obtain ⟨a6, c6, rfl, hc6, hm6, hr6⟩ := own_bytes ho6
            rw [List.length_append, hlen, hi_len] at hc6 hr6 ⊢
            rw [pre_step (l := [ge, re, rs, fl]) (q := 1) (z := re) rfl] at hr6
            have HR6 := Lib.hid hr6
            have HK6 := Lib.hid (HKR.out.trans hk6)
            unfold maxLen at hm6
            clear ho6 hk6 hr6 hlen
            go_wp2_with fail
            go_roundw
            case rel => exact ⟨2, a6, n + 8, c6, by omega, by go_num, rfl, by have := HN.out; omega, hc6, by omega, HR6.out, HK6.out⟩
            case measure => simp [intOf]
          · have x0 := idx2 ge re rs fl wr
            have hlen := HROW.out.1
            go_wp2_with fail
            refine (HPUT.out _ _ _ _ _ rs HROW.out hn64 n5).mono ?_
            rintro e w6 ⟨rv, rfl, ho6, hk6⟩
            obtain ⟨a6, c6, rfl, hc6, hm6, hr6⟩ := own_bytes ho6
            rw [List.length_append, hlen, hi_len] at hc6 hr6 ⊢
            rw [pre_step (l := [ge, re, rs, fl]) (q := 2) (z := rs) rfl] at hr6
            have HR6 := Lib.hid hr6
            have HK6 := Lib.hid (HKR.out.trans hk6)
            unfold maxLen at hm6
            clear ho6 hk6 hr6 hlen
            go_wp2_with fail
            go_roundw
            case rel => exact ⟨3, a6, n + 8, c6, by omega, by go_num, rfl, by have := HN.out; omega, hc6, by omega, HR6.out, HK6.out⟩
            case measure => simp [intOf]
          · have x0 := idx3 ge re rs fl wr
            have hlen := HROW.out.1
            go_wp2_with fail
            refine (HPUT.out _ _ _ _ _ fl HROW.out hn64 n6).mono ?_
            rintro e w6 ⟨rv, rfl, ho6, hk6⟩
            obtain ⟨a6, c6, rfl, hc6, hm6, hr6⟩ := own_bytes ho6
            rw [List.length_append, hlen, hi_len] at hc6 hr6 ⊢
            rw [pre_step (l := [ge, re, rs, fl]) (q := 3) (z := fl) rfl] at hr6
            have HR6 := Lib.hid hr6
            have HK6 := Lib.hid (HKR.out.trans hk6)
            unfold maxLen at hm6
            clear ho6 hk6 hr6 hlen
            go_wp2_with fail
            go_roundw
            case rel => exact ⟨4, a6, n + 8, c6, by omega, by go_num, rfl, by have := HN.out; omega, hc6, by omega, HR6.out, HK6.out⟩
            case measure => simp [intOf]
        · have hq4 : q = 4 := by omega
          subst hq4
          obtain ⟨S, hS⟩ : ∃ S : List Int, S = ((letters ++ hi (t : Int) 8) ++ hi (sg : Int) 2 ++ hi (sc : Int) 2) ++ (([ge, re, rs, fl].take 4).flatMap fun (z : Nat) => hi (z : Int) 8) := ⟨_, rfl⟩
          have hsh : shead ⟨sg, sc, ge, re, rs, fl⟩ t = S ++ [0, 0, 0, 0] := by rw [hS]; simp [shead]
          rw [← hS] at HROW
          have hn52 : n = 52 := by omega
          have hSl : S.length = 52 := by rw [HROW.out.1, hn52]
          subst hn52
          have HSH := Lib.hid hsh
          have B1r := (HKR.out.blk HB1'.out id)
          obtain ⟨W9, hW9⟩ : ∃ W9, W9 = wr.alloc (.cells (bk zb).toArray 27) := ⟨_, rfl⟩
          have hk9 : Keeps (fun _ => False) wr W9 := by rw [hW9]; exact (Keeps.refl _ _).alloc _
          have hb9 : Blk W9 wr.heap.size 27 (bk zb) := by rw [hW9]; exact Blk.new wr 27 (bk zb)
          have HB9 := Lib.hid hb9
          have HK9 := Lib.hid (HKR.out.trans hk9)
          have HR9 := Lib.hid (HROW.out.quiet hk9)
          have HB19 := Lib.hid (hk9.blk B1r id)
          have hs9 := hk9.size
          have hl9 := hb9.lt
          have HSL := Lib.hid hSl
          have HL1 : Hid ((bk S).length = Nat.min 52 64) := Lib.hid (len52 hSl)
          have HL2 : Hid (0 + (bk S).length ≤ (bk zb).length) := Lib.hid (fit52 hSl)
          have hsw1 := HKR.out.size
          clear hS hsh hn B1r hk9 hb9 hSl
          go_upto_region 11 with fail
          rw [← hW9]
          clear hW9
          go_wp2_with (refine wpList_copy_splice rfl (.tmp 43) (.tmp 44) 116 116 rfl 5 Try.underlying116 size5 _ _ 64 64 52 c rfl rfl wr.heap.size 0 (bk zb) 27 HB9.out (bk S) HL1.out (src_of HR9.out HSL.out) HL2.out bk_one wr.heap.size W9 (Below.refl _ _) (Nat.le_refl _) ?_)
          intro w10 hg10 hb10
          obtain ⟨h, hh, hh2⟩ := fnv_nat (shead ⟨sg, sc, ge, re, rs, fl⟩ t)
          obtain ⟨Q, hQ⟩ : ∃ Q, Q = shead ⟨sg, sc, ge, re, rs, fl⟩ t := ⟨_, rfl⟩
          have hQl : Q.length = 56 := by rw [hQ]; exact shead_len _ _
          have hsup : sup ⟨sg, sc, ge, re, rs, fl⟩ t = Q ++ hi (h : Int) 8 := by unfold sup; rw [hh, hQ]
          have b10 : Blk w10 wr.heap.size 27 (bk (Q ++ List.replicate 8 0)) := by
            have := hg10.out
            rw [splice0 HSL.out] at this
            rw [hQ, HSH.out]
            exact this
          rw [← hQ] at hh
          have HB10 := Lib.hid b10
          have k10 := Keeps.of_below hb10
          have hsw := HKR.out.size
          have HK10 : Hid (Keeps (fun _ => False) w1 w10) := Lib.hid (((HK9.out.mono (S' := fun k => wr.heap.size ≤ k) fun _ _ hf => hf.elim).trans k10).mono fun k hk e => by have e : wr.heap.size ≤ k := e; omega)
          have HB110 := Lib.hid (k10.blk HB19.out (by show ¬ wr.heap.size ≤ w.heap.size + 1; have := HB1'.out.lt; omega))
          have HSUP := Lib.hid hsup
          have HQL := Lib.hid hQl
          have HHA : Hid (∀ W, Keeps (fun _ => False) w10 W → Calls Try.prog 76 #[.slice (some ⟨wr.heap.size, 0, none⟩) 56 64] W fun e w' => e = .returned (.int .u64 (h : Int)) ∧ W = w') := Lib.hid (fun W hW => by
            have := hash_any (some ⟨wr.heap.size, 0, none⟩) 56 64 Q W (row_pre (hW.blk HB10.out id) HQL.out) (by omega)
            rwa [hh] at this)
          have HPT : Hid (∀ W, Calls Try.prog 74 #[.slice none 0 0, .int .u64 (h : Nat)] W (BytesP (hi (h : Int) 8) W)) := Lib.hid (fun W => by
            have := put64_any none 0 0 [] h W ⟨rfl, fun i hi => absurd hi (Nat.not_lt_zero _)⟩ (by omega) hh2
            simpa using this)
          have hl10 := b10.lt
          have HL3 : Hid ((bk (hi (h : Int) 8)).length = Nat.min (hi (h : Int) 8).length 8) := Lib.hid (by rw [bk_len, hi_len]; rfl)
          have HL4 : Hid (56 + (bk (hi (h : Int) 8)).length ≤ (bk (Q ++ List.replicate 8 0)).length) := Lib.hid (by rw [bk_len, hi_len, bk_len, List.length_append, hQl]; simp)
          clear hg10 hb10 b10 k10 hsup hQl hQ hh
          go_upto_region 12 with fail
          go_cut [] (fun wx => Blk wx wr.heap.size 27 (bk (Q ++ hi (h : Int) 8)) ∧ Keeps (fun k => wr.heap.size ≤ k) w10 wx)
          case first =>
            go_region_law (first
              | (go_simp; go_at_call 76; refine (HHA.out _ (by (repeat (first | exact Keeps.refl _ _ | refine Keeps.drew ?_)))).mono ?_; rintro e w11 ⟨rfl, rfl⟩)
              | (go_simp; go_at_call 74; refine (HPT.out _).mono ?_; rintro e w12 ⟨rv, rfl, ho12, hk12⟩; obtain ⟨a12, c12, rfl, hc12, hm12, hr12⟩ := own_bytes ho12; have HR12 := Lib.hid hr12; have HK12 : Hid (Keeps (fun _ => False) w10 w12) := Lib.hid (by first | exact hk12 | exact (Keeps.refl (fun _ => False) _).drew.trans hk12); clear ho12 hk12 hr12)
              | (refine step_copy_splice rfl (.tmp 46) (.tmp 49) 116 116 rfl 5 Try.underlying116 size5 _ _ 8 8 _ _ rfl rfl wr.heap.size 56 (bk (Q ++ List.replicate 8 0)) 27 (HK12.out.blk HB10.out id) (bk (hi (h : Int) 8)) HL3.out (src_of HR12.out rfl) HL4.out bk_one wr.heap.size _ (Below.refl _ _) (Nat.le_refl _) ?_; intro w13 hg13 hb13; have hk13 : Keeps (fun k => wr.heap.size ≤ k) w10 w13 := (HK12.out.mono fun _ _ hf => hf.elim).trans (by first | exact Keeps.of_below hb13 | exact (Keeps.refl _ w12).drew.trans (Keeps.of_below hb13)); have HG13 := Lib.hid hg13; have HK13 := Lib.hid hk13; clear hg13 hb13 hk13))
            all_goals
              have hb14 : Blk w13 wr.heap.size 27 (bk (Q ++ hi (h : Int) 8)) := by
                have := HG13.out.out
                rw [splice56 HQL.out (hi_len 8 _)] at this
                exact this
              go_wp2_with fail
              go_meet
              exact ⟨hb14, HK13.out⟩
          case rest =>
            obtain ⟨hb14, hk14⟩ := hcut
            obtain ⟨w14, rfl⟩ : ∃ w14, w14 = wc := ⟨_, rfl⟩
            have h64 : (Q ++ hi (h : Int) 8).length = 64 := by rw [List.length_append, HQL.out, hi_len]
            obtain ⟨x1, x2, x3⟩ := blkRow hb14 (n := 64) (by rw [bk_len, h64])
            have hb1f := hk14.blk HB110.out (by show ¬ wr.heap.size ≤ w.heap.size + 1; have := HB1'.out.lt; have := HKR.out.size; omega)
            obtain ⟨y1, y2, y3⟩ := blkRow hb1f (n := 64) (by rw [bk_len, zb_len])
            have hbl : (bk (Q ++ hi (h : Int) 8)).length = 64 := by rw [bk_len, h64]
            have hone : oneAll (bk (Q ++ hi (h : Int) 8)).toArray = true := one_bk _
            have HKF : Hid (Keeps (fun _ => False) w w14) := Lib.hid (((HK1.out.trans HK10.out).mono (S' := fun k => wr.heap.size ≤ k) fun _ _ hf => hf.elim).trans hk14 |>.mono fun k hk e => by have e : wr.heap.size ≤ k := e; have := HK1.out.size; have := HKR.out.size; omega)
            have HB1F := Lib.hid hb1f
            clear hk14 hb1f hb14
            go_wp2_with fail
            have b15 := blk_over HB1F.out (hbl.trans (by rw [bk_len, zb_len] : (bk zb).length = 64).symm)
            refine bodyPost_ret (result27_38 rfl rfl rfl hbl b15) rfl ⟨?_, enc_fin HKF.out (Nat.le_succ _)⟩
            simp [HSUP.out]
end Go.Proofs.Ytjiammhmeliogaa
