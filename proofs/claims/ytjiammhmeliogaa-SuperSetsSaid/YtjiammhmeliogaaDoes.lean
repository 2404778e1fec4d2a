/- does: one op of the law's is done to a disk. -/
import Derived.Test.YtjiammhmeliogaaBlock
namespace Go.Proofs.Ytjiammhmeliogaa
open Go.RowKit
set_option linter.unusedVariables false
set_option linter.unusedSimpArgs false
theorem zeroValue27 (w : World) : (zeroValue 27).run Try.prog w = .ok (.agg (bk zb).toArray) w := (Try.zeroValue27 w).trans (by kernel_rfl)
attribute [local go_sem ↓] exec_load27 exec_store27 exec_build27 exec_alloc27 zeroValue27
attribute [local go_sem] padr_some rowAt_drew hasRow_drew mayRow_drew

theorem run_cells27 (g o : Nat) (cs : List Value) (w : World) (hl : cs.length = 64) (h : MayRow w g o 64) (h1 : oneAll cs.toArray = true) : (storeCells ⟨g, o, none⟩ cs).run Try.prog w = .ok () (w.setCells g o cs) := by
  have h1' : ∀ v ∈ cs, v.oneCell' = true := by
    intro v hv
    exact Array.all_eq_true_iff_forall_mem.1 h1 v (by simpa using hv)
  have := run_storeCells_cells (P := Try.prog) g o cs 0 w (fun j hj => by rw [Nat.add_zero]; exact (h j (by omega)).1) (fun j hj => by rw [Nat.add_zero]; exact (h j (by omega)).2) h1'
  rwa [Nat.add_zero] at this
attribute [local go_sem] run_cells27
/-- An op's value. -/
def opv (k a f : Int) (v : Value) : List Value := [.int .i64 k, .int .i64 a, .int .u8 f, v]

def DoesP (L : DL) (b : List Int) (c : Int) (D' : DD) (w : World) (e : Ending) (w' : World) : Prop := e = .returned (.tuple #[.agg (bk b).toArray, .int .i64 c]) ∧ DMoved L D' w w'

/-- A function's result, a block and an Errno. -/
theorem result27_38 {f : Func} {tmps : Array Value} {w : World} {b : Nat} {cs : List Value} {s t : Tmp} {v : Value} (hf : f.results = #[.cell s 27, .tmp t]) (hs : tmps.getD s undef = .pointer (some ⟨b, 0, none⟩)) (ht : tmps.getD t undef = v) (hc : cs.length = 64) (h : Blk w b 27 cs) :
    (results f tmps).run Try.prog w = .ok (.tuple #[.agg cs.toArray, v]) w := by
  have hl := run_loadVar_mid (P := Try.prog) w b 0 27 cs _ (fun j u hu => by rw [Nat.zero_add]; exact h.cell hu) Try.underlying27 rfl (row27 cs hc)
  have hs' : tmps[s]?.getD undef = .pointer (some ⟨b, 0, none⟩) := by simpa using hs
  have ht' : tmps[t]?.getD undef = v := by simpa using ht
  simp [results, hf, hs', ht', asAddr, hl]

/-- The op's two blocks at its start. -/
theorem does_start (w : World) (o : List Value) : 
    Blk (((w.alloc (.cells o.toArray 32)).alloc (.cells (bk zb).toArray 27)).alloc (.cells o.toArray 32)) w.heap.size 32 o ∧
    Blk (((w.alloc (.cells o.toArray 32)).alloc (.cells (bk zb).toArray 27)).alloc (.cells o.toArray 32)) (w.heap.size + 1) 27 (bk zb) ∧
    Keeps (fun _ => False) w (((w.alloc (.cells o.toArray 32)).alloc (.cells (bk zb).toArray 27)).alloc (.cells o.toArray 32)) ∧
    (((w.alloc (.cells o.toArray 32)).alloc (.cells (bk zb).toArray 27)).alloc (.cells o.toArray 32)).heap.size = w.heap.size + 3 := by
  have h2 := Blk.new (w.alloc (.cells o.toArray 32)) 27 (bk zb)
  rw [World.size_alloc] at h2
  exact ⟨((Blk.new w 32 o).alloc _).alloc _, h2.alloc _, (((Keeps.refl _ w).alloc _).alloc _).alloc _, by simp⟩

/-- The answer is stored. -/
theorem does_fin {L : DL} {D' : DD} {w W1 W : World} {cs : List Value} (hown : ∀ k, L.own k → k < w.heap.size) (hk : Keeps (fun _ => False) w W1) (hs : W1.heap.size = w.heap.size + 3) (hb : Blk W1 (w.heap.size + 1) 27 (bk zb)) (hD : DMoved L D' W1 W) (hc : cs.length = 64) :
    MayRow W (w.heap.size + 1) 0 64 ∧ Blk (W.setCells (w.heap.size + 1) 0 cs) (w.heap.size + 1) 27 cs ∧ DMoved L D' w (W.setCells (w.heap.size + 1) 0 cs) := by
  obtain ⟨pv, hd, hp, hkk⟩ := hD
  have hzl : (bk zb).length = 64 := by rw [bk_len, zb_len]
  have hb' := hkk.blk hb fun e => by have := hown _ e; omega
  have hks := setCells_keeps (w.heap.size + 1) cs 0 W
  refine ⟨fun j hj => ⟨by rw [Nat.zero_add, hb'.cell (List.getElem?_eq_getElem (by omega))]; rfl, by rw [Nat.zero_add]; exact hb'.free j⟩, blk_over hb' (by omega), pv, hd.keep hks fun k hkk e => ?_, fun g hg => (hp g hg).imp id fun h => by omega, ?_⟩
  · have e' : k = w.heap.size + 1 := e
    subst e'
    rcases hkk with e1 | e1 | e1
    · have := hown _ (.inl e1)
      omega
    · have := hown _ (.inr (.inl e1))
      omega
    · rcases hp _ e1 with e2 | e2
      · have := hown _ (.inr (.inr e2))
        omega
      · omega
  · refine ⟨by rw [hks.os, hkk.os, hk.os], by rw [hks.tape, hkk.tape, hk.tape], by rw [hks.output, hkk.output, hk.output], Nat.le_trans hk.size (Nat.le_trans hkk.size hks.size), fun i hi hn => ?_⟩
    rw [hks.block i (by have := hkk.size; omega) (by show ¬ (i = w.heap.size + 1); omega), hkk.block i (by omega) hn, hk.block i hi id]

theorem read_len {L : DL} {D : DD} {w : World} (h : DkAt w L D) (i : Int) : (D.read i).1.length = 64 := by
  unfold DD.read
  rcases ready_cases D i with hc | ⟨hc, h0, h1⟩
  · rw [if_pos hc]
    exact zb_len
  · rw [if_neg (by simp [hc])]
    exact setl_len D.p 0 D.f D.n h.fl h.pl i.toNat (by omega)

set_option maxHeartbeats 1000000 in
theorem does_read (L : DL) (D : DD) (w : World) (h : DkAt w L D) (hop : D.ops < 1000000000000) (k a f : Int) (v : Value) (hk : opk k = 0) : Calls Try.prog 23 #[L.ptr, .agg (opv k a f v).toArray] w (DoesP L (D.read a).1 (D.read a).2.1 (D.read a).2.2 w) := by
  obtain ⟨b1, b2, k0, hs0⟩ := does_start w (opv k a f v)
  have HR := Lib.hid (read_any L D _ (h.quiet k0) hop a)
  have HL := Lib.hid (show (D.read a).1.length = 64 from read_len h a)
  have HOWN := Lib.hid h.lt
  unfold opv at *
  have HK := Lib.hid (kind_any k a f v)
  rw [hk] at HK
  obtain ⟨W1, hW1⟩ : ∃ W1, W1 = ((w.alloc (.cells #[.int .i64 k, .int .i64 a, .int .u8 f, v] 32)).alloc (.cells (bk zb).toArray 27)).alloc (.cells #[.int .i64 k, .int .i64 a, .int .u8 f, v] 32) := ⟨_, rfl⟩
  have e1 := b1.cell (i := 1) rfl
  rw [← hW1] at HR b1 b2 k0 hs0 e1
  have HB := Lib.hid b1
  have HB2 := Lib.hid b2
  have HK0 := Lib.hid k0
  have HS := Lib.hid hs0
  have HW := Lib.hid hW1
  clear b1 b2 k0 hk hs0 h hW1
  go_enter Try.func23, Try.ntmps23
  go_wp2_with fail
  refine (HK.out _).mono ?_
  rintro e w1 ⟨rfl, hw1⟩
  rw [← HW.out] at hw1
  subst hw1
  go_wp2_with fail
  refine HR.out.mono ?_
  rintro e W ⟨rfl, hd, hk⟩
  obtain ⟨cs, hcs⟩ : ∃ cs, cs = bk (D.read a).1 := ⟨_, rfl⟩
  have hcl : cs.length = 64 := by rw [hcs, bk_len, HL.out]
  have hone : oneAll cs.toArray = true := by rw [hcs]; exact all_oneCell_toArray bk_one
  obtain ⟨hm, hb, hD⟩ := does_fin (cs := cs) HOWN.out HK0.out HS.out HB2.out (DMoved.of_step hd hk) hcl
  rw [← hcs]
  have HF := Lib.hid hb
  have HD := Lib.hid hD
  have HC := Lib.hid hcs
  clear hcs hb hD hd hk
  go_wp2_with fail
  refine bodyPost_ret (v := .tuple #[.agg cs.toArray, .int .i64 (D.read a).2.1]) (result27_38 rfl rfl rfl hcl HF.out) rfl ?_
  rw [HC.out]
  exact ⟨rfl, by rw [← HC.out]; exact HD.out⟩
set_option maxHeartbeats 1000000 in
theorem does_sync (L : DL) (D : DD) (w : World) (h : DkAt w L D) (hok : D.ok) (hop : D.ops < 1000000000000) (k a f : Int) (v : Value) (hk : opk k = 2) : Calls Try.prog 23 #[L.ptr, .agg (opv k a f v).toArray] w (DoesP L zb D.sync.1 D.sync.2 w) := by
  obtain ⟨b1, b2, k0, hs0⟩ := does_start w (opv k a f v)
  have HR := Lib.hid (sync_any L D _ (h.quiet k0) hok hop)
  have HOWN := Lib.hid h.lt
  unfold opv at *
  have HK := Lib.hid (kind_any k a f v)
  rw [hk] at HK
  obtain ⟨W1, hW1⟩ : ∃ W1, W1 = ((w.alloc (.cells #[.int .i64 k, .int .i64 a, .int .u8 f, v] 32)).alloc (.cells (bk zb).toArray 27)).alloc (.cells #[.int .i64 k, .int .i64 a, .int .u8 f, v] 32) := ⟨_, rfl⟩
  have e1 := b1.cell (i := 1) rfl
  rw [← hW1] at HR b1 b2 k0 hs0 e1
  have HB := Lib.hid b1
  have HB2 := Lib.hid b2
  have HK0 := Lib.hid k0
  have HS := Lib.hid hs0
  have HW := Lib.hid hW1
  clear b1 b2 k0 hk hs0 h hW1
  go_enter Try.func23, Try.ntmps23
  have hzl : (bk zb).length = 64 := by rw [bk_len, zb_len]
  have hone : oneAll (bk zb).toArray = true := all_oneCell_toArray bk_one
  go_wp2_with fail
  refine (HK.out _).mono ?_
  rintro e w1 ⟨rfl, hw1⟩
  rw [← HW.out] at hw1
  subst hw1
  go_wp2_with fail
  refine HR.out.mono ?_
  rintro e W ⟨rfl, hd⟩
  obtain ⟨hm, hb, hD⟩ := does_fin (cs := bk zb) HOWN.out HK0.out HS.out HB2.out hd hzl
  have HF := Lib.hid hb
  have HD := Lib.hid hD
  clear hb hD hd
  go_wp2_with fail
  refine bodyPost_ret (v := .tuple #[.agg (bk zb).toArray, .int .i64 D.sync.1]) (result27_38 rfl rfl rfl hzl HF.out) rfl ?_
  exact ⟨rfl, HD.out⟩

set_option maxHeartbeats 1000000 in
theorem does_write (L : DL) (D : DD) (w : World) (h : DkAt w L D) (hok : D.ok) (hop : D.ops < 1000000000000) (hpn : D.p.length < 1000000) (k a f : Int) (v : Value) (hk : opk k = 1) : Calls Try.prog 23 #[L.ptr, .agg (opv k a f v).toArray] w (DoesP L zb (D.write a (blk f)).1 (D.write a (blk f)).2 w) := by
  obtain ⟨b1, b2, k0, hs0⟩ := does_start w (opv k a f v)
  have HD0 := Lib.hid (h.quiet k0)
  have HOWN := Lib.hid h.lt
  unfold opv at *
  have HK := Lib.hid (kind_any k a f v)
  rw [hk] at HK
  obtain ⟨W1, hW1⟩ : ∃ W1, W1 = ((w.alloc (.cells #[.int .i64 k, .int .i64 a, .int .u8 f, v] 32)).alloc (.cells (bk zb).toArray 27)).alloc (.cells #[.int .i64 k, .int .i64 a, .int .u8 f, v] 32) := ⟨_, rfl⟩
  have e1 := b1.cell (i := 1) rfl
  rw [← hW1] at HD0 b1 b2 k0 hs0 e1
  have HB := Lib.hid b1
  have HB2 := Lib.hid b2
  have HK0 := Lib.hid k0
  have HS := Lib.hid hs0
  have HW := Lib.hid hW1
  clear b1 b2 k0 hk hs0 h hW1
  go_enter Try.func23, Try.ntmps23
  have hzl : (bk zb).length = 64 := by rw [bk_len, zb_len]
  have hone : oneAll (bk zb).toArray = true := all_oneCell_toArray bk_one
  go_wp2_with fail
  refine (HK.out _).mono ?_
  rintro e w1 ⟨rfl, hw1⟩
  rw [← HW.out] at hw1
  subst hw1
  have e2 := HB.out.cell (i := 2) rfl
  have HB2b := HB2.out.lt
  go_wp2_with fail
  go_region_with (first
    | (go_at_call 19; refine (block_any f _).mono ?_; rintro e w2 ⟨rfl, hk2⟩; have hk2' : Keeps (fun _ => False) w1 w2 := (by first | exact hk2 | exact (Keeps.refl (fun _ => False) w1).drew.trans hk2); have HK2 := Lib.hid hk2'; have u1 := (HK2.out.blk HB.out id).cell (i := 1) rfl; have u2 := (HK2.out.blk HB.out id).cell (i := 2) rfl; clear hk2 hk2')
    | (go_at_call 50; refine (write_any L D _ (by first | exact HD0.out.quiet HK2.out | exact HD0.out.quiet HK2.out.drew | exact HD0.out) hok hop hpn a (blk f) (blk_len f)).mono ?_; rintro e W ⟨rfl, hd⟩; have hd' : DMoved L (D.write a (blk f)).2 w1 W := (by first | exact hd.quiet HK2.out | exact hd.quiet HK2.out.drew); have HDM := Lib.hid hd'; obtain ⟨hm, hb, hD⟩ := does_fin (cs := bk zb) HOWN.out HK0.out HS.out HB2.out hd' hzl; have HF := Lib.hid hb; have HD := Lib.hid hD; clear hb hD hd hd'))
  all_goals
    go_wp2_with fail
    refine bodyPost_ret (v := .tuple #[.agg (bk zb).toArray, .int .i64 (D.write a (blk f)).1]) (result27_38 rfl rfl rfl hzl HF.out) rfl ?_
    exact ⟨rfl, HD.out⟩

set_option maxHeartbeats 1000000 in
theorem does_arm (L : DL) (D : DD) (w : World) (h : DkAt w L D) (k a f : Int) (ha : (Lit.int .i64 a).wf = true) (v : Value) (hk : opk k = 3) : Calls Try.prog 23 #[L.ptr, .agg (opv k a f v).toArray] w (DoesP L zb (D.arm a).1 (D.arm a).2 w) := by
  obtain ⟨b1, b2, k0, hs0⟩ := does_start w (opv k a f v)
  have HR := Lib.hid (arm_any L D _ (h.quiet k0) a ha)
  have HOWN := Lib.hid h.lt
  unfold opv at *
  have HK := Lib.hid (kind_any k a f v)
  rw [hk] at HK
  obtain ⟨W1, hW1⟩ : ∃ W1, W1 = ((w.alloc (.cells #[.int .i64 k, .int .i64 a, .int .u8 f, v] 32)).alloc (.cells (bk zb).toArray 27)).alloc (.cells #[.int .i64 k, .int .i64 a, .int .u8 f, v] 32) := ⟨_, rfl⟩
  have e1 := b1.cell (i := 1) rfl
  rw [← hW1] at HR b1 b2 k0 hs0 e1
  have HB := Lib.hid b1
  have HB2 := Lib.hid b2
  have HK0 := Lib.hid k0
  have HS := Lib.hid hs0
  have HW := Lib.hid hW1
  clear b1 b2 k0 hk hs0 h hW1 ha
  go_enter Try.func23, Try.ntmps23
  have hzl : (bk zb).length = 64 := by rw [bk_len, zb_len]
  have hone : oneAll (bk zb).toArray = true := all_oneCell_toArray bk_one
  go_wp2_with fail
  refine (HK.out _).mono ?_
  rintro e w1 ⟨rfl, hw1⟩
  rw [← HW.out] at hw1
  subst hw1
  go_wp2_with fail
  refine HR.out.mono ?_
  rintro e W ⟨rfl, hd0, hk⟩
  have hd := DMoved.of_step hd0 hk
  clear hd0 hk
  obtain ⟨hm, hb, hD⟩ := does_fin (cs := bk zb) HOWN.out HK0.out HS.out HB2.out hd hzl
  have HF := Lib.hid hb
  have HD := Lib.hid hD
  clear hb hD hd
  go_wp2_with fail
  refine bodyPost_ret (v := .tuple #[.agg (bk zb).toArray, .int .i64 (D.arm a).1]) (result27_38 rfl rfl rfl hzl HF.out) rfl ?_
  exact ⟨rfl, HD.out⟩

set_option maxHeartbeats 1000000 in
theorem does_fail (L : DL) (D : DD) (w : World) (h : DkAt w L D)  (k a f : Int) (v : Value) (hk : opk k = 5) : Calls Try.prog 23 #[L.ptr, .agg (opv k a f v).toArray] w (DoesP L zb (D.fail a).1 (D.fail a).2 w) := by
  obtain ⟨b1, b2, k0, hs0⟩ := does_start w (opv k a f v)
  have HR := Lib.hid (fail_any L D _ (h.quiet k0) a)
  have HOWN := Lib.hid h.lt
  unfold opv at *
  have HK := Lib.hid (kind_any k a f v)
  rw [hk] at HK
  obtain ⟨W1, hW1⟩ : ∃ W1, W1 = ((w.alloc (.cells #[.int .i64 k, .int .i64 a, .int .u8 f, v] 32)).alloc (.cells (bk zb).toArray 27)).alloc (.cells #[.int .i64 k, .int .i64 a, .int .u8 f, v] 32) := ⟨_, rfl⟩
  have e1 := b1.cell (i := 1) rfl
  rw [← hW1] at HR b1 b2 k0 hs0 e1
  have HB := Lib.hid b1
  have HB2 := Lib.hid b2
  have HK0 := Lib.hid k0
  have HS := Lib.hid hs0
  have HW := Lib.hid hW1
  clear b1 b2 k0 hk hs0 h hW1
  go_enter Try.func23, Try.ntmps23
  have hzl : (bk zb).length = 64 := by rw [bk_len, zb_len]
  have hone : oneAll (bk zb).toArray = true := all_oneCell_toArray bk_one
  go_wp2_with fail
  refine (HK.out _).mono ?_
  rintro e w1 ⟨rfl, hw1⟩
  rw [← HW.out] at hw1
  subst hw1
  go_wp2_with fail
  refine HR.out.mono ?_
  rintro e W ⟨rfl, hd0, hk⟩
  have hd := DMoved.of_step hd0 hk
  clear hd0 hk
  obtain ⟨hm, hb, hD⟩ := does_fin (cs := bk zb) HOWN.out HK0.out HS.out HB2.out hd hzl
  have HF := Lib.hid hb
  have HD := Lib.hid hD
  clear hb hD hd
  go_wp2_with fail
  refine bodyPost_ret (v := .tuple #[.agg (bk zb).toArray, .int .i64 (D.fail a).1]) (result27_38 rfl rfl rfl hzl HF.out) rfl ?_
  exact ⟨rfl, HD.out⟩

end Go.Proofs.Ytjiammhmeliogaa
