/- Merged of: RamN RNe RamO RamG RamP. -/
import Derived.Test.YthnagihgjenimaaDoorShf
import Derived.Test.YthnagihgjenimaaDoorApart
import Derived.Test.YthnagihgjenimaaDoorLNil
/- ram.New. -/
namespace Go.Proofs.YthnagihgjenimaaDoor
open Go.RowKit
set_option linter.unusedVariables false
set_option linter.unusedSimpArgs false
theorem inv_fresh {n : Nat} (h : (AD.fresh n).Ok) : RInv (AD.fresh n) [] :=
  ⟨h, List.Pairwise.nil, List.Pairwise.nil, fun m c => ⟨fun hh => absurd hh.find (fresh_find n m), fun ⟨g, hg, _⟩ => by cases hg⟩, fun g hg => by cases hg⟩
def RNewP (n : Nat) (w : World) (e : Ending) (w' : World) : Prop := ∃ L : RL, e = .returned (.tuple #[L.ptr, .int .i64 0]) ∧ RAt w' L (AD.fresh n) [] ∧ (∀ k, L.own k → w.heap.size ≤ k) ∧ Keeps (fun _ => False) w w'
theorem rnew_fin {w w1 w2 w3 : World} {n : Nat} {al : AL} {lk : LK} (ha : ArAt w1 al (AD.fresh n)) (hao : ∀ k, al.own k → w.heap.size ≤ k) (hk1 : Keeps (fun _ => False) w w1) (hl : lk.Has w2 (fun _ => [])) (hN : lk.N = 32 * n) (hn : lk.n = 8) (hlo : ∀ b, lk.own b → w1.heap.size ≤ b) (hk2 : Keeps (fun _ => False) w1 w2)
    (h3 : w3 = ((w2.alloc (.map #[] 0)).alloc (.map #[] 0)).alloc (.cells #[.map (some w2.heap.size), .map (some (w2.heap.size + 1)), al.ptr, lk.ptr, .int .i64 (n : Int), .int .i64 0] 115)) :
    RNewP n w (.returned (.tuple #[.pointer (some ⟨w2.heap.size + 1 + 1, 0, none⟩), .int .i64 0])) w3 := by
  have ka : Keeps (fun _ => False) w2 w3 := by rw [h3]; exact (((Keeps.refl _ _).alloc _).alloc _).alloc _
  have kb : Keeps (fun _ => False) (w2.alloc (.map #[] 0)) w3 := by rw [h3]; exact ((Keeps.refl _ _).alloc _).alloc _
  have kc : Keeps (fun _ => False) ((w2.alloc (.map #[] 0)).alloc (.map #[] 0)) w3 := by rw [h3]; exact (Keeps.refl _ _).alloc _
  have hs1 := hk1.size
  have hs2 := hk2.size
  refine ⟨⟨w2.heap.size + 1 + 1, w2.heap.size, w2.heap.size + 1, al, lk⟩, rfl, ⟨?_, ⟨_, (MapV.made 9 w2).keep kb id, Mapped.nil _ _⟩, ⟨_, ?_, Mapped.nil _ _⟩, ha.quiet (hk2.trans ka), hl.quiet ka, hN, hn, inv_fresh ha.good, (fun h hh => by cases hh), by show w2.heap.size ≠ w2.heap.size + 1; omega⟩, fun k hk => ?_, (hk1.trans hk2).trans ka⟩
  · rw [h3]
    have := Blk.new ((w2.alloc (.map #[] 0)).alloc (.map #[] 0)) 115 [.map (some w2.heap.size), .map (some (w2.heap.size + 1)), al.ptr, lk.ptr, .int .i64 (n : Int), .int .i64 0]
    rw [World.size_alloc, World.size_alloc] at this
    exact this
  · have := (MapV.made 3 (w2.alloc (.map #[] 0))).keep kc id
    rw [World.size_alloc] at this
    exact this
  · rcases hk with rfl | rfl | rfl | rfl | hk
    · show w.heap.size ≤ w2.heap.size + 1 + 1; omega
    · show w.heap.size ≤ w2.heap.size; omega
    · show w.heap.size ≤ w2.heap.size + 1; omega
    · exact hao _ (.inr rfl)
    · exact Nat.le_trans hs1 (hlo _ hk)
set_option maxRecDepth 100000 in
set_option maxHeartbeats 2000000 in
theorem rnew_ok (n : Nat) (h1 : 1 ≤ n) (h2 : n ≤ 256) (w : World) : Calls Tryd.prog 32 #[.int .i64 (n : Int)] w (RNewP n w) := by
  have HA := Lib.hid (anew_ok n h1 h2 w)
  have HL : Hid (∀ W, Calls Tryd.prog 61 #[.int .i64 ((n : Int) * 32), .int .i64 8] W fun e w' => ∃ k : LK, e = .returned (.tuple #[k.ptr, .int .i64 0]) ∧ k.N = 32 * n ∧ k.n = 8 ∧ k.Has w' (fun _ => []) ∧ (∀ b, k.own b → W.heap.size ≤ b) ∧ Keeps (fun _ => False) W w') := Lib.hid (fun W => by
    have := new_ok (32 * n) 8 W (by omega) (by omega) (by omega) (by omega)
    rw [show ((32 * n : Nat) : Int) = (n : Int) * 32 by push_cast; omega] at this
    refine this.mono ?_
    rintro e w' ⟨k, rfl, a1, a2, a3, _, a5, a6⟩
    exact ⟨k, rfl, a1, a2, a3, a5, (Keeps.of_below a6).mono fun k hk' h => absurd h (Nat.not_le.2 hk')⟩)
  have hmm := @run_makeMap Tryd.prog
  have hwr : IntKind.i64.wrap ((n : Int) * 32) = (n : Int) * 32 := IntWalk.i64_in _ (by omega)
  unfold LK.ptr at HL
  unfold ANewP AL.ptr at HA
  go_enter Tryd.func32, Tryd.ntmps32
  go_wp2_with fail
  refine HA.out.mono ?_
  rintro e w1 ⟨al, rfl, ha, hao, hk1⟩
  have HHA := Lib.hid ha
  have HAO := Lib.hid hao
  have HK1 := Lib.hid hk1
  clear ha hao hk1 HA
  go_wp2_with fail
  refine (HL.out _).mono ?_
  rintro e w2 ⟨lk, rfl, hN, hn, hl, hlo, hk2⟩
  have hlf := rnew_fin HHA.out HAO.out HK1.out hl hN hn hlo hk2 rfl
  unfold AL.ptr LK.ptr at hlf
  have HLF := Lib.hid hlf
  clear hlf hN hn hl hlo hk2
  go_wp2_with fail
  go_ret2
  exact HLF.out
end Go.Proofs.YthnagihgjenimaaDoor

/- Items in memory: the parts lie apart. -/
namespace Go.Proofs.YthnagihgjenimaaDoor
open Go.RowKit
set_option linter.unusedVariables false
set_option linter.unusedSimpArgs false
/-- No part of a memory is another. -/
structure RNe (L : RL) : Prop where
  bm : L.B ≠ L.ma
  bt : L.B ≠ L.mt
  bg : L.B ≠ L.al.G
  ba : L.B ≠ L.al.B
  bk : L.B ≠ L.lk.B
  bl : ¬ L.lk.own L.B
  gm : L.al.G ≠ L.ma
  gt : L.al.G ≠ L.mt
  gk : L.al.G ≠ L.lk.B
  gl : ¬ L.lk.own L.al.G
  am : L.al.B ≠ L.ma
  at' : L.al.B ≠ L.mt
  al : ¬ L.lk.own L.al.B
  ag : L.al.B ≠ L.al.G
  km : L.lk.B ≠ L.ma
  kt : L.lk.B ≠ L.mt
  lm : ¬ L.lk.own L.ma
  lt : ¬ L.lk.own L.mt
/-- A slice's row is no part of it. -/
def Off (L : RL) (v : Value) : Prop := ∀ g, v.ownBlock = some g → ¬ L.own g
theorem own_off {w : World} {L : RL} {D : AD} {hs : List HM} (h : RAt w L D hs) {base n : Nat} {v : Value} {xs : List Value} (ho : w.ownsRow base 5 1 v n xs) : Off L v := by
  obtain ⟨f, h1, h2⟩ := h.at'
  obtain ⟨f', h3, h4⟩ := h.th
  rintro g hg (rfl | rfl | rfl | rfl | hk)
  · exact own_ne_blk h.obj ho (by decide) hg
  · exact map_ne_own h1 ho hg
  · exact map_ne_own h3 ho hg
  · exact own_ne_own ho h.ar.row (by decide) _ hg rfl
  · obtain ⟨cs, hc⟩ := h.li.blks.2 g hk
    exact own_ne_blk hc ho (by decide) hg
theorem RAt.off {w : World} {L : RL} {D : AD} {hs : List HM} (h : RAt w L D hs) : ∀ x ∈ hs, Off L x.kv ∧ Off L x.vv :=
  fun x hx => ⟨own_off h (h.rd x hx).k, own_off h (h.rd x hx).v⟩
theorem RAt.ne {w : World} {L : RL} {D : AD} {hs : List HM} (h : RAt w L D hs) : RNe L := by
  obtain ⟨f, h1, h2⟩ := h.at'
  obtain ⟨f', h3, h4⟩ := h.th
  obtain ⟨hk, hl⟩ := h.li.blks
  have lb : ∀ {g t : Nat} {cs : List Value}, Blk w g t cs → 3 ≠ t → ¬ L.lk.own g := fun hb hn ho => by
    obtain ⟨cs, hc⟩ := hl _ ho
    exact hc.ne hb hn rfl
  refine ⟨(h1.ne_blk h.obj).symm, (h3.ne_blk h.obj).symm, fun e => own_ne_blk h.obj h.ar.row (by decide) (by rw [e]; rfl), h.obj.ne h.ar.obj (by decide), h.obj.ne hk (by decide), lb h.obj (by decide),
    fun e => map_ne_own h1 h.ar.row (by rw [← e]; rfl), fun e => map_ne_own h3 h.ar.row (by rw [← e]; rfl), fun e => own_ne_blk hk h.ar.row (by decide) (by rw [← e]; rfl), fun ho => ?_,
    (h1.ne_blk h.ar.obj).symm, (h3.ne_blk h.ar.obj).symm, lb h.ar.obj (by decide), fun e => own_ne_blk h.ar.obj h.ar.row (by decide) (by rw [e]; rfl), (h1.ne_blk hk).symm, (h3.ne_blk hk).symm, fun ho => ?_, fun ho => ?_⟩
  · obtain ⟨cs, hc⟩ := hl _ ho
    exact own_ne_blk hc h.ar.row (by decide) rfl
  · obtain ⟨cs, hc⟩ := hl _ ho
    exact h1.ne_blk hc rfl
  · obtain ⟨cs, hc⟩ := hl _ ho
    exact h3.ne_blk hc rfl
section
variable {w w' : World} {L : RL} {D : AD} {ls : Nat → List Nat} {S : Nat → Prop}
/-- The lists are kept. -/
theorem li_keep (h : L.lk.Has w ls) (hk : Keeps S w w') (h1 : ¬ S L.lk.B) (h2 : ∀ k, L.lk.own k → ¬ S k) : L.lk.Has w' ls :=
  h.keep hk h1 (h2 _ (.inl rfl)) (h2 _ (.inr (.inl rfl))) (h2 _ (.inr (.inr (.inl rfl)))) (h2 _ (.inr (.inr (.inr rfl))))
theorem ar_keep (h : ArAt w L.al D) (hk : Keeps S w w') (h1 : ¬ S L.al.B) (h2 : ¬ S L.al.G) : ArAt w' L.al D :=
  h.keep hk fun k ho => by
    rcases ho with rfl | rfl
    · exact h1
    · exact h2
end
end Go.Proofs.YthnagihgjenimaaDoor

/- ram: out. -/
namespace Go.Proofs.YthnagihgjenimaaDoor
open Go.RowKit
set_option linter.unusedVariables false
set_option linter.unusedSimpArgs false
theorem sumC_le : ∀ {hs : List HM}, (∀ h ∈ hs, h.it.Ok) → sumC hs ≤ 786 * hs.length
  | [], _ => Nat.le_refl _
  | x :: r, h => by
    have h1 := (h x (List.mem_cons_self ..)).chg.2
    have h2 := sumC_le (hs := r) fun g hg => h g (List.mem_cons_of_mem _ hg)
    rw [sumC_cons, List.length_cons]
    omega
section
variable {w : World} {L : RL} {D : AD} {hs : List HM}
theorem RAt.chlt (h : RAt w L D hs) : ∀ x ∈ hs, x.ch < 32 * D.n := fun x hx => by
  have := ((h.inv.has x.ch x.cl).2 ⟨x, hx, rfl, rfl⟩).1
  omega
theorem RAt.len (h : RAt w L D hs) : hs.length ≤ 8192 := by
  have h1 := pigeon (32 * D.n) (hs.map HM.ch) (List.pairwise_map.2 (h.inv.chs.imp fun e => e)) (fun c hc => by
    obtain ⟨x, hx, rfl⟩ := List.mem_map.1 hc
    exact h.chlt x hx)
  have h2 := h.ar.n2
  rw [List.length_map] at h1
  omega
theorem RAt.sum (h : RAt w L D hs) : sumC hs ≤ 6438912 := by
  have h1 := sumC_le fun x hx => (h.inv.good x hx).1
  have h2 := h.len
  omega
theorem RAt.cllt (h : RAt w L D hs) : ∀ x ∈ hs, x.cl < 8 := fun x hx => by
  rw [(h.inv.good x hx).2]
  exact cls_lt _
end
/-- New blocks alone are turned. -/
theorem RAt.above {w w1 w2 : World} {L : RL} {D0 D : AD} {hs0 hs : List HM} {S : Nat → Prop} (h0 : RAt w L D0 hs0) (h : RAt w1 L D hs) (hsub : ∀ q ∈ hs, q ∈ hs0) (hk : Keeps S w1 w2) (hS : ∀ k, S k → w.heap.size ≤ k) : RAt w2 L D hs := by
  obtain ⟨f, h1, h2⟩ := h.at'
  obtain ⟨g, h3, h4⟩ := h.th
  obtain ⟨l1, l2, l3, l4⟩ := h0.lt
  have n : ∀ k, k < w.heap.size → ¬ S k := fun k hk hs => by
    have := hS k hs
    omega
  have nr : ∀ {v : Value} {m : Nat} {xs : List Value}, w.ownsRow 0 5 1 v m xs → ∀ g, v.ownBlock = some g → ¬ S g := fun ho g hg => n g (own_heap ho hg).2.1
  exact ⟨hk.blk h.obj (n _ l1), ⟨f, h1.keep hk (n _ l2), h2⟩, ⟨g, h3.keep hk (n _ l3), h4⟩, ar_keep h.ar hk (n _ (h0.ar.lt _ (.inl rfl))) (n _ (h0.ar.lt _ (.inr rfl))), li_keep h.li hk (n _ h0.li.lt.1) (fun k ho => n _ (h0.li.lt.2 k ho)), h.lN, h.ln, h.inv,
    fun q hq => (h.rd q hq).keep hk (nr (h0.rd q (hsub q hq)).k) (nr (h0.rd q (hsub q hq)).v), h.mm⟩
/-- An item is put out. -/
def OutP (L : RL) (D : AD) (xs ys : List HM) (x : HM) (w : World) (e : Ending) (w' : World) : Prop :=
  e = .returned (.tuple #[x.val, .bool true]) ∧ RAt w' L (D.less x.ch) (xs ++ ys) ∧ Reads w' x.it x.kv x.vv ∧ Keeps L.own w w'
def OutC (L : RL) (w3 : World) (c : Int) (wx : World) : Prop := ∃ w4, Keeps (fun _ => False) w3 w4 ∧ wx = w4.setCell ⟨L.B, 5, none⟩ (.int .i64 c)
set_option maxRecDepth 100000 in
set_option maxHeartbeats 4000000 in
theorem out_there (L : RL) (D : AD) (xs ys : List HM) (x : HM) (w : World) (h : RAt w L D (xs ++ x :: ys)) :
    Calls Tryd.prog 62 #[L.ptr, .string (strOfNums x.it.key)] w (OutP L D xs ys x w) := by
  have hx : x ∈ xs ++ x :: ys := by simp
  have hne := h.ne
  have hsum := h.sum
  have hmid := sumC_mid xs x ys
  have hgood := h.inv.good x hx
  have hchg := hgood.1.chg
  have hch := h.chlt x hx
  have hn2 := h.ar.n2
  have hcl := h.cllt x hx
  have hfind := h.inv.at_.find
  obtain ⟨f, hm1, hf⟩ := h.at'
  obtain ⟨g, hm2, hg⟩ := h.th
  have hfx := hf.mem x hx
  have hgx := hg.mem x hx
  have hrd := h.rd x hx
  have hoff := h.off
  obtain ⟨ka, kc, hka, _⟩ := own_bytes hrd.k
  obtain ⟨va, vc, hva, _⟩ := own_bytes hrd.v
  obtain ⟨W0, hW0⟩ : ∃ W0, W0 = w.alloc (.cells zItem.toArray 64) := ⟨_, rfl⟩
  have k0 : Keeps (fun _ => False) w W0 := by rw [hW0]; exact (Keeps.refl _ _).alloc _
  have hz0 : Blk W0 w.heap.size 64 zItem := by rw [hW0]; exact Blk.new w 64 _
  have HT := Lib.hid (take_there L x.it.key x.ch _ x.it ka va x.it.key.length kc x.it.val.length vc f g W0 (hm1.keep k0 id) (hm2.keep k0 id) h.mm (by have := hgood.1.k2; omega) (by omega) hfx (by rw [← hka, ← hva]; exact hgx))
  have hb0 := k0.blk h.obj id
  have c0 := hb0.cell (i := 0) rfl
  have c1 := hb0.cell (i := 1) rfl
  have HH := Lib.hid h
  have HNE := Lib.hid hne
  have HK0 := Lib.hid k0
  have HB0 := Lib.hid hb0
  have HZ0 := Lib.hid hz0
  have HW0 := Lib.hid hW0
  have HRD := Lib.hid hrd
  have HOFF := Lib.hid (hoff x hx)
  have HF := Lib.hid hf
  have HG := Lib.hid hg
  have HX := Lib.hid hx
  have HGO := Lib.hid hgood
  have HKA := Lib.hid hka
  have HVA := Lib.hid hva
  have HMID := Lib.hid hmid
  have HFD := Lib.hid hfind
  clear h hne k0 hb0 hz0 hW0 hrd hoff hf hg hx hgood hm1 hm2 hfx hgx hka hva hmid hfind
  unfold TakeF shelfV IT.agg at HT
  unfold RL.ptr
  go_enter Tryd.func62, Tryd.ntmps62
  go_upto_region 1 with fail
  rw [show w.alloc (Obj.cells #[Value.slice none 0 0, Value.slice none 0 0, Value.int .u32 0, Value.int .u32 0, Value.int .u64 0, Value.bool false] 64) = W0 from HW0.out.symm]
  go_wp2_with fail
  refine HT.out.mono ?_
  rintro e w1 ⟨rfl, hm1, hm2, hk1⟩
  go_upto_region 3 with fail
  obtain ⟨W1, hW1⟩ : ∃ W1, W1 = w1.alloc (.cells #[.slice ka x.it.key.length kc, .slice va x.it.val.length vc, .int .u32 x.it.fg, .int .u32 x.it.ex, .int .u64 x.it.sq, .bool x.it.dt] 64) := ⟨_, rfl⟩
  have k1 : Keeps (fun k => k = L.ma ∨ k = L.mt) w W1 := by rw [hW1]; exact ((HK0.out.mono (fun _ _ h => h.elim)).trans hk1).alloc _
  have hk01 : Keeps (fun k => k = L.ma ∨ k = L.mt) W0 W1 := by rw [hW1]; exact hk1.alloc _
  have hq1 : Keeps (fun _ => False) w1 W1 := by rw [hW1]; exact (Keeps.refl _ _).alloc _
  have hit : Blk W1 w1.heap.size 64 [.slice ka x.it.key.length kc, .slice va x.it.val.length vc, .int .u32 x.it.fg, .int .u32 x.it.ex, .int .u64 x.it.sq, .bool x.it.dt] := by rw [hW1]; exact Blk.new w1 64 _
  rw [← hW1]
  have hB : ¬ (L.B = L.ma ∨ L.B = L.mt) := fun e => e.elim HNE.out.bm HNE.out.bt
  have hb1 := k1.blk HH.out.obj hB
  have hli := li_keep HH.out.li k1 (fun e => e.elim HNE.out.km HNE.out.kt) (fun k ho e => by
    rcases e with rfl | rfl
    · exact HNE.out.lm ho
    · exact HNE.out.lt ho)
  have har := ar_keep HH.out.ar k1 (fun e => e.elim HNE.out.am HNE.out.at') (fun e => e.elim HNE.out.gm HNE.out.gt)
  have HRM := Lib.hid (remove_ok L.lk W1 _ hli x.ch x.cl (lsOf xs x.cl) (lsOf ys x.cl) (by rw [HH.out.ln]; exact hcl) (lsOf_mid xs x ys))
  have HM1 := Lib.hid (hm1.keep hq1 id)
  have HM2 := Lib.hid (hm2.keep hq1 id)
  have HB1 := Lib.hid hb1
  have HAR := Lib.hid har
  have HK1 := Lib.hid k1
  have HIT := Lib.hid hit
  have hsz : w.heap.size < w1.heap.size := Nat.lt_of_lt_of_le HZ0.out.lt hk1.size
  have HZ1 : Hid (Blk W1 w.heap.size 64 zItem) := Lib.hid (hk01.blk HZ0.out (fun e => by
    have := HH.out.lt
    rcases e with e | e <;> omega))
  unfold RL.obj at hb1
  have c3 := hb1.cell (i := 3) rfl
  unfold LK.Next at HRM
  unfold LK.ptr at HRM c3
  clear hm1 hm2 hk1 k1 hk01 hq1 hit hb1 hli har hW1 HT c0 c1
  go_wp2_with fail
  refine HRM.out.mono ?_
  rintro e w2 ⟨rfl, hl2, hk2⟩
  have hb2 := hk2.blk HB1.out HNE.out.bl
  have ha2 := ar_keep HAR.out hk2 HNE.out.al HNE.out.gl
  have HTK := Lib.hid (take_any L.al D w2 ha2 (x.ch : Int) (by omega))
  unfold TakeP at HTK
  unfold RL.obj at hb2
  have c2 := hb2.cell (i := 2) rfl
  unfold AL.ptr at HTK c2
  have HL2 := Lib.hid hl2
  have HB2 := Lib.hid hb2
  have HK2 := Lib.hid hk2
  clear hl2 hb2 hk2 ha2 HRM c3
  go_wp2_with fail
  refine HTK.out.mono ?_
  rintro e w3 ⟨rfl, _, hk3⟩
  obtain ⟨hk3, ha3⟩ := hk3 HFD.out
  have hown : ∀ k, L.own k → k < w.heap.size := HH.out.lt.2.2.2
  have nG : ∀ q, w.heap.size ≤ q → ¬ (q = L.al.G) := fun q hq e => by
    have := hown _ (.inr (.inr (.inr (.inl rfl))) : L.own L.al.G)
    omega
  have nL : ∀ q, w.heap.size ≤ q → ¬ L.lk.own q := fun q hq ho => by
    have := hown q (.inr (.inr (.inr (.inr ho))))
    omega
  have HL3 := Lib.hid (li_keep HL2.out hk3 (fun e => HNE.out.gk e.symm) (fun k ho e => HNE.out.gl (show L.lk.own L.al.G from (show k = L.al.G from e) ▸ ho)))
  have HM1' := Lib.hid ((HM1.out.keep HK2.out HNE.out.lm).keep hk3 (fun e => HNE.out.gm e.symm))
  have HM2' := Lib.hid ((HM2.out.keep HK2.out HNE.out.lt).keep hk3 (fun e => HNE.out.gt e.symm))
  have HB3 := Lib.hid (hk3.blk HB2.out HNE.out.bg)
  have HIT3 := Lib.hid (hk3.blk (HK2.out.blk HIT.out (nL _ (by omega))) (nG _ (by omega)))
  have HZ3 := Lib.hid (hk3.blk (HK2.out.blk HZ1.out (nL _ (Nat.le_refl _))) (nG _ (Nat.le_refl _)))
  have HKO : Hid (Keeps L.own w w3) := Lib.hid (((HK1.out.mono (S' := L.own) (fun k _ h => h.elim (fun e => .inr (.inl e)) (fun e => .inr (.inr (.inl e))))).trans (HK2.out.mono fun k _ h => .inr (.inr (.inr (.inr h))))).trans (hk3.mono fun k _ h => .inr (.inr (.inr (.inl h)))))
  have HR3 : Hid (Reads w3 x.it x.kv x.vv) := Lib.hid (HRD.out.keep HKO.out HOFF.out.1 HOFF.out.2)
  have HA3 := Lib.hid ha3
  have HCH : Hid (∀ W, Keeps (fun _ => False) w3 W → Calls Tryd.prog 63 #[.agg #[.slice ka x.it.key.length kc, .slice va x.it.val.length vc, .int .u32 x.it.fg, .int .u32 x.it.ex, .int .u64 x.it.sq, .bool x.it.dt]] W (IntP (x.it.chg : Nat) W)) := Lib.hid (fun W hk => by
    have := charge_any x.it x.kv x.vv W (HR3.out.itb.quiet hk) (by have := HGO.out.1.k2; omega) (by have := HGO.out.1.v2; omega)
    unfold IT.agg at this
    rw [HKA.out, HVA.out] at this
    exact this)
  have hw : IntKind.i64.wrap (((sumC (xs ++ x :: ys) : Nat) : Int) - ((x.it.chg : Nat) : Int)) = ((sumC (xs ++ x :: ys) : Nat) : Int) - ((x.it.chg : Nat) : Int) := IntWalk.i64_in _ (by omega)
  clear hk3 ha3 HTK c2 hown nG nL
  go_upto_region 5 with fail
  go_cut [] (fun wx => OutC L w3 (((sumC (xs ++ x :: ys) : Nat) : Int) - ((x.it.chg : Nat) : Int)) wx)
  case first =>
    have hb := HB3.out
    unfold RL.obj at hb
    have c5 := hb.cell (i := 5) rfl
    have f5 := hb.free 5
    have hi3 := HIT3.out
    have n0 := hi3.cell (i := 0) rfl
    have n1 := hi3.cell (i := 1) rfl
    have n2 := hi3.cell (i := 2) rfl
    have n3 := hi3.cell (i := 3) rfl
    have n4 := hi3.cell (i := 4) rfl
    have n5 := hi3.cell (i := 5) rfl
    have HF5 : Hid (∀ W, Keeps (fun _ => False) w3 W → W.cell? ⟨L.B, 5, none⟩ = some (.int .i64 ((sumC (xs ++ x :: ys) : Nat) : Int)) ∧ W.frozen? ⟨L.B, 5, none⟩ = false) := Lib.hid (fun W hk => by
      have h := hk.blk HB3.out id
      unfold RL.obj at h
      exact ⟨h.cell (i := 5) rfl, h.free 5⟩)
    clear hb hi3
    go_region_with (go_at_call 63; refine (HCH.out _ (Keeps.refl _ _).drew).mono ?_; rintro e w4 ⟨rfl, hk4⟩; have hk4' : Keeps (fun _ => False) w3 w4 := (Keeps.refl (fun _ => False) w3).drew.trans hk4; obtain ⟨d5, g5⟩ := HF5.out _ hk4')
    all_goals
      go_wp2_with fail
      go_meet
      exact ⟨w4, hk4', rfl⟩
  case rest =>
    obtain ⟨w4, hk4, hwc⟩ := hcut
    have k5 : Keeps (fun k => k = L.B) w3 wc := by rw [hwc]; exact (hk4.mono (S' := fun k => k = L.B) fun _ _ h => h.elim).store (p := ⟨L.B, 5, none⟩) (.inl rfl) _
    have hb5 : Blk wc L.B 115 (L.obj D.n (sumC (xs ++ ys))) := by
      have h := (hk4.blk HB3.out id).store 5 (.int .i64 (((sumC (xs ++ x :: ys) : Nat) : Int) - ((x.it.chg : Nat) : Int)))
      rw [← hwc] at h
      have e : ((sumC (xs ++ x :: ys) : Nat) : Int) - ((x.it.chg : Nat) : Int) = ((sumC (xs ++ ys) : Nat) : Int) := by
        rw [HMID.out]; push_cast; omega
      rw [e] at h
      exact h
    have hBlt := HH.out.lt.1
    have hit5 := k5.blk HIT3.out (fun e => by have e : w1.heap.size = L.B := e; omega)
    have hz5 := k5.blk HZ3.out (fun e => by have e : w.heap.size = L.B := e; omega)
    have e1 : (f (keyL x.it.key)).isSome = true := by rw [show f (keyL x.it.key) = some (atV x) from HF.out.mem x HX.out]; rfl
    have e2 : (g (chL x.ch)).isSome = true := by rw [show g (chL x.ch) = some x.val from HG.out.mem x HX.out]; rfl
    have hlen : (xs ++ x :: ys).length - 1 = (xs ++ ys).length := by simp
    have r1 := HM1'.out
    have r2 := HM2'.out
    rw [hlen] at r1 r2
    have HRA : Hid (RAt wc L (D.less x.ch) (xs ++ ys)) := Lib.hid (by
      have hls : lsOf (xs ++ ys) = upd (lsOf (xs ++ x :: ys)) x.cl (lsOf xs x.cl ++ lsOf ys x.cl) := lsOf_out xs x ys
      refine ⟨hb5, ⟨_, r1.keep k5 (fun e => HNE.out.bm e.symm), HF.out.del (fun q hq e => ?_)⟩, ⟨_, r2.keep k5 (fun e => HNE.out.bt e.symm), HG.out.del (fun q hq e => ?_)⟩, ar_keep HA3.out k5 (fun e => HNE.out.ba e.symm) (fun e => HNE.out.bg e.symm), ?_, HH.out.lN, HH.out.ln, HH.out.inv.out, fun q hq => ?_, HH.out.mm⟩
      · have h1 := (HH.out.inv.good q (mem_mid.2 (.inr hq))).1.kb
        exact HH.out.inv.keyne q hq (keyL_inj h1 HGO.out.1.kb e)
      · exact HH.out.inv.chne q hq (chL_inj e)
      · rw [hls]
        exact li_keep HL3.out k5 (fun e => HNE.out.bk e.symm) (fun k ho e => HNE.out.bl (show L.lk.own L.B from (show k = L.B from e) ▸ ho))
      · obtain ⟨o1, o2⟩ := HH.out.off q (mem_mid.2 (.inr hq))
        exact (HH.out.rd q (mem_mid.2 (.inr hq))).keep (HKO.out.trans (k5.mono fun k _ e => .inl e)) o1 o2)
    have HRE : Hid (Reads wc x.it x.kv x.vv) := Lib.hid (HR3.out.keep k5 (fun q hq e => HOFF.out.1 q hq (.inl e)) (fun q hq e => HOFF.out.2 q hq (.inl e)))
    have HKF : Hid (Keeps L.own w wc) := Lib.hid (HKO.out.trans (k5.mono fun k _ e => .inl e))
    have HZ5 := Lib.hid hz5
    obtain ⟨w5, rfl⟩ : ∃ w5, w5 = wc := ⟨_, rfl⟩
    have n0 := hit5.cell (i := 0) rfl
    have n1 := hit5.cell (i := 1) rfl
    have n2 := hit5.cell (i := 2) rfl
    have n3 := hit5.cell (i := 3) rfl
    have n4 := hit5.cell (i := 4) rfl
    have n5 := hit5.cell (i := 5) rfl
    have y0 := hz5.cell (i := 0) rfl
    have y1 := hz5.cell (i := 1) rfl
    have y2 := hz5.cell (i := 2) rfl
    have y3 := hz5.cell (i := 3) rfl
    have y4 := hz5.cell (i := 4) rfl
    have y5 := hz5.cell (i := 5) rfl
    have y0f := hz5.free 0
    have y1f := hz5.free 1
    have y2f := hz5.free 2
    have y3f := hz5.free 3
    have y4f := hz5.free 4
    have y5f := hz5.free 5
    clear hit5 hz5 hb5 r1 r2 hwc hk4 k5 HCH
    go_wp2_with fail
    have ho := ((((((HZ5.out.store 0 (.slice ka x.it.key.length kc)).store 1 (.slice va x.it.val.length vc)).store 2 (.int .u32 x.it.fg)).store 3 (.int .u32 x.it.ex)).store 4 (.int .u64 x.it.sq)).store 5 (.bool x.it.dt))
    have hk6 : Keeps (fun k => k = w.heap.size) w5 ((((((w5.setCell ⟨w.heap.size, 0, none⟩ (.slice ka x.it.key.length kc)).setCell ⟨w.heap.size, 1, none⟩ (.slice va x.it.val.length vc)).setCell ⟨w.heap.size, 2, none⟩ (.int .u32 x.it.fg)).setCell ⟨w.heap.size, 3, none⟩ (.int .u32 x.it.ex)).setCell ⟨w.heap.size, 4, none⟩ (.int .u64 x.it.sq)).setCell ⟨w.heap.size, 5, none⟩ (.bool x.it.dt)) := (((((((Keeps.refl (fun k => k = w.heap.size) w5).store (p := ⟨w.heap.size, 0, none⟩) (.inl rfl) _).store (p := ⟨w.heap.size, 1, none⟩) (.inl rfl) _).store (p := ⟨w.heap.size, 2, none⟩) (.inl rfl) _).store (p := ⟨w.heap.size, 3, none⟩) (.inl rfl) _).store (p := ⟨w.heap.size, 4, none⟩) (.inl rfl) _).store (p := ⟨w.heap.size, 5, none⟩) (.inl rfl) _)
    have q0 := ho.cell (i := 0) rfl
    have q1 := ho.cell (i := 1) rfl
    have q2 := ho.cell (i := 2) rfl
    have q3 := ho.cell (i := 3) rfl
    have q4 := ho.cell (i := 4) rfl
    have q5 := ho.cell (i := 5) rfl
    have hab : ∀ k, k = w.heap.size → w.heap.size ≤ k := fun k e => by omega
    have hra := HH.out.above HRA.out (fun q hq => mem_mid.2 (.inr hq)) hk6 hab
    have hre := HRE.out.keep hk6 (fun q hq e => by
      have := (own_heap HRD.out.k hq).2.1
      have e : q = w.heap.size := e
      omega) (fun q hq e => by
      have := (own_heap HRD.out.v hq).2.1
      have e : q = w.heap.size := e
      omega)
    have hkf : Keeps L.own w _ := ((HKF.out.mono (S' := fun k => L.own k ∨ k = w.heap.size) (fun k _ h => .inl h)).trans (hk6.mono fun k _ h => .inr h)).mono (S' := L.own) fun k hk' h => h.elim id fun e => by omega
    refine bodyPost_ret (v := .tuple #[.agg #[.slice ka x.it.key.length kc, .slice va x.it.val.length vc, .int .u32 x.it.fg, .int .u32 x.it.ex, .int .u64 x.it.sq, .bool x.it.dt], .bool true]) (by simp [results, Tryd.f62, go_sem, q0, q1, q2, q3, q4, q5]) rfl ⟨?_, hra, hre, hkf⟩
    unfold HM.val IT.agg
    rw [HKA.out, HVA.out]
end Go.Proofs.YthnagihgjenimaaDoor

/- ram: out of a key that is not there; Len, Charge. -/
namespace Go.Proofs.YthnagihgjenimaaDoor
open Go.RowKit
set_option linter.unusedVariables false
set_option linter.unusedSimpArgs false
/-- What the map of things tells of chunk 0 has an item's shape. -/
theorem RAt.zero {w : World} {L : RL} {D : AD} {hs : List HM} (h : RAt w L D hs) {g : Lit → Option Value} (hg : Mapped g hs thK HM.val) : ∃ (i : IT) (ka va : Option Addr) (kn kc vn vc : Nat), (g (chL 0)).getD zItemV = i.agg (.slice ka kn kc) (.slice va vn vc) := by
  cases hz : g (chL 0) with
  | none => exact ⟨⟨[], [], 0, 0, 0, false⟩, none, none, 0, 0, 0, 0, rfl⟩
  | some v =>
    obtain ⟨x, hx, hk⟩ := hg.out _ _ hz
    have := hg.mem x hx
    rw [hk, hz] at this
    injection this with this
    subst this
    have hr := h.rd x hx
    obtain ⟨ka, kc, e1, _⟩ := own_bytes hr.k
    obtain ⟨va, vc, e2, _⟩ := own_bytes hr.v
    refine ⟨x.it, ka, va, x.it.key.length, kc, x.it.val.length, vc, ?_⟩
    show x.val = _
    unfold HM.val
    rw [e1, e2]
def GoneP (w : World) (e : Ending) (w' : World) : Prop := (∃ v, e = .returned (.tuple #[v, .bool false])) ∧ Keeps (fun _ => False) w w'
set_option maxRecDepth 100000 in
set_option maxHeartbeats 4000000 in
theorem out_gone (L : RL) (D : AD) (hs : List HM) (k : List Int) (w : World) (h : RAt w L D hs) (hkl : k.length ≤ 140737488351232) (hkb : Bytes k) (hn : ∀ x ∈ hs, x.it.key ≠ k) :
    Calls Tryd.prog 62 #[L.ptr, .string (strOfNums k)] w (GoneP w) := by
  obtain ⟨f, hm1, hf⟩ := h.at'
  obtain ⟨g, hm2, hg⟩ := h.th
  obtain ⟨i, ka, va, kn, kc, vn, vc, hgz⟩ := h.zero hg
  have hfn : f (keyL k) = none := hf.none fun x hx e => hn x hx (keyL_inj (h.inv.good x hx).1.kb hkb e)
  obtain ⟨W0, hW0⟩ : ∃ W0, W0 = w.alloc (.cells zItem.toArray 64) := ⟨_, rfl⟩
  have k0 : Keeps (fun _ => False) w W0 := by rw [hW0]; exact (Keeps.refl _ _).alloc _
  have hz0 : Blk W0 w.heap.size 64 zItem := by rw [hW0]; exact Blk.new w 64 _
  have HT := Lib.hid (take_gone L k _ i ka va kn kc vn vc f g W0 (hm1.keep k0 id) (hm2.keep k0 id) h.mm hkl hfn hgz)
  have hb0 := k0.blk h.obj id
  have c0 := hb0.cell (i := 0) rfl
  have c1 := hb0.cell (i := 1) rfl
  have HK0 := Lib.hid k0
  have HZ0 := Lib.hid hz0
  have HW0 := Lib.hid hW0
  clear h k0 hb0 hz0 hW0 hf hg hm1 hm2 hfn hgz hn
  unfold TakeN shelfV IT.agg at HT
  unfold RL.ptr
  go_enter Tryd.func62, Tryd.ntmps62
  go_upto_region 1 with fail
  rw [show w.alloc (Obj.cells #[Value.slice none 0 0, Value.slice none 0 0, Value.int .u32 0, Value.int .u32 0, Value.int .u64 0, Value.bool false] 64) = W0 from HW0.out.symm]
  go_wp2_with fail
  refine HT.out.mono ?_
  rintro e w1 ⟨rfl, hk1⟩
  go_upto_region 6 with fail
  obtain ⟨W1, hW1⟩ : ∃ W1, W1 = w1.alloc (.cells #[.slice ka kn kc, .slice va vn vc, .int .u32 i.fg, .int .u32 i.ex, .int .u64 i.sq, .bool i.dt] 64) := ⟨_, rfl⟩
  have k1 : Keeps (fun _ => False) w W1 := by rw [hW1]; exact (HK0.out.trans hk1).alloc _
  have k01 : Keeps (fun _ => False) W0 W1 := by rw [hW1]; exact hk1.alloc _
  have hit : Blk W1 w1.heap.size 64 [.slice ka kn kc, .slice va vn vc, .int .u32 i.fg, .int .u32 i.ex, .int .u64 i.sq, .bool i.dt] := by rw [hW1]; exact Blk.new w1 64 _
  have hz := k01.blk HZ0.out id
  rw [← hW1]
  have HK1 := Lib.hid k1
  have HZ1 := Lib.hid hz
  have n0 := hit.cell (i := 0) rfl
  have n1 := hit.cell (i := 1) rfl
  have n2 := hit.cell (i := 2) rfl
  have n3 := hit.cell (i := 3) rfl
  have n4 := hit.cell (i := 4) rfl
  have n5 := hit.cell (i := 5) rfl
  have y0 := hz.cell (i := 0) rfl
  have y1 := hz.cell (i := 1) rfl
  have y2 := hz.cell (i := 2) rfl
  have y3 := hz.cell (i := 3) rfl
  have y4 := hz.cell (i := 4) rfl
  have y5 := hz.cell (i := 5) rfl
  have y0f := hz.free 0
  have y1f := hz.free 1
  have y2f := hz.free 2
  have y3f := hz.free 3
  have y4f := hz.free 4
  have y5f := hz.free 5
  clear hk1 k1 k01 hit hz hW1 HT c0 c1
  go_wp2_with fail
  have ho := ((((((HZ1.out.store 0 (.slice ka kn kc)).store 1 (.slice va vn vc)).store 2 (.int .u32 i.fg)).store 3 (.int .u32 i.ex)).store 4 (.int .u64 i.sq)).store 5 (.bool i.dt))
  have hk6 : Keeps (fun k => k = w.heap.size) W1 ((((((W1.setCell ⟨w.heap.size, 0, none⟩ (.slice ka kn kc)).setCell ⟨w.heap.size, 1, none⟩ (.slice va vn vc)).setCell ⟨w.heap.size, 2, none⟩ (.int .u32 i.fg)).setCell ⟨w.heap.size, 3, none⟩ (.int .u32 i.ex)).setCell ⟨w.heap.size, 4, none⟩ (.int .u64 i.sq)).setCell ⟨w.heap.size, 5, none⟩ (.bool i.dt)) := (((((((Keeps.refl (fun k => k = w.heap.size) W1).store (p := ⟨w.heap.size, 0, none⟩) (.inl rfl) _).store (p := ⟨w.heap.size, 1, none⟩) (.inl rfl) _).store (p := ⟨w.heap.size, 2, none⟩) (.inl rfl) _).store (p := ⟨w.heap.size, 3, none⟩) (.inl rfl) _).store (p := ⟨w.heap.size, 4, none⟩) (.inl rfl) _).store (p := ⟨w.heap.size, 5, none⟩) (.inl rfl) _)
  have q0 := ho.cell (i := 0) rfl
  have q1 := ho.cell (i := 1) rfl
  have q2 := ho.cell (i := 2) rfl
  have q3 := ho.cell (i := 3) rfl
  have q4 := ho.cell (i := 4) rfl
  have q5 := ho.cell (i := 5) rfl
  have hkf : Keeps (fun _ => False) w _ := ((HK1.out.mono (S' := fun k => k = w.heap.size) (fun k _ h => h.elim)).trans hk6).mono (S' := fun _ => False) fun k hk' h => by
    have h : k = w.heap.size := h
    omega
  refine bodyPost_ret (v := .tuple #[.agg #[.slice ka kn kc, .slice va vn vc, .int .u32 i.fg, .int .u32 i.ex, .int .u64 i.sq, .bool i.dt], .bool false]) (by simp [results, Tryd.f62, go_sem, q0, q1, q2, q3, q4, q5]) rfl ⟨⟨_, rfl⟩, hkf⟩
theorem len_any' (L : RL) (D : AD) (hs : List HM) (w : World) (h : RAt w L D hs) : Calls Tryd.prog 37 #[L.ptr] w fun e w' => e = .returned (.int .i64 (hs.length : Nat)) ∧ w' = w := by
  obtain ⟨f, hm1, hf⟩ := h.at'
  have hl := fun ty => hm1.len Tryd.underlying110 ty
  have c0 := h.obj.cell (i := 0) rfl
  clear h hm1
  unfold RL.ptr
  go_enter Tryd.func37, Tryd.ntmps37
  go_wp2_with fail
  go_ret
  exact ⟨rfl, rfl⟩
theorem charge_all (L : RL) (D : AD) (hs : List HM) (w : World) (h : RAt w L D hs) : Calls Tryd.prog 36 #[L.ptr] w fun e w' => e = .returned (.int .i64 (sumC hs : Nat)) ∧ w' = w := by
  have c5 := h.obj.cell (i := 5) rfl
  clear h
  unfold RL.ptr
  go_enter Tryd.func36, Tryd.ntmps36
  go_wp2_with fail
  go_ret
  exact ⟨rfl, rfl⟩
theorem len_nil' (w : World) : Calls Tryd.prog 37 #[.pointer none] w fun e w' => e = .returned (.int .i64 0) ∧ w' = w := by
  go_enter Tryd.func37, Tryd.ntmps37
  go_wp2_with fail
  go_ret
  exact ⟨rfl, rfl⟩
theorem charge_nil (w : World) : Calls Tryd.prog 36 #[.pointer none] w fun e w' => e = .returned (.int .i64 0) ∧ w' = w := by
  go_enter Tryd.func36, Tryd.ntmps36
  go_wp2_with fail
  go_ret
  exact ⟨rfl, rfl⟩
end Go.Proofs.YthnagihgjenimaaDoor

/- ram: oldest. -/
namespace Go.Proofs.YthnagihgjenimaaDoor
open Go.RowKit
set_option linter.unusedVariables false
set_option linter.unusedSimpArgs false
theorem field64 (a b c d e f : Value) (w : World) : (Instr.field 64 (.agg #[a, b, c, d, e, f]) 0).run Tryd.prog w = .ok a w := by
  kernel_rfl
set_option maxRecDepth 100000 in
/-- string(b), b a row of bytes of the call's own. -/
theorem conv_own {w : World} {base : Nat} {v : Value} {xs : List Int} (h : w.ownsRow base 5 1 v xs.length (nb xs)) : (convert 56 9 v).run Tryd.prog w = .ok (.string (strOfNums xs)) w := by
  rcases h.2 with ⟨rfl, h0⟩ | ⟨g, cap, cur, rfl, _⟩
  · have : xs = [] := List.eq_nil_of_length_eq_zero h0
    subst this
    exact run_convert_bytes_nil w 56 5 Tryd.underlying56 Tryd.underlying5 0 0 9 Tryd.underlying9
  · obtain ⟨a, c, e, _, _, hr⟩ := own_bytes h
    injection e with e1 e2 e3
    subst e1
    refine run_convert_bytes_arg w 56 5 Tryd.underlying56 Tryd.underlying5 g 0 xs.length cap xs rfl (fun i hi => ?_) 9 Tryd.underlying9
    obtain ⟨ad, e, hc⟩ := hr.2 i hi
    injection e with e
    subst e
    have : (⟨g, 0, none⟩ : Addr).add i = ⟨g, 0 + i, none⟩ := by unfold Addr.add; split <;> simp_all
    rw [← this]
    exact hc
/-- The class whose oldest goes. -/
def Pick (hs : List HM) (cl c : Nat) : Prop := lsOf hs c ≠ [] ∧ (c = cl ∨ (lsOf hs cl = [] ∧ c < 8 ∧ ∀ j, j < c → lsOf hs j = []))
def OldP (hs : List HM) (cl : Nat) (w : World) (e : Ending) (w' : World) : Prop :=
  ∃ xs x ys, hs = xs ++ x :: ys ∧ Pick hs cl x.cl ∧ lsOf ys x.cl = [] ∧ e = .returned (.tuple #[.string (strOfNums x.it.key), .bool true]) ∧ Keeps (fun _ => False) w w'
theorem all_empty {w : World} {L : RL} {D : AD} {hs : List HM} (h : RAt w L D hs) (he : ∀ j, j < 8 → lsOf hs j = []) : hs = [] := by
  cases hs with
  | nil => rfl
  | cons x r =>
    have := he x.cl (h.cllt x (List.mem_cons_self ..))
    rw [lsOf_cons, upd_same] at this
    cases this
set_option maxRecDepth 100000 in
set_option maxHeartbeats 4000000 in
theorem oldest_key (L : RL) (D : AD) (hs : List HM) (cl : Nat) (w : World) (h : RAt w L D hs) (hcl : cl < 8) (hne : hs ≠ []) : Calls Tryd.prog 64 #[L.ptr, .int .i64 (cl : Int)] w (OldP hs cl w) := by
  have HH := Lib.hid h
  have HN := Lib.hid hne
  clear h hne
  unfold RL.ptr
  go_enter Tryd.func64, Tryd.ntmps64
  go_wp2_with fail
  go_loopw [6] (fun v wr => ∃ t : Nat, t ≤ 9 ∧ v = .int .i64 ((t : Int) - 1) ∧ Keeps (fun _ => False) w wr ∧ (1 ≤ t → lsOf hs cl = []) ∧ ∀ j, j + 1 < t → lsOf hs j = []) (fun v _ => 9 - (intOf v + 1).toNat)
  case atStart => exact ⟨0, by omega, rfl, Keeps.refl _ _, fun h => absurd h (by omega), fun j hj => absurd hj (by omega)⟩
  case round =>
    obtain ⟨t, ht, rfl, hk, h1, h2⟩ := hrel
    have HK := Lib.hid hk
    have H1 := Lib.hid h1
    have H2 := Lib.hid h2
    have hr := HH.out.quiet hk
    have HR := Lib.hid hr
    have hb := hr.obj
    unfold RL.obj at hb
    have c3 := hb.cell (i := 3) rfl
    unfold LK.ptr at c3
    clear hk h1 h2 hr hb
    by_cases h9 : t = 9
    · exfalso
      exact HN.out (all_empty HH.out fun j hj => H2.out j (by omega))
    · have hlt : ((t : Int) - 1) < 8 := by omega
      obtain ⟨c, hc8, hct⟩ : ∃ c : Nat, c < 8 ∧ ((t = 0 ∧ c = cl) ∨ (1 ≤ t ∧ c = t - 1)) := by
        by_cases h0 : t = 0
        · exact ⟨cl, hcl, .inl ⟨h0, rfl⟩⟩
        · exact ⟨t - 1, by omega, .inr ⟨by omega, rfl⟩⟩
      have hci : ((t = 0 ∧ ((t : Int) - 1) < 0) ∨ (1 ≤ t ∧ 0 ≤ ((t : Int) - 1) ∧ ((c : Nat) : Int) = (t : Int) - 1)) := by
        rcases hct with ⟨h, _⟩ | ⟨h, h'⟩
        · exact .inl ⟨h, by omega⟩
        · exact .inr ⟨h, by omega, by omega⟩
      by_cases hl : lsOf hs c = []
      · have HO := Lib.hid (oldest_none L.lk wr _ HR.out.li c (by rw [HR.out.ln]; exact hc8) hl)
        unfold Told two LK.ptr at HO
        have HNX : Hid ((1 ≤ t + 1 → lsOf hs cl = []) ∧ ∀ j, j + 1 < t + 1 → lsOf hs j = []) := Lib.hid (by
          refine ⟨fun _ => ?_, fun j hj => ?_⟩
          · rcases hct with ⟨h, rfl⟩ | ⟨h, _⟩
            · exact hl
            · exact H1.out h
          · rcases hct with ⟨h, _⟩ | ⟨h, hc⟩
            · omega
            · by_cases hjc : j = c
              · subst hjc; exact hl
              · exact H2.out j (by omega))
        have hw : IntKind.i64.wrap ((t : Int) - 1 + 1) = ((t + 1 : Nat) : Int) - 1 := by
          rw [show (t : Int) - 1 + 1 = ((t + 1 : Nat) : Int) - 1 by push_cast; omega]
          exact IntWalk.i64_in _ (by omega)
        clear hl
        rcases hci with ⟨h0, hneg⟩ | ⟨h0, hpos, hceq⟩
        · obtain rfl : c = cl := by omega
          clear hct
          go_wp2_with fail
          refine HO.out.mono ?_
          rintro e w2 ⟨rfl, hk2⟩
          have HK2 := Lib.hid (HK.out.trans hk2)
          clear hk2
          go_wp2_with fail
          go_roundw
          case rel => exact ⟨t + 1, by omega, by first | (rw [hw]; done) | (congr 1; omega), HK2.out, HNX.out.1, HNX.out.2⟩
          case measure => simp [intOf]; omega
        · rw [hceq] at HO
          clear hct
          go_wp2_with fail
          refine HO.out.mono ?_
          rintro e w2 ⟨rfl, hk2⟩
          have HK2 := Lib.hid (HK.out.trans hk2)
          clear hk2
          go_wp2_with fail
          go_roundw
          case rel => exact ⟨t + 1, by omega, by first | (rw [hw]; done) | (congr 1; omega), HK2.out, HNX.out.1, HNX.out.2⟩
          case measure => simp [intOf]; omega
      · obtain ⟨n, hn⟩ : ∃ n, (lsOf hs c).getLast? = some n := by
          cases hq : (lsOf hs c).getLast? with
          | none => exact absurd (List.getLast?_eq_none_iff.1 hq) hl
          | some n => exact ⟨n, rfl⟩
        obtain ⟨xs, x, ys, hsplit, hxc, hxn, hys⟩ := lsOf_last hn
        have hx : x ∈ hs := by rw [hsplit]; simp
        have hO := oldest_ok L.lk wr _ HR.out.li c n (by rw [HR.out.ln]; exact hc8) hn
        rw [← hxn] at hO
        have HO := Lib.hid hO
        unfold Told two LK.ptr at HO
        have HPK : Hid (Pick hs cl x.cl) := Lib.hid (by
          rw [hxc]
          refine ⟨hl, ?_⟩
          rcases hct with ⟨_, h⟩ | ⟨h, hc⟩
          · exact .inl h
          · exact .inr ⟨H1.out h, hc8, fun j hj => H2.out j (by omega)⟩)
        have HSP : Hid (hs = xs ++ x :: ys ∧ lsOf ys x.cl = []) := Lib.hid ⟨hsplit, by rw [hxc]; exact hys⟩
        have hch := HH.out.chlt x hx
        have hn2 := HH.out.ar.n2
        obtain ⟨f, hm1, hf⟩ := HR.out.at'
        obtain ⟨g, hm2, hg⟩ := HR.out.th
        have hgx := hg.mem x hx
        have hrd := HR.out.rd x hx
        obtain ⟨ka, kc, hka, _⟩ := own_bytes hrd.k
        obtain ⟨va, vc, hva, _⟩ := own_bytes hrd.v
        have HLK : Hid (∀ W, Keeps (fun _ => False) wr W → W.cell? ⟨L.B, 1, none⟩ = some (.map (some L.mt)) ∧ (Instr.lookup 111 (.map (some L.mt)) (.int .i64 (x.ch : Int)) false).run Tryd.prog W = .ok (.agg #[.slice ka x.it.key.length kc, .slice va x.it.val.length vc, .int .u32 x.it.fg, .int .u32 x.it.ex, .int .u64 x.it.sq, .bool x.it.dt]) W ∧ (convert 56 9 (.slice ka x.it.key.length kc)).run Tryd.prog W = .ok (.string (strOfNums x.it.key)) W) := Lib.hid (fun W hk => by
          have l2 := (hm2.keep hk id).look intK Tryd.underlying111 (z64 W) (key3 (n := x.ch) (by omega))
          rw [show g (chL x.ch) = some x.val from hgx] at l2
          unfold HM.val IT.agg at l2
          rw [hka, hva] at l2
          have hb := (hk.blk HR.out.obj id)
          unfold RL.obj at hb
          refine ⟨hb.cell (i := 1) rfl, l2, ?_⟩
          rw [← hka]
          exact conv_own (hk.own' hrd.k fun _ _ => id))
        have fl := field64 (.slice ka x.it.key.length kc) (.slice va x.it.val.length vc) (.int .u32 x.it.fg) (.int .u32 x.it.ex) (.int .u64 x.it.sq) (.bool x.it.dt)
        clear hl hn hsplit hxn hys hO hx hm1 hf hm2 hg hgx hrd hka hva
        rcases hci with ⟨h0, hneg⟩ | ⟨h0, hpos, hceq⟩
        · obtain rfl : c = cl := by omega
          clear hct
          go_wp2_with fail
          refine HO.out.mono ?_
          rintro e w2 ⟨rfl, hk2⟩
          obtain ⟨d1, l2, cv⟩ := HLK.out _ hk2
          have HK2 := Lib.hid (HK.out.trans hk2)
          clear hk2
          go_wp2_with fail
          go_ret2
          exact ⟨xs, x, ys, HSP.out.1, HPK.out, HSP.out.2, rfl, HK2.out⟩
        · rw [hceq] at HO
          clear hct
          go_wp2_with fail
          refine HO.out.mono ?_
          rintro e w2 ⟨rfl, hk2⟩
          obtain ⟨d1, l2, cv⟩ := HLK.out _ hk2
          have HK2 := Lib.hid (HK.out.trans hk2)
          clear hk2
          go_wp2_with fail
          go_ret2
          exact ⟨xs, x, ys, HSP.out.1, HPK.out, HSP.out.2, rfl, HK2.out⟩
end Go.Proofs.YthnagihgjenimaaDoor
