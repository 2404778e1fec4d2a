/- The document's writes in memory: type 101; the document's disk: holds, all, live. -/
import Derived.Test.YtjiammhmeliogaaRef
import Derived.Test.YtjiammhmeliogaaKeep
import Derived.Deep.Cut
namespace Go.Proofs.Ytjiammhmeliogaa
open Go.RowKit
set_option linter.unusedVariables false
set_option linter.unusedSimpArgs false

theorem zero101 : ((Try.prog.info? 101).bind (·.zero)).map (·.cells) = some z106.toArray := by kernel_rfl
theorem size101 : (Try.prog.info? 101).map (fun i => (i.size, i.bytes)) = some (65, 72) := by kernel_rfl
theorem info101 : ∃ it z, Try.prog.info? 101 = some it ∧ it.zero = some z ∧ z.cells = z106.toArray ∧ it.size = 65 ∧ it.bytes = 72 := by
  have h := zero101
  have h2 := size101
  cases hi : Try.prog.info? 101 with
  | none => rw [hi] at h; cases h
  | some it =>
    rw [hi] at h h2
    cases hz : it.zero with
    | none => simp [hz] at h
    | some z =>
      simp [hz] at h
      simp at h2
      exact ⟨it, z, rfl, hz, h, h2.1, h2.2⟩
theorem row101 (cs : List Value) (hc : cs.length = 65) (w : World) : (Instr.buildSlice 41 1 #[(0, .agg cs.toArray)]).run Try.prog w = .ok (.slice (some ⟨w.heap.size, 0, none⟩) 1 1) (w.alloc (.cells cs.toArray 101)) := by
  obtain ⟨it, z, h1, h2, h3, h4, _⟩ := info101
  have hf : Instr.fill (fun i => some (i * 65, 65)) ((Array.range (1 * 65)).map (z.cells[· % z.cells.size]!)) [(0, .agg cs.toArray)] = some cs.toArray := by
    rw [fill_part (vs := cs) (off := 0) rfl (by simp [hc]) (by simp [hc])]
    simp [hc, Instr.fill]
  simp only [Nat.one_mul] at hf
  simp [Instr.buildSlice, run_underlying Try.underlying41, sizeOf, typeInfo, zeroValue, h1, h2, h4, newRow, hf]
theorem exec_row101 (ρ : Operand → Value) (dst : Option Tmp) (ty : TypeId) (pos : String) (after : Array Edge) (guard : Option (Nat × Bool)) (x : Operand) (w : World) (h : ρ x = .agg (ρ x).cells) (hc : (ρ x).cells.size = 65) :
    (execOp ρ ⟨dst, .buildSlice 41 1 #[(0, x)], ty, pos, after, guard⟩).run Try.prog w = .ok (.value (.slice (some ⟨w.heap.size, 0, none⟩) 1 1)) (w.alloc (.cells (ρ x).cells 101)) := by
  obtain ⟨cs, hcs⟩ : ∃ cs : List Value, (ρ x).cells = cs.toArray := ⟨(ρ x).cells.toList, by simp⟩
  rw [hcs] at h hc ⊢
  have hr := row101 cs (by simpa using hc) w
  unfold execOp
  simp only [List.map_toArray, List.map_cons, List.map_nil, h, Sem.run_bind, hr, Result.andThen_ok, Sem.run_pure]
theorem row101i : ∀ cs : List Value, cs.length = 65 → (Try.prog.info? 101).map (·.size) = some cs.length := fun cs h => by rw [h]; kernel_rfl
theorem zc101 : Try.zeroCells101 = z106.toArray := by kernel_rfl
theorem fold101 (v : Value) (cs : List Value) (hc : cs.length = 64) : List.foldl (fun (cs : Array Value) (x : Value × Nat) => cs.setIfInBounds (1 + x.snd) x.fst) (Try.zeroCells101.setIfInBounds 0 v) cs.zipIdx = (v :: cs).toArray := by
  apply Array.ext'
  rw [fold_set cs 1 0 _ (by rw [zc101]; simp [z106, hc]), zc101]
  simp [z106, hc]
theorem zc101_size : Try.zeroCells101.size = 65 := by rw [zc101]; simp [z106]
theorem exec_load101 (ρ : Operand → Value) (dst : Option Tmp) (ty : TypeId) (pos : String) (after : Array Edge) (guard : Option (Nat × Bool)) (x : Operand) (w : World) (h : ρ x = .pointer (some ⟨(padr (ρ x)).block, (padr (ρ x)).off, none⟩)) (hr : HasRow w (padr (ρ x)).block (padr (ρ x)).off 65) :
    (execOp ρ ⟨dst, .load 101 x, ty, pos, after, guard⟩).run Try.prog w = .ok (.value (.agg (rowAt w (padr (ρ x)).block (padr (ρ x)).off 65).toArray)) w := by
  have hl := run_loadAt_mid (P := Try.prog) w (padr (ρ x)).block (padr (ρ x)).off 101 _ _ (rowAt_range hr) Try.underlying101 rfl (row101i _ (by simp [rowAt]))
  rw [← h] at hl
  unfold execOp
  simp only [Sem.run_bind, hl, Result.andThen_ok, Sem.run_pure]
theorem exec_new101 (ρ : Operand → Value) (dst : Option Tmp) (ty : TypeId) (pos : String) (after : Array Edge) (guard : Option (Nat × Bool)) (x y : Operand) (w : World) (c : Array Value) (h : ρ x = .pointer (some ⟨w.heap.size, 0, none⟩)) (hy : ρ y = .agg (ρ y).cells) (hc : (ρ y).cells.size = 65) (hz : c.size = 65) (h1 : oneAll (ρ y).cells = true) :
    (execOp ρ ⟨dst, .store 101 x y, ty, pos, after, guard⟩).run Try.prog (w.alloc (.cells c 101)) = .ok .skip (w.alloc (.cells (ρ y).cells 101)) := by
  have hl := run_storeVar_new (P := Try.prog) w 101 c (ρ y).cells (by rw [hc]; kernel_rfl) (by rw [hz, hc]) h1
  unfold execOp
  simp only [h, Instr.storeAt, Instr.sureAddr, Sem.run_bind, Sem.run_pure, Result.andThen_ok]
  rw [← hy] at hl
  simp only [hl, Result.andThen_ok]
theorem empty41 (w : World) : (Instr.buildSlice 41 0 #[]).run Try.prog w = .ok (.slice (some ⟨w.heap.size, 0, none⟩) 0 0) (w.alloc (.cells #[] 101)) := by
  obtain ⟨it, z, h1, h2, h3, h4, _⟩ := info101
  simp [Instr.buildSlice, run_underlying Try.underlying41, sizeOf, typeInfo, zeroValue, h1, h2, h4, newRow, Instr.fill]
  rw [range0, Array.map_empty]

attribute [local go_sem ↓] exec_new101 exec_load101 exec_load27 exec_store27 exec_new27 exec_alloc27 exec_build27 zeroValue27
attribute [local go_sem] mayRow_drew padr_some rowAt_drew hasRow_drew rowAt_alloc hasRow_alloc zc101_size run_cells27

def RD.holds (R : RD) (i : Nat) : List Int := setl (fun _ => true) 0 R.p R.f i

/-- A pending write of the row. -/
theorem rpend_range {w : World} {base : Nat} {qa : Option Addr} {qc : Nat} {p : List (Nat × List Int)} (h : w.ownsRow base 101 65 (.slice qa p.length qc) p.length (pflat p)) (pl : ∀ a ∈ p, a.2.length = 64) {t : Nat} {a : Nat × List Int} (ha : p[t]? = some a) :
    ∃ g, qa = some ⟨g, 0, none⟩ ∧ g < w.heap.size ∧ w.rangeAt g (t * 65) (wrc a) := by
  have hlt := (List.getElem?_eq_some_iff.1 ha).1
  obtain ⟨g2, pc2, hpe, _, _, hg2⟩ := own_some h (by omega)
  injection hpe with hpe1 _ hpe2
  subst hpe1
  subst hpe2
  refine ⟨g2, rfl, hg2, ?_⟩
  rw [pflat_split ha] at h
  have h2 := own_range h
  rwa [pflat_len (fun b hb => pl b (List.mem_of_mem_take hb)), List.length_take, Nat.min_eq_left (by omega)] at h2

def HoldP (b : List Int) (w : World) (e : Ending) (w' : World) : Prop := e = .returned (.agg (bk b).toArray) ∧ Keeps (fun _ => False) w w'

/-- A loop that makes blocks of its own. -/
theorem Keeps.from {w w' : World} (h : Keeps (fun k => w.heap.size ≤ k) w w') : Keeps (fun _ => False) w w' := h.mono fun k hk e => absurd e (Nat.not_le.2 hk)

set_option maxRecDepth 100000 in
set_option maxHeartbeats 4000000 in
theorem rholds_any (sv pv : Value) (R : RD) (w : World) (h : RdAt w sv pv R) (i : Nat) (hi : i < R.n) : Calls Try.prog 60 #[rv sv pv R, .int .i64 (i : Int)] w (HoldP (R.holds i) w) := by
  obtain ⟨sg, sc, rfl, _, hmx, hsg⟩ := own_some h.safe h.n1
  obtain ⟨qa, qc, rfl, _, hqm⟩ := own_slice h.pend
  have n2 := h.n2
  have pn := h.pn
  unfold maxLen at hmx hqm
  have HFL := Lib.hid h.fl
  have HPL := Lib.hid h.pl
  obtain ⟨n, f, p, dead, left, fails, ops⟩ := R
  dsimp only at *
  have hzl : (bk zb).length = 64 := by rw [bk_len, zb_len]
  obtain ⟨W1, hW1⟩ : ∃ W1, W1 = (w.alloc (.cells #[.slice (some ⟨sg, 0, none⟩) n sc, .slice qa p.length qc, .bool dead, .int .i64 left, .int .i64 fails, .int .i64 ops] 43)).alloc (.cells (bk zb).toArray 27) := ⟨_, rfl⟩
  have k1 : Keeps (fun _ => False) w W1 := by rw [hW1]; exact ((Keeps.refl _ w).alloc _).alloc _
  have s1 : W1.heap.size = w.heap.size + 2 := by rw [hW1]; simp
  have b1 : Blk W1 w.heap.size 43 [.slice (some ⟨sg, 0, none⟩) n sc, .slice qa p.length qc, .bool dead, .int .i64 left, .int .i64 fails, .int .i64 ops] := by rw [hW1]; exact (Blk.new w 43 _).alloc _
  have b2 : Blk W1 (w.heap.size + 1) 27 (bk zb) := by
    rw [hW1]
    have := Blk.new (w.alloc (.cells #[.slice (some ⟨sg, 0, none⟩) n sc, .slice qa p.length qc, .bool dead, .int .i64 left, .int .i64 fails, .int .i64 ops] 43)) 27 (bk zb)
    rwa [World.size_alloc] at this
  obtain ⟨fi, hfi⟩ : ∃ fi, fi = bk (f i) := ⟨_, rfl⟩
  have hr0 : W1.rangeAt sg (i * 64) fi := by
    obtain ⟨post, hp⟩ := flat_split f hi
    have hs := h.safe
    rw [hp f (fun _ _ _ => rfl)] at hs
    have h2 := own_range hs
    rw [flat_len (fun j hj => HFL.out j (by omega))] at h2
    rw [hfi]
    exact fun j v hv => (k1.cell (p := ⟨sg, i * 64 + j, none⟩) hsg id).trans (h2 j v hv)
  have hfl : fi.length = 64 := by rw [hfi, bk_len]; exact HFL.out i hi
  have x1 := hasRow_of hr0 hfl
  have x2 := rowAt_of hr0 hfl
  have hone : oneAll fi.toArray = true := by rw [hfi]; exact all_oneCell_toArray bk_one
  have c0 := b1.cell (i := 0) rfl
  have c1 := b1.cell (i := 1) rfl
  have HPEND := Lib.hid h.pend
  obtain ⟨B, hB⟩ : ∃ B, B = W1.heap.size := ⟨_, rfl⟩
  have b3 : Blk (W1.alloc (.cells fi.toArray 27)) B 27 fi := by rw [hB]; exact Blk.new W1 27 fi
  have HSTART : Hid (Blk (W1.alloc (.cells fi.toArray 27)) B 27 (bk (setl (fun _ => true) 0 (p.take 0) f i)) ∧ Blk (W1.alloc (.cells fi.toArray 27)) (w.heap.size + 1) 27 (bk zb) ∧ Keeps (fun k => w.heap.size ≤ k) w (W1.alloc (.cells fi.toArray 27))) :=
    Lib.hid ⟨by rw [← show fi = bk (setl (fun _ => true) 0 (p.take 0) f i) from hfi]; exact b3, b2.alloc _, (k1.mono fun _ _ h => h.elim).alloc _⟩
  have hBn : B = w.heap.size + 2 := by omega
  have hsz : w.heap.size + 1 < W1.heap.size := by omega
  have hsz0 : w.heap.size < W1.heap.size := by omega
  have HBN := Lib.hid hBn
  have HW1 := Lib.hid hW1
  have hi' : (i : Int) < (n : Int) := by omega
  have HB := Lib.hid hB
  clear h b1 b2 k1 s1 hr0 hfi hW1 b3 hBn hB
  unfold rv
  dsimp only
  go_enter Try.func60, Try.ntmps60
  go_upto_region 1 with (fail)
  rw [← HW1.out]
  go_wp2_with fail
  rw [← HB.out]
  go_loopw [16] (fun t wr => ∃ k : Nat, k ≤ p.length ∧ t = .int .i64 k ∧ Blk wr B 27 (bk (setl (fun _ => true) 0 (p.take k) f i)) ∧ Blk wr (w.heap.size + 1) 27 (bk zb) ∧ Keeps (fun k => w.heap.size ≤ k) w wr) (fun t _ => p.length - (intOf t).toNat)
  case atStart => exact ⟨0, Nat.zero_le _, rfl, HSTART.out.1, HSTART.out.2.1, HSTART.out.2.2⟩
  case round =>
    obtain ⟨k, hk, rfl, hb, hz, hkk⟩ := hrel
    have hwr := hkk.size
    have hBw := hb.lt
    by_cases hlt : k < p.length
    · obtain ⟨a, ha⟩ : ∃ a, p[k]? = some a := ⟨_, List.getElem?_eq_getElem hlt⟩
      have hal := HPL.out a (List.mem_of_getElem? ha)
      obtain ⟨g2, rfl, hg2, hrng0⟩ := rpend_range HPEND.out HPL.out ha
      have hrng : wr.rangeAt g2 (k * 65) (wrc a) := fun j v hv => (hkk.cell (p := ⟨g2, k * 65 + j, none⟩) hg2 (Nat.not_le.2 hg2)).trans (hrng0 j v hv)
      have hr1 := hasRow_of hrng (n := 65) (wrc_len hal)
      have hr2 := rowAt_of hrng (n := 65) (wrc_len hal)
      obtain ⟨cv, hcv⟩ : ∃ cv, cv = wrc a := ⟨_, rfl⟩
      rw [← hcv] at hr2
      have hcl : cv.length = 65 := by rw [hcv]; exact wrc_len hal
      have hc1 : oneAll cv.toArray = true := by
        rw [hcv]
        unfold oneAll
        exact all_oneCell_toArray wrc_one
      have hb0 : Blk (wr.alloc (.cells cv.toArray 101)) wr.heap.size 101 cv := Blk.new wr 101 cv
      have hx0 := hb0.cell (i := 0) (v := .int .i64 (a.1 : Int)) (by rw [hcv]; rfl)
      have hxr : (wr.alloc (.cells cv.toArray 101)).rangeAt wr.heap.size 1 (bk a.2) := by
        intro j v hv
        refine hb0.cell ?_
        rw [hcv, Nat.add_comm]
        exact hv
      have hx1 := hasRow_of hxr (n := 64) (by rw [bk_len]; exact hal)
      have hx2 := rowAt_of hxr (n := 64) (by rw [bk_len]; exact hal)
      obtain ⟨cb, hcb⟩ : ∃ cb, cb = bk a.2 := ⟨_, rfl⟩
      rw [← hcb] at hx2
      have hbl : cb.length = 64 := by rw [hcb, bk_len]; exact hal
      have hb1 : oneAll cb.toArray = true := by
        rw [hcb]
        unfold oneAll
        exact all_oneCell_toArray bk_one
      have hbA := hb.alloc (.cells cv.toArray 101)
      have hzA := hz.alloc (.cells cv.toArray 101)
      have HT := Lib.hid (setl_take (live := fun _ => true) (f := f) ha)
      have hml : (bk (setl (fun _ => true) 0 (p.take k) f i)).length = 64 := by
        rw [bk_len]
        exact setl_len _ 0 f n HFL.out (fun b hb => HPL.out b (List.mem_of_mem_take hb)) i hi
      have hmay : MayRow (wr.alloc (.cells cv.toArray 101)) B 0 64 := fun j hj => ⟨by rw [Nat.zero_add, hbA.cell (List.getElem?_eq_getElem (by omega))]; rfl, by rw [Nat.zero_add]; exact hbA.free j⟩
      have HKA : Hid (Keeps (fun k => w.heap.size ≤ k) w (wr.alloc (.cells cv.toArray 101))) := Lib.hid (hkk.alloc _)
      have HBA := Lib.hid hbA
      have HZA := Lib.hid hzA
      have HCB := Lib.hid hcb
      have HML := Lib.hid hml
      clear hb hz hkk hrng hrng0 hxr hb0 hcv hal ha hbA hzA hcb hml
      by_cases e : a.1 = i
      · have he : ((a.1 : Int) == (i : Int)) = true := by rw [e]; simp
        have he2 : ((a.1 : Int) = (i : Int)) := by rw [e]
        have HE := Lib.hid e
        clear e he2
        go_wp2_with fail
        have HF : Hid (Blk ((wr.alloc (.cells cv.toArray 101)).setCells B 0 cb) B 27 (bk (setl (fun _ => true) 0 (p.take (k + 1)) f i)) ∧ Blk ((wr.alloc (.cells cv.toArray 101)).setCells B 0 cb) (w.heap.size + 1) 27 (bk zb) ∧ Keeps (fun k => w.heap.size ≤ k) w ((wr.alloc (.cells cv.toArray 101)).setCells B 0 cb)) := Lib.hid (by
          have hks := setCells_keeps B cb 0 (wr.alloc (.cells cv.toArray 101))
          refine ⟨?_, hks.blk HZA.out (by have := HBN.out; show ¬ (w.heap.size + 1 = B); omega), HKA.out.trans (hks.mono fun k _ e => by have := HBN.out; have e' : k = B := e; show w.heap.size ≤ k; omega)⟩
          rw [HT.out, if_pos rfl, HE.out, updF_same, ← HCB.out]
          exact blk_over HBA.out (by rw [HML.out, hbl]))
        generalize (wr.alloc (.cells cv.toArray 101)).setCells B 0 cb = wn at HF ⊢
        go_roundw
        case rel => exact ⟨k + 1, by omega, by go_num, HF.out.1, HF.out.2.1, HF.out.2.2⟩
        case measure => simp [intOf]; omega
      · have he : ((a.1 : Int) == (i : Int)) = false := by rw [beq_eq_false_iff_ne]; omega
        have HE := Lib.hid e
        clear e
        go_wp2_with fail
        go_roundw
        case rel => exact ⟨k + 1, by omega, by go_num, by rw [HT.out, if_pos rfl, updF_ne _ _ _ (fun e => HE.out e.symm)]; exact HBA.out, HZA.out, HKA.out⟩
        case measure => simp [intOf]; omega
    · obtain rfl : k = p.length := by omega
      rw [List.take_length] at hb
      obtain ⟨cs, hcs⟩ : ∃ cs, cs = bk (setl (fun _ => true) 0 p f i) := ⟨_, rfl⟩
      have hcl : cs.length = 64 := by
        rw [hcs, bk_len]
        exact setl_len _ 0 f n HFL.out HPL.out i hi
      have hone2 : oneAll cs.toArray = true := by rw [hcs]; exact all_oneCell_toArray bk_one
      rw [← hcs] at hb
      have hrr : wr.rangeAt B 0 cs := fun j v hv => by rw [Nat.zero_add]; exact hb.cell hv
      have y1 := hasRow_of hrr hcl
      have y2 := rowAt_of hrr hcl
      have hmay : MayRow wr (w.heap.size + 1) 0 64 := fun j hj => ⟨by rw [Nat.zero_add, hz.cell (List.getElem?_eq_getElem (by omega))]; rfl, by rw [Nat.zero_add]; exact hz.free j⟩
      have HZ := Lib.hid hz
      have HKK := Lib.hid hkk
      have HCS := Lib.hid hcs
      clear hb hz hkk hcs hrr
      go_wp2_with fail
      refine bodyPost_ret (v := .agg cs.toArray) (result27 rfl rfl hcl (blk_over HZ.out (by omega))) rfl ?_
      refine ⟨by rw [HCS.out]; rfl, Keeps.from (HKK.out.trans ((setCells_keeps (w.heap.size + 1) cs 0 wr).mono fun k _ e => ?_))⟩
      have e' : k = w.heap.size + 1 := e
      show w.heap.size ≤ k
      omega

/-- All are kept. -/
def RAllP (m : Nat) (w : World) (e : Ending) (w' : World) : Prop := ∃ g, e = .returned (.slice (some ⟨g, 0, none⟩) m m) ∧ Blk w' g 4 (yes m m) ∧ w.heap.size ≤ g ∧ Keeps (fun _ => False) w w'
set_option maxHeartbeats 1000000 in
theorem rall_any (sv pv : Value) (R : RD) (w : World) (h : RdAt w sv pv R) : Calls Try.prog 84 #[rv sv pv R] w (RAllP R.p.length w) := by
  obtain ⟨sa, sc, rfl, _, hmx⟩ := own_slice h.safe
  obtain ⟨qa, qc, rfl, _, hqm⟩ := own_slice h.pend
  have pn := h.pn
  unfold maxLen at hqm
  clear h
  obtain ⟨n, f, p, dead, left, fails, ops⟩ := R
  dsimp only at *
  obtain ⟨m, hm⟩ : ∃ m, m = p.length := ⟨_, rfl⟩
  rw [← hm] at pn
  unfold rv
  dsimp only
  rw [← hm]
  clear hm
  have hmk := make30 m pn (w.alloc (.cells #[.slice sa n sc, .slice qa m qc, .bool dead, .int .i64 left, .int .i64 fails, .int .i64 ops] 43))
  rw [World.size_alloc] at hmk
  have HB0 := Blk.new (w.alloc (.cells #[.slice sa n sc, .slice qa m qc, .bool dead, .int .i64 left, .int .i64 fails, .int .i64 ops] 43)) 4 (yes 0 m)
  rw [World.size_alloc] at HB0
  have HB := Lib.hid HB0
  have HK : Hid (Keeps (fun k => w.heap.size ≤ k) w ((w.alloc (.cells #[.slice sa n sc, .slice qa m qc, .bool dead, .int .i64 left, .int .i64 fails, .int .i64 ops] 43)).alloc (.cells (yes 0 m).toArray 4))) := Lib.hid (((Keeps.refl _ _).alloc _).alloc _)
  clear HB0
  go_enter Try.func84, Try.ntmps84
  go_wp2_with fail
  go_loopw [4, 11] (fun _ t wr => ∃ k : Nat, k ≤ m ∧ t = .int .i64 k ∧ Blk wr (w.heap.size + 1) 4 (yes k m) ∧ Keeps (fun k => w.heap.size ≤ k) w wr) (fun _ t _ => m - (intOf t).toNat)
  case atStart => exact ⟨0, Nat.zero_le _, rfl, HB.out, HK.out⟩
  case round =>
    obtain ⟨k, hk, rfl, hbz, hkz⟩ := hrel
    have HBZ := Lib.hid hbz
    have HKZ := Lib.hid hkz
    by_cases hlk : k < m
    · have hlk' : (k : Int) < (m : Int) := by omega
      have c0 := hbz.cell (yes_cell hlk hk)
      have c1 := hbz.free k
      clear hbz hkz
      go_wp2_with fail
      go_roundw
      case rel =>
        refine ⟨k + 1, by omega, by go_num, ?_, HKZ.out.store (.inr (by show w.heap.size ≤ w.heap.size + 1; omega)) _⟩
        have := HBZ.out.store k (.bool true)
        rwa [yes_next hlk] at this
      case measure => simp [intOf]; omega
    · obtain rfl : k = m := by omega
      clear hbz hkz
      go_wp2_with fail
      go_ret
      exact ⟨_, rfl, HBZ.out, by omega, HKZ.out.from⟩
end Go.Proofs.Ytjiammhmeliogaa
