/- The document's disk: live, Crash, New. -/
import Derived.Test.YtjiammhmeliogaaRefT
namespace Go.Proofs.Ytjiammhmeliogaa
open Go.RowKit
set_option linter.unusedVariables false
set_option linter.unusedSimpArgs false

theorem row43 : ∀ cs : List Value, cs.length = 6 → (Try.prog.info? 43).map (·.size) = some cs.length := fun cs h => by rw [h]; kernel_rfl
theorem loadVar43 (w : World) (b : Nat) (cs : List Value) (hc : cs.length = 6) (h : Blk w b 43 cs) : (loadVar 43 ⟨b, 0, none⟩).run Try.prog w = .ok (.agg cs.toArray) w :=
  run_loadVar_mid (P := Try.prog) w b 0 43 cs _ (fun j u hu => by rw [Nat.zero_add]; exact h.cell hu) Try.underlying43 rfl (row43 cs hc)
theorem result43 {f : Func} {tmps : Array Value} {w : World} {b : Nat} {cs : List Value} {s : Tmp} (hf : f.results = #[.cell s 43]) (hs : tmps.getD s undef = .pointer (some ⟨b, 0, none⟩)) (hc : cs.length = 6) (h : Blk w b 43 cs) :
    (results f tmps).run Try.prog w = .ok (.agg cs.toArray) w := by
  have hs' : tmps[s]?.getD undef = .pointer (some ⟨b, 0, none⟩) := by simpa using hs
  simp [results, hf, hs', asAddr, loadVar43 w b cs hc h]
theorem result43_38 {f : Func} {tmps : Array Value} {w : World} {b : Nat} {cs : List Value} {s t : Tmp} {v : Value} (hf : f.results = #[.cell s 43, .tmp t]) (hs : tmps.getD s undef = .pointer (some ⟨b, 0, none⟩)) (ht : tmps.getD t undef = v) (hc : cs.length = 6) (h : Blk w b 43 cs) :
    (results f tmps).run Try.prog w = .ok (.tuple #[.agg cs.toArray, v]) w := by
  have hs' : tmps[s]?.getD undef = .pointer (some ⟨b, 0, none⟩) := by simpa using hs
  have ht' : tmps[t]?.getD undef = v := by simpa using ht
  simp [results, hf, hs', ht', asAddr, loadVar43 w b cs hc h]
theorem result43_27_38 {f : Func} {tmps : Array Value} {w : World} {b b2 : Nat} {cs cs2 : List Value} {s s2 t : Tmp} {v : Value} (hf : f.results = #[.cell s 43, .cell s2 27, .tmp t]) (hs : tmps.getD s undef = .pointer (some ⟨b, 0, none⟩)) (hs2 : tmps.getD s2 undef = .pointer (some ⟨b2, 0, none⟩)) (ht : tmps.getD t undef = v) (hc : cs.length = 6) (h : Blk w b 43 cs) (hc2 : cs2.length = 64) (h2 : Blk w b2 27 cs2) :
    (results f tmps).run Try.prog w = .ok (.tuple #[.agg cs.toArray, .agg cs2.toArray, v]) w := by
  have hl := run_loadVar_mid (P := Try.prog) w b2 0 27 cs2 _ (fun j u hu => by rw [Nat.zero_add]; exact h2.cell hu) Try.underlying27 rfl (row27 cs2 hc2)
  have hs' : tmps[s]?.getD undef = .pointer (some ⟨b, 0, none⟩) := by simpa using hs
  have hs2' : tmps[s2]?.getD undef = .pointer (some ⟨b2, 0, none⟩) := by simpa using hs2
  have ht' : tmps[t]?.getD undef = v := by simpa using ht
  simp [results, hf, hs', hs2', ht', asAddr, loadVar43 w b cs hc h, hl]

/-- A block of a row of blocks is stored. -/
theorem own_update {w : World} {base g n cap i : Nat} {f : Nat → List Int} {b : List Int} (h : w.ownsRow base 27 64 (.slice (some ⟨g, 0, none⟩) n cap) n (flat f n)) (hf : ∀ j, j < n → (f j).length = 64) (hi : i < n) (hb : b.length = 64) :
    (w.setCells g (i * 64) (bk b)).ownsRow base 27 64 (.slice (some ⟨g, 0, none⟩) n cap) n (flat (updF f i b) n) := by
  obtain ⟨post, hp⟩ := flat_split f hi
  have e1 := hp f (fun _ _ _ => rfl)
  have e2 := hp (updF f i b) (fun j _ hne => updF_ne _ _ _ hne)
  rw [updF_same] at e2
  rw [e1] at h
  have hlen : (flat f i).length = i * 64 := flat_len fun j hj => hf j (by omega)
  have hs2 := own_splice (vs' := bk b) h (by rw [bk_len, bk_len, hb, hf i hi])
  rwa [hlen, ← e2] at hs2

def z43 : List Value := [.slice none 0 0, .slice none 0 0, .bool false, .int .i64 0, .int .i64 0, .int .i64 0]
theorem start43 (w : World) (A : List Value) {W0 : World} (h : W0 = (w.alloc (.cells A.toArray 43)).alloc (.cells z43.toArray 43)) :
    Blk W0 w.heap.size 43 A ∧ Blk W0 (w.heap.size + 1) 43 z43 ∧ Keeps (fun _ => False) w W0 ∧ W0.heap.size = w.heap.size + 2 := by
  subst h
  refine ⟨(Blk.new w 43 A).alloc _, ?_, ((Keeps.refl _ w).alloc _).alloc _, by simp⟩
  have := Blk.new (w.alloc (.cells A.toArray 43)) 43 z43
  rwa [World.size_alloc] at this

attribute [local go_sem ↓] exec_new101 exec_load101 exec_load27 exec_store27 exec_new27 exec_alloc27 exec_build27 zeroValue27
attribute [local go_sem] mayRow_drew padr_some rowAt_drew hasRow_drew rowAt_alloc hasRow_alloc zc101_size run_cells27

/-- Those live that are kept. -/
def RD.live (R : RD) (l : Nat → Bool) : RD := { R with f := setl l 0 R.p R.f, p := [] }
/-- A disk handed back whose safe blocks are new, none pending. -/
def LiveP (R : RD) (w : World) (e : Ending) (w' : World) : Prop := ∃ sv, e = .returned (rv sv (.slice none 0 0) R) ∧ RdAt w' sv (.slice none 0 0) R ∧ (∀ g, sv.ownBlock = some g → w.heap.size ≤ g) ∧ Keeps (fun _ => False) w w'

/-- What holds in live's loop. -/
structure LiveR (w : World) (g cap n : Nat) (F : Nat → List Int) (A : List Value) (wr : World) : Prop where
  row : wr.ownsRow w.heap.size 27 64 (.slice (some ⟨g, 0, none⟩) n cap) n (flat F n)
  a : Blk wr w.heap.size 43 A
  z : Blk wr (w.heap.size + 1) 43 z43
  k : Keeps (fun k => w.heap.size ≤ k) w wr

theorem LiveR.other {w wr wn : World} {g cap n : Nat} {F : Nat → List Int} {A : List Value} (h : LiveR w g cap n F A wr) (hk : Keeps (fun _ => False) wr wn) : LiveR w g cap n F A wn :=
  ⟨hk.own h.row fun _ _ => id, hk.blk h.a id, hk.blk h.z id, h.k.trans (hk.mono fun _ _ h => h.elim)⟩
theorem LiveR.put {w wr : World} {g cap n : Nat} {F : Nat → List Int} {A : List Value} (h : LiveR w g cap n F A wr) (hf : ∀ j, j < n → (F j).length = 64) {i : Nat} (hi : i < n) {b : List Int} (hb : b.length = 64) : LiveR w g cap n (updF F i b) A (wr.setCells g (i * 64) (bk b)) := by
  have hks := setCells_keeps g (bk b) (i * 64) wr
  have hg := own_heap h.row rfl
  refine ⟨own_update h.row hf hi hb, hks.blk h.a fun e => ?_, hks.blk h.z fun e => ?_, h.k.trans (hks.mono fun k _ e => by rw [show k = g from e]; exact hg.1)⟩
  · exact own_ne_blk h.a h.row (by decide) (by rw [show w.heap.size = g from e]; rfl)
  · exact own_ne_blk h.z h.row (by decide) (by rw [show w.heap.size + 1 = g from e]; rfl)

/-- The disk is handed back. -/
theorem LiveR.fin {w wr : World} {g cap n : Nat} {F : Nat → List Int} {A : List Value} {qa : Option Addr} {m qc : Nat} {dead : Bool} {left fails ops : Int} {sv : Value} (hA : A = [sv, .slice qa m qc, .bool dead, .int .i64 left, .int .i64 fails, .int .i64 ops]) (h : LiveR w g cap n F A wr) (b B : Nat) (hb : b = w.heap.size) (hB : B = w.heap.size + 1) {W : World}
    (hW : W = (((((((wr.setCell ⟨b, 0, none⟩ (.slice (some ⟨g, 0, none⟩) n cap)).setCell ⟨b, 1, none⟩ (.slice none 0 0)).setCell ⟨B, 0, none⟩ (.slice (some ⟨g, 0, none⟩) n cap)).setCell ⟨B, 1, none⟩ (.slice none 0 0)).setCell ⟨B, 2, none⟩ (.bool dead)).setCell ⟨B, 3, none⟩ (.int .i64 left)).setCell ⟨B, 4, none⟩ (.int .i64 fails)).setCell ⟨B, 5, none⟩ (.int .i64 ops)) :
    Blk W (w.heap.size + 1) 43 [.slice (some ⟨g, 0, none⟩) n cap, .slice none 0 0, .bool dead, .int .i64 left, .int .i64 fails, .int .i64 ops] ∧ W.ownsRow w.heap.size 27 64 (.slice (some ⟨g, 0, none⟩) n cap) n (flat F n) ∧ Keeps (fun _ => False) w W := by
  subst hA hb hB
  have hk : Keeps (fun k => k = w.heap.size ∨ k = w.heap.size + 1) wr W := by
    rw [hW]
    exact ((((((((Keeps.refl (fun k => k = w.heap.size ∨ k = w.heap.size + 1) wr).store (p := ⟨w.heap.size, 0, none⟩) (.inl (.inl rfl)) _).store (p := ⟨w.heap.size, 1, none⟩) (.inl (.inl rfl)) _).store (p := ⟨w.heap.size + 1, 0, none⟩) (.inl (.inr rfl)) _).store (p := ⟨w.heap.size + 1, 1, none⟩) (.inl (.inr rfl)) _).store (p := ⟨w.heap.size + 1, 2, none⟩) (.inl (.inr rfl)) _).store (p := ⟨w.heap.size + 1, 3, none⟩) (.inl (.inr rfl)) _).store (p := ⟨w.heap.size + 1, 4, none⟩) (.inl (.inr rfl)) _).store (p := ⟨w.heap.size + 1, 5, none⟩) (.inl (.inr rfl)) _
  refine ⟨?_, hk.own h.row fun g' hg' e => ?_, Keeps.from (h.k.trans (hk.mono fun k _ e => ?_))⟩
  · rw [hW]
    exact (((((((h.z.other (p := ⟨w.heap.size, 0, none⟩) (by show w.heap.size + 1 ≠ w.heap.size; omega) _).other (p := ⟨w.heap.size, 1, none⟩) (by show w.heap.size + 1 ≠ w.heap.size; omega) _).store 0 _).store 1 _).store 2 _).store 3 _).store 4 _).store 5 _
  · rcases e with e | e
    · exact own_ne_blk h.a h.row (by decide) (by rw [← show g' = w.heap.size from e]; exact hg')
    · exact own_ne_blk h.z h.row (by decide) (by rw [← show g' = w.heap.size + 1 from e]; exact hg')
  · rcases e with e | e <;> omega

set_option maxRecDepth 100000 in
set_option maxHeartbeats 4000000 in
theorem rlive_any (sv pv : Value) (R : RD) (w : World) (h : RdAt w sv pv R) (ka : Option Addr) (kn kc : Nat) (xs : List Bool) (hkr : BoolRow w ka kn xs) (hkn : kn ≤ 140737488355328) : Calls Try.prog 83 #[rv sv pv R, .slice ka kn kc] w (LiveP (R.live (liveOf xs)) w) := by
  have HRD := Lib.hid h
  obtain ⟨sg, sc, rfl, _, hmx, hsg⟩ := own_some h.safe h.n1
  obtain ⟨qa, qc, rfl, _, hqm⟩ := own_slice h.pend
  have n1 := h.n1
  have n2 := h.n2
  have pn := h.pn
  unfold maxLen at hmx hqm
  have HFL := Lib.hid h.fl
  have HPL := Lib.hid h.pl
  have HPA := Lib.hid h.pa
  have HPEND := Lib.hid h.pend
  have hsafe := h.safe
  obtain ⟨n, f, p, dead, left, fails, ops⟩ := R
  dsimp only at *
  obtain ⟨A, hA⟩ : ∃ A : List Value, A = [.slice (some ⟨sg, 0, none⟩) n sc, .slice qa p.length qc, .bool dead, .int .i64 left, .int .i64 fails, .int .i64 ops] := ⟨_, rfl⟩
  obtain ⟨W0, hW0⟩ : ∃ W0, W0 = (w.alloc (.cells A.toArray 43)).alloc (.cells z43.toArray 43) := ⟨_, rfl⟩
  obtain ⟨bA, bZ, k0, s0⟩ := start43 w A hW0
  have hem := empty35 W0
  obtain ⟨i0, z0, hi1, hz0, hzc, hz1, hz2⟩ := info27
  have hzs : z0.cells.size = 64 := by rw [hzc]; simp [bk_len, zb_len]
  have HO : Hid ((W0.alloc (.cells #[] 27)).ownsRow w.heap.size 27 64 (.slice (some ⟨W0.heap.size, 0, none⟩) 0 0) 0 []) := Lib.hid (own_base (own_empty W0 27 64) (by omega))
  have HNW := Lib.hid (own_news (k0.own hsafe fun _ _ => id) (.cells #[] 27))
  have H1 : Hid (∀ u ∈ flat f n, u.oneCell' = true) := Lib.hid fun u hu => flat_one u hu
  have HL : Hid ((flat f n).length = n * 64) := Lib.hid (flat_len HFL.out)
  have bA' := bA.alloc (.cells #[] 27)
  have bZ' := bZ.alloc (.cells #[] 27)
  have HK0 : Hid (Keeps (fun k => w.heap.size ≤ k) w (W0.alloc (.cells #[] 27))) := Lib.hid ((k0.mono fun _ _ h => h.elim).alloc _)
  have c0 : W0.cell? ⟨w.heap.size, 0, none⟩ = some (.slice (some ⟨sg, 0, none⟩) n sc) := bA.cell (by rw [hA]; rfl)
  have c1 : W0.cell? ⟨w.heap.size, 1, none⟩ = some (.slice qa p.length qc) := bA.cell (by rw [hA]; rfl)
  have HBA := Lib.hid bA'
  have HBZ := Lib.hid bZ'
  have hs0 : w.heap.size + 1 < W0.heap.size := by omega
  have hs1 : w.heap.size < W0.heap.size := by omega
  have HKR := Lib.hid hkr
  have HW0 : Hid (W0 = (w.alloc (.cells #[.slice (some ⟨sg, 0, none⟩) n sc, .slice qa p.length qc, .bool dead, .int .i64 left, .int .i64 fails, .int .i64 ops] 43)).alloc (.cells #[.slice none 0 0, .slice none 0 0, .bool false, .int .i64 0, .int .i64 0, .int .i64 0] 43)) := Lib.hid (by rw [hW0, hA]; rfl)
  have HA := Lib.hid hA
  clear h bA bZ k0 s0 hsafe bA' bZ' hkr hW0 hzc hA
  unfold rv
  dsimp only
  go_enter Try.func83, Try.ntmps83
  go_upto_region 1 with (fail)
  rw [← HW0.out]
  go_wp2_with (at_builtin; refine wpList_append_own _ rfl _ _ 35 rfl w.heap.size 27 i0 z0 64 64 Try.underlying35 hi1 hz0 hz1 hz2 hzs (by decide) _ _ _ rfl HO.out ⟨sg, 0, none⟩ n sc (flat f n) rfl HL.out HNW.out H1.out (by unfold maxLen; omega) (by omega) (by simp; omega) ?_)
  intro v' w1 hown hgrow _
  have hk1 : Keeps (fun k => k = W0.heap.size) (W0.alloc (.cells #[] 27)) w1 := (Keeps.of_grown hgrow).mono fun k _ e => by injection e with e; exact e.symm
  try simp only [Nat.zero_add, List.nil_append] at hown
  obtain ⟨g, cap, rfl, _, hcm, hgw⟩ := own_some hown n1
  have hLR : LiveR w g cap n (setl (liveOf xs) 0 (p.take 0) f) A w1 := ⟨hown, hk1.blk HBA.out (by omega), hk1.blk HBZ.out (by omega), HK0.out.trans (hk1.mono fun k _ e => by have e' : k = W0.heap.size := e; show w.heap.size ≤ k; omega)⟩
  have d1 : w1.cell? ⟨w.heap.size, 1, none⟩ = some (.slice qa p.length qc) := hLR.a.cell (by rw [HA.out]; rfl)
  have HLR := Lib.hid hLR
  unfold maxLen at hcm
  clear hown hgrow hk1 hLR
  go_wp2_with fail
  go_loopw [15] (fun t wr => ∃ k : Nat, k ≤ p.length ∧ t = .int .i64 k ∧ LiveR w g cap n (setl (liveOf xs) 0 (p.take k) f) A wr) (fun t _ => p.length - (intOf t).toNat)
  case atStart => exact ⟨0, Nat.zero_le _, rfl, HLR.out⟩
  case round =>
    obtain ⟨k, hk, rfl, hr⟩ := hrel
    have hwr := hr.k.size
    by_cases hlt : k < p.length
    · obtain ⟨a, ha⟩ : ∃ a, p[k]? = some a := ⟨_, List.getElem?_eq_getElem hlt⟩
      have hal := HPL.out a (List.mem_of_getElem? ha)
      have han := HPA.out a (List.mem_of_getElem? ha)
      obtain ⟨g2, rfl, hg2, hrng0⟩ := rpend_range HPEND.out HPL.out ha
      have hrng : wr.rangeAt g2 (k * 65) (wrc a) := fun j v hv => (hr.k.cell (p := ⟨g2, k * 65 + j, none⟩) hg2 (Nat.not_le.2 hg2)).trans (hrng0 j v hv)
      have hr1 := hasRow_of hrng (n := 65) (wrc_len hal)
      have hr2 := rowAt_of hrng (n := 65) (wrc_len hal)
      obtain ⟨cv, hcv⟩ : ∃ cv, cv = wrc a := ⟨_, rfl⟩
      rw [← hcv] at hr2
      have hcl : cv.length = 65 := by rw [hcv]; exact wrc_len hal
      have hc1 : oneAll cv.toArray = true := by
        rw [hcv]
        unfold oneAll
        exact all_oneCell_toArray wrc_one
      have hb0 : Blk (wr.alloc (.cells cv.toArray 101)) wr.heap.size 101 cv := Blk.new wr 101 cv
      have hx0 := hb0.cell (i := 0) (v := .int .i64 (a.1 : Int)) (by rw [hcv]; rfl)
      have hxr : (wr.alloc (.cells cv.toArray 101)).rangeAt wr.heap.size 1 (bk a.2) := by
        intro j v hv
        refine hb0.cell ?_
        rw [hcv, Nat.add_comm]
        exact hv
      have hx1 := hasRow_of hxr (n := 64) (by rw [bk_len]; exact hal)
      have hx2 := rowAt_of hxr (n := 64) (by rw [bk_len]; exact hal)
      obtain ⟨cb, hcb⟩ : ∃ cb, cb = bk a.2 := ⟨_, rfl⟩
      rw [← hcb] at hx2
      have hbl : cb.length = 64 := by rw [hcb, bk_len]; exact hal
      have hb1 : oneAll cb.toArray = true := by
        rw [hcb]
        unfold oneAll
        exact all_oneCell_toArray bk_one
      have hrA : LiveR w g cap n (setl (liveOf xs) 0 (p.take k) f) A (wr.alloc (.cells cv.toArray 101)) := hr.other ((Keeps.refl _ _).alloc _)
      have hml : ∀ j, j < n → (setl (liveOf xs) 0 (p.take k) f j).length = 64 := setl_len _ 0 f n HFL.out (fun b hb => HPL.out b (List.mem_of_mem_take hb))
      have hmay : MayRow (wr.alloc (.cells cv.toArray 101)) g (a.1 * 64) 64 := own_there hrA.row (by rw [flat_len hml]; omega)
      have HT := Lib.hid (setl_take (live := liveOf xs) (f := f) ha)
      have HRA := Lib.hid hrA
      have HCB := Lib.hid hcb
      have HML := Lib.hid hml
      have HAL := Lib.hid hal
      have HKA := Lib.hid hrA.k
      have HR := Lib.hid hr
      clear hr hrng hrng0 hxr hb0 hcv hal ha hrA hcb hml
      by_cases hkk : k < kn
      · obtain ⟨kb, koff, rfl, hkb, hkc0⟩ := HKR.out.2 k hkk
        have hkc := (HKA.out.cell (p := ⟨kb, koff + k, none⟩) hkb (Nat.not_le.2 hkb)).trans hkc0
        have hkk' : (k : Int) < (kn : Int) := by omega
        cases hbv : xs.getD k false
        · rw [hbv] at hkc
          have HLV : Hid (liveOf xs k = false) := Lib.hid hbv
          clear hkc0 hbv
          go_wp2_with fail
          go_roundw
          case rel => exact ⟨k + 1, by omega, by go_num, by rw [HT.out, if_neg (by rw [HLV.out]; simp)]; exact HRA.out⟩
          case measure => simp [intOf]; omega
        · rw [hbv] at hkc
          have HLV : Hid (liveOf xs k = true) := Lib.hid hbv
          clear hkc0 hbv
          go_wp2_with fail
          have HF : Hid (LiveR w g cap n (setl (liveOf xs) 0 (p.take (k + 1)) f) A ((wr.alloc (.cells cv.toArray 101)).setCells g (a.1 * 64) cb)) := Lib.hid (by
            rw [HT.out, if_pos HLV.out, HCB.out]
            exact HRA.out.put HML.out han HAL.out)
          generalize (wr.alloc (.cells cv.toArray 101)).setCells g (a.1 * 64) cb = wn at HF ⊢
          go_roundw
          case rel => exact ⟨k + 1, by omega, by go_num, HF.out⟩
          case measure => simp [intOf]; omega
      · have hkk' : decide ((k : Int) < (kn : Int)) = false := by simp; omega
        have hkk2 : decide (k < kn) = false := by simp; omega
        have HLV : Hid (liveOf xs k = false) := Lib.hid (by unfold liveOf; rw [List.getD_eq_getElem?_getD, List.getElem?_eq_none (by rw [HKR.out.1]; omega)]; rfl)
        clear hkk
        go_wp2_with fail
        go_roundw
        case rel => exact ⟨k + 1, by omega, by go_num, by rw [HT.out, if_neg (by rw [HLV.out]; simp)]; exact HRA.out⟩
        case measure => simp [intOf]; omega
    · obtain rfl : k = p.length := by omega
      rw [List.take_length] at hr
      have e0 := hr.a.cell (i := 0) (by rw [HA.out]; rfl)
      have e1 := hr.a.cell (i := 1) (by rw [HA.out]; rfl)
      have e2 := hr.a.cell (i := 2) (by rw [HA.out]; rfl)
      have e3 := hr.a.cell (i := 3) (by rw [HA.out]; rfl)
      have e4 := hr.a.cell (i := 4) (by rw [HA.out]; rfl)
      have e5 := hr.a.cell (i := 5) (by rw [HA.out]; rfl)
      have q0 := hr.a.free 0
      have q1 := hr.a.free 1
      have y0 := hr.z.cell (i := 0) rfl
      have y1 := hr.z.cell (i := 1) rfl
      have y2 := hr.z.cell (i := 2) rfl
      have y3 := hr.z.cell (i := 3) rfl
      have y4 := hr.z.cell (i := 4) rfl
      have y5 := hr.z.cell (i := 5) rfl
      have f0 := hr.z.free 0
      have f1 := hr.z.free 1
      have f2 := hr.z.free 2
      have f3 := hr.z.free 3
      have f4 := hr.z.free 4
      have f5 := hr.z.free 5
      have HR := Lib.hid hr
      clear hr
      go_wp2_with fail
      obtain ⟨hb, hrow, hkF⟩ := HR.out.fin HA.out w.heap.size (w.heap.size + 1) rfl rfl rfl
      refine bodyPost_ret (v := .agg #[.slice (some ⟨g, 0, none⟩) n cap, .slice none 0 0, .bool dead, .int .i64 left, .int .i64 fails, .int .i64 ops]) (result43 rfl rfl rfl hb) rfl ?_
      have hR := HRD.out
      exact ⟨_, rfl, ⟨own_base hrow (Nat.zero_le _), World.ownsRow_nil _ _ _ _, hR.n1, hR.n2, setl_len _ 0 f n HFL.out HPL.out, (by intro a ha; cases ha), (by intro a ha; cases ha), Nat.zero_le _, hR.o1, hR.o2, hR.l1, hR.l2, hR.f1, hR.f2⟩, fun g' hg' => by injection hg' with hg'; rw [← hg']; exact (own_heap hrow rfl).1, hkF⟩
end Go.Proofs.Ytjiammhmeliogaa
