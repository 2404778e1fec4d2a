/- Merged of: RRng RSeqI RAllR. -/
import Derived.Test.YthnagihgjenimaaDoorRByt
import Derived.Test.YthnagihgjenimaaDoorSeq
import Derived.RangeFuncNested
import Derived.Test.YthnagihgjenimaaDoorRSam
import Derived.Test.YthnagihgjenimaaDoorRPut
/- A range over a function whose yields say more of what they hand over than its value: what it is in memory at that moment. The loop's body goes on always. -/
namespace Go.Proofs.YthnagihgjenimaaDoor
open Go.RowKit
set_option linter.unusedVariables false
set_option linter.unusedSimpArgs false
section
variable {P : Program} {F : Fence} {n : Nat} {α : Type}
theorem keeps_putObj (W : World) (l : Nat) (o : Obj) : Keeps (fun k => k = l) W (W.putObj l o) :=
  (Keeps.of_grown (grownBy_putObj' W l o)).mono fun k _ h => by injection h with h; exact h.symm
/-- What a function gives to a loop over it: J is what holds between two rounds; Fc what the function wants of memory; Px what it says of an element that it hands over; S what came in all. -/
def SeqJ (F : Fence) (n : Nat) (P : Program) (g : Nat) (lb : Array Value) (encs : α → Array Value) (Fc : World → Prop) (Px : List α → α → World → Prop) (S : List α → Prop) : Prop :=
  ∀ (l : Nat) (J : List α → World → Prop) (W : World), (∀ pre W', J pre W' → Fc W') → (∀ pre W1 W2, J pre W1 → Keeps (fun _ => False) W1 W2 → J pre W2) →
    (∀ pre x W1, J pre W1 → Px pre x W1 → YieldAt F (n - 1) P l (encs x) W1 fun e W' => e = .returned (.bool true) ∧ J (pre ++ [x]) W') →
    J [] W → CallsIn F n P g (#[.func (.yield l) #[] #[]] ++ lb) W fun e W' => (∃ v, e = .returned v) ∧ ∃ ys, S ys ∧ J ys W'
/-- A round goes on. -/
def goOn (R : World → Prop) : Exit → Act → World → Prop
  | .normal, _, W => R W
  | _, _, _ => False
theorem wpIn_rangeJ {g : Operand} {ps : Array Tmp} {assign body : Code} {Q : Exit → Act → World → Prop} {a : Act} {w : World}
    (hro : F.round = none) (h1 : 1 ≤ n) {gf : Nat} {lb : Array Value} (hg : a.eval g = .func (.func gf) #[] lb) (hFg : F.fn gf) (eg : ∀ args w, (callFunc gf args).run P w = .ok (.enter gf args) w)
    {encs : α → Array Value} (hps : ∀ x, (encs x).size = ps.size) {Fc : World → Prop} {Px : List α → α → World → Prop} {S : List α → Prop} (hseq : SeqJ F (n - 1) P gf lb encs Fc Px S)
    (I : List α → World → Prop) (hIF : ∀ pre W, I pre W → Fc W) (hIq : ∀ pre W1 W2, I pre W1 → Keeps (fun _ => False) W1 W2 → I pre W2)
    (hIs : ∀ pre W1 W2 r, I pre W1 → W1.heap[w.heap.size + 1]? = some (.loop r) → Keeps (fun k => k = w.heap.size + 1) W1 W2 → I pre W2)
    (h0 : I [] w)
    (hround : ∀ (l : Nat) (pre : List α) (x : α) (W : World) (r : Loop), I pre W → Px pre x W → W.heap[w.heap.size + 1]? = some (.loop r) → W.heap[w.heap.size]? = some (.deferred (some [])) →
      ∀ K : Act → World → Prop, (∀ a₁ W₁, W₁.heap[w.heap.size + 1]? = W.heap[w.heap.size + 1]? → W₁.heap[w.heap.size]? = W.heap[w.heap.size]? →
        (∀ W₂ r', W₂.heap[w.heap.size + 1]? = some (.loop r') → W₂.heap[w.heap.size]? = some (.deferred (some [])) → Keeps (fun k => k = w.heap.size + 1) W₁ W₂ →
          body.wpIn (F.inRound l) (n - 1 - 1) P (goOn fun W₃ => I (pre ++ [x]) W₃ ∧ W₃.heap[w.heap.size + 1]? = W₂.heap[w.heap.size + 1]? ∧ W₃.heap[w.heap.size]? = W₂.heap[w.heap.size]?) a₁ W₂) → K a₁ W₁) →
        assign.wpIn (F.inRound l) (n - 1 - 1) P (Exit.then K (fun _ _ _ => False)) { tmps := (ps.zip (encs x)).foldl (fun t (p, v) => t.setIfInBounds p v) a.tmps, defers := [] } W)
    (hdone : ∀ (xs : List α) (W : World), S xs → I xs W → w.heap.size + 2 ≤ W.heap.size → W.heap[w.heap.size]? = some (.deferred (some [])) → Q .normal { a with defers := { target := .collected w.heap.size, args := #[] } :: a.defers } W) :
    (Code.rangeFunc g ps assign body).wpIn F n P Q a w := by
  refine wpIn_rangeFunc fun fn hfn => ?_
  rw [hro]
  let rec' : LoopState → Option Code → Loop := fun st pe => { state := st, pending := pe, fn, tmps := a.tmps, params := ps, assign, body, defers := w.heap.size }
  obtain ⟨W1, hW1⟩ : ∃ W1, W1 = (w.alloc (.deferred (some []))).alloc (.loop (rec' .ready none)) := ⟨_, rfl⟩
  have hk01 : Keeps (fun _ => False) w W1 := by rw [hW1]; exact ((Keeps.refl _ _).alloc _).alloc _
  have hD1 : W1.heap[w.heap.size]? = some (.deferred (some [])) := by
    rw [hW1]
    exact (Below.heap_alloc _ _ _ (by simp)).trans (World.alloc_heap_new w _)
  have hL1 : W1.heap[w.heap.size + 1]? = some (.loop (rec' .ready none)) := by
    rw [hW1]
    have := World.alloc_heap_new (w.alloc (.deferred (some []))) (.loop (rec' .ready none))
    rwa [World.size_alloc] at this
  refine ⟨w.heap.size + 1, [{ target := .collected w.heap.size, args := #[] }], W1, { target := .fn (.func gf) lb, args := #[.func (.yield (w.heap.size + 1)) #[] #[]] }, W1, gf, #[.func (.yield (w.heap.size + 1)) #[] #[]] ++ lb, W1, by rw [hW1]; exact run_enterLoop_outer _ _ _ _ _, ?_, ?_, ?_, fun _ => h1, ?_⟩
  · simp only [resolve, hg]
    simp [go_sem]
  · intro f' hf'
    simp [Target.leads] at hf'
    exact hf' ▸ hFg
  · simp [invoke, go_sem, eg]
  have hcall := hseq (w.heap.size + 1) (fun pre W => I pre W ∧ W.heap[w.heap.size + 1]? = some (.loop (rec' .ready none)) ∧ W.heap[w.heap.size]? = some (.deferred (some []))) W1 (fun pre W h => hIF pre W h.1)
    (fun pre A B h hk => ⟨hIq pre A B h.1 hk, (hk.block _ (Array.getElem?_eq_some_iff.1 h.2.1).1 id).trans h.2.1, (hk.block _ (Array.getElem?_eq_some_iff.1 h.2.2).1 id).trans h.2.2⟩) ?_ ⟨hIq _ _ _ h0 hk01, hL1, hD1⟩
  · refine hcall.mono ?_
    rintro e W2 ⟨⟨v, rfl⟩, ys, hS, hI, hl, hd⟩
    have hend := run_endLoop (P := P) hl (by simp [rec'])
    have hkp := keeps_putObj W2 (w.heap.size + 1) (.loop { rec' .ready none with state := .exhausted })
    refine ⟨none, _, hend, hdone ys _ hS (hIs _ _ _ _ hI hl hkp) ?_ ((World.putObj_heap_other (by omega)).trans hd)⟩
    have h2 := (Array.getElem?_eq_some_iff.1 hl).1
    rw [World.putObj_size]
    omega
  · rintro pre x W ⟨hI, hl, hd⟩ hx
    have hy := run_yield (P := P) (args := encs x) hl (hps x)
    have hlt := (Array.getElem?_eq_some_iff.1 hl).1
    refine ⟨fn, _, assign, body, hy, roundIn_of_wpIn hfn (wpIn_mono (hround _ pre x W _ hI hx hl hd (fun a₁ W₁ => W₁.heap[w.heap.size + 1]? = W.heap[w.heap.size + 1]? ∧ W₁.heap[w.heap.size]? = W.heap[w.heap.size]? ∧
      ∀ W₂ r', W₂.heap[w.heap.size + 1]? = some (.loop r') → W₂.heap[w.heap.size]? = some (.deferred (some [])) → Keeps (fun k => k = w.heap.size + 1) W₁ W₂ →
        body.wpIn (F.inRound (w.heap.size + 1)) (n - 1 - 1) P (goOn fun W₃ => I (pre ++ [x]) W₃ ∧ W₃.heap[w.heap.size + 1]? = W₂.heap[w.heap.size + 1]? ∧ W₃.heap[w.heap.size]? = W₂.heap[w.heap.size]?) a₁ W₂) (fun a₁ W₁ h1 h2 h3 => ⟨h1, h2, h3⟩)) ?_)⟩
    rintro e a₁ W₁ hq
    cases e with
    | normal =>
      obtain ⟨e1, e2, hb⟩ := hq
      have hl1 := e1.trans hl
      refine ⟨_, run_beginRound hl1 rfl, ?_⟩
      have hl2 : (W₁.putObj (w.heap.size + 1) (.loop { rec' .ready none with state := .busy })).heap[w.heap.size + 1]? = some (.loop { rec' .ready none with state := .busy }) := World.putObj_heap_same (Array.getElem?_eq_some_iff.1 hl1).1
      have hd2 : (W₁.putObj (w.heap.size + 1) (.loop { rec' .ready none with state := .busy })).heap[w.heap.size]? = some (.deferred (some [])) := (World.putObj_heap_other (by omega)).trans (e2.trans hd)
      refine wpIn_mono (hb _ _ hl2 hd2 (keeps_putObj _ _ _)) ?_
      rintro e a₃ W₃ hq
      cases e with
      | normal =>
        obtain ⟨hI3, e3, e4⟩ := hq
        have hl3 := e3.trans hl2
        refine ⟨_, _, run_endRound none hl3, rfl, hIs _ _ _ _ hI3 hl3 (keeps_putObj _ _ _), World.putObj_heap_same (Array.getElem?_eq_some_iff.1 hl3).1, (World.putObj_heap_other (by omega)).trans (e4.trans hd2)⟩
      | _ => exact hq.elim
    | _ => exact hq.elim
/-- A region that draws, within a round: its orders are walked as outside of one. -/
theorem wpIn_of_oper {o : Oper} {a : Act} {w : World} {K : Act → World → Prop} {Q : Exit → Act → World → Prop} {l : Nat} (hd : ∀ c, o.op ≠ .defer c) (h : o.wp P a w K Q) : o.wpIn (Fence.wide.inRound l) n P a w K Q := by
  refine ⟨fun _ _ => trivial, ?_⟩
  rw [show Oper.semAt (Fence.wide.inRound l).round a.eval o = execOp a.eval o from Oper.semAt_some l _ _ hd]
  unfold Oper.wp at h
  cases hr : (execOp a.eval o).run P w with
  | ok x w' =>
    rw [hr] at h
    cases x with
    | value v => exact h
    | skip => exact h
    | defer d => exact h
    | enter f args => exact ⟨fun hh => (nomatch hh), CallsIn.inRound l (callsIn_wide.2 (h.mono fun e w'' he => by cases e <;> exact he))⟩
    | row r args => exact ⟨fun hh => (nomatch hh), fun c cs _ => let ⟨v, w'', r, s⟩ := h c cs; ⟨v, w'', r, stepsIn_wide.2 s⟩⟩
    | _ => exact h.elim
  | halt x w' =>
    rw [hr] at h
    cases x with
    | panic v => exact h
    | _ => exact h.elim
theorem wpAnyIn_of_plain {ops : Array Oper} {Q : Exit → Act → World → Prop} {md : Region.Mode} {l : Nat} (hd : ∀ (i : Nat) (o : Oper), ops[i]? = some o → ∀ c, o.op ≠ .defer c) (hl : ¬ LetsOut Q) : ∀ (fuel : Nat) (listed : Array Bool) (a : Act) (w : World), wpAny P md ops Q fuel listed a w → wpAnyIn (Fence.wide.inRound l) n P md ops Q fuel listed a w
  | 0, _, _, _, h => h
  | fuel + 1, listed, a, w, ⟨h1, h2⟩ => ⟨h1, fun i hi => by
    have h3 := h2 i hi
    unfold wpOp at h3
    unfold wpOpIn
    cases ho : ops[i]? with
    | none =>
      rw [ho] at h3
      exact wpAnyIn_of_plain hd hl fuel _ a w h3
    | some o =>
      rw [ho] at h3
      dsimp only at h3 ⊢
      by_cases hw : Region.wanted o (yielded ops a.tmps) = true
      · rw [if_pos hw] at h3 ⊢
        rcases h3 with h3 | ⟨_, h3⟩
        · exact Oper.wpIn_mono (fun a' w' h' => wpAnyIn_of_plain hd hl fuel _ a' w' h') (wpIn_of_oper (hd i o ho) h3)
        · exact absurd h3 hl
      · rw [if_neg hw] at h3 ⊢
        exact ⟨fun _ _ => trivial, wpAnyIn_of_plain hd hl fuel _ _ w h3⟩⟩
theorem region_round {id : Nat} {ops : List Oper} {Q : Exit → Act → World → Prop} {a : Act} {w : World} {l : Nat} (hm : P.follows .mixedOrders = true) (hd : ∀ o ∈ ops, ∀ c, o.op ≠ .defer c) (hl : ¬ LetsOut Q) (k : Nat) (hk : ops.length = k)
    (h : wpAny P .any ops.toArray Q k (Array.replicate k false) a w.drew) : (Code.region id ops.toArray true).wpIn (Fence.wide.inRound l) n P Q a w := by
  subst hk
  refine wpIn_region_any hm (wpAnyIn_of_plain (fun i o ho c => hd o ?_ c) hl _ _ _ _ ?_)
  · exact List.mem_of_getElem? (by simpa using ho)
  · simpa using h
/-- A mark of a loop. -/
def mark (D : Nat) : Deferred := { target := .collected D, args := #[] }
/-- On the way out the loops' blocks are shut, one behind the other. -/
theorem marks_out {fn : Func} {tmps : Array Value} {R : Ending → World → Prop} : ∀ (Ds : List Nat) (E : World), Ds.Nodup → (∀ D ∈ Ds, E.heap[D]? = some (.deferred (some []))) →
    (∀ E', Keeps (fun k => k ∈ Ds) E E' → LeavesIn F n P fn tmps R [] .returning E') → LeavesInM F n P fn tmps R (Ds.map mark) .returning E
  | [], E, _, _, h => h E (Keeps.refl _ _)
  | D :: Ds, E, hn, hd, h => by
    obtain ⟨hn1, hn2⟩ := List.nodup_cons.1 hn
    have hk := keeps_putObj E D (.deferred none)
    refine ⟨by simp, .inl ⟨D, E.putObj D (.deferred none), rfl, run_takeDeferred (hd D (List.mem_cons_self ..)), ?_⟩⟩
    refine marks_out Ds _ hn2 (fun D' hD' => ?_) fun E' hk' => h E' ((hk.mono fun k _ e => ?_).trans (hk'.mono fun k _ e => List.mem_cons_of_mem _ e))
    · have h1 := hd D' (List.mem_cons_of_mem _ hD')
      refine (hk.block D' (Array.getElem?_eq_some_iff.1 h1).1 fun e => ?_).trans h1
      have e : D' = D := e
      exact hn1 (e ▸ hD')
    · have e : k = D := e
      rw [e]
      exact List.mem_cons_self ..
end
attribute [local go_sem] Oper.semAt_some
/-- What the iterator over a list reads. -/
def ListBox (Bs : Nat) (a : Option Addr) (c : Nat) (zs : List Nat) (W : World) : Prop := W.cell? ⟨Bs, 0, none⟩ = some (.slice a zs.length c) ∧ ∀ j, j < zs.length → ∃ g, a = some ⟨g, 0, none⟩ ∧ W.cell? ⟨g, j, none⟩ = some (.int .i64 ((zs[j]?.getD 0 : Nat) : Int))
theorem AllBox.listBox {w : World} {base B : Nat} {zs : List Nat} (h : AllBox w base B zs) : ∃ a c, ListBox B a c zs w := by
  obtain ⟨v, hb, hr⟩ := h
  have hc := hb.cell
  rcases hr.2 with ⟨rfl, h0⟩ | ⟨g, cap, cur, rfl, _, hg, hcap, _, hcs, htake⟩
  · refine ⟨none, 0, by rw [hc, h0], fun j hj => by omega⟩
  · refine ⟨_, cap, hc, fun j hj => ⟨g, rfl, ?_⟩⟩
    rw [cell_of_row w g j cur 3 (0, 0) hg]
    have h1 : (cur.toList.take (zs.length * 1))[j]? = (nats zs)[j]? := by rw [htake]
    rw [List.getElem?_take_of_lt (by omega)] at h1
    rw [← Array.getElem?_toList, h1]
    simp [nats, hj]
theorem ListBox.quiet {Bs : Nat} {a : Option Addr} {c : Nat} {zs : List Nat} {w w' : World} {S : Nat → Prop} (h : ListBox Bs a c zs w) (hk : Keeps S w w') (h1 : ¬ S Bs) (h2 : ∀ g, a = some ⟨g, 0, none⟩ → ¬ S g) : ListBox Bs a c zs w' := by
  refine ⟨(hk.cell (cell_lt h.1) h1).trans h.1, fun j hj => ?_⟩
  obtain ⟨g, rfl, hc⟩ := h.2 j hj
  exact ⟨g, rfl, (hk.cell (cell_lt hc) (h2 g rfl)).trans hc⟩
set_option maxRecDepth 100000 in
set_option maxHeartbeats 2000000 in
theorem list_seqJ (F : Fence) (n : Nat) (h7 : F.fn 86) (hro : F.round = none) (hn : 1 ≤ n) (Bs : Nat) (a : Option Addr) (c : Nat) (zs : List Nat) (hz : zs.length ≤ 65536) :
    SeqJ F n Tryd.prog 86 #[.pointer (some ⟨Bs, 0, none⟩)] (fun x : Nat => #[Value.int .i64 (x : Int)]) (ListBox Bs a c zs) (fun pre x _ => pre ++ [x] <+: zs) (fun ys => ys = zs) := by
  intro l J W hJF hJs hY h0
  have HJF := Lib.hid hJF
  have HY := Lib.hid hY
  have hc0 := (hJF _ _ h0).1
  refine callsIn_of_wp Tryd.func86 rfl h7 ?_ hro
  have H0 := Lib.hid h0
  clear hJF hY h0 hJs
  show Code.wpIn F n Tryd.prog _ _ { tmps := #[.func (.yield l) #[] #[], .pointer (some ⟨Bs, 0, none⟩)] ++ Array.replicate _ undef, defers := [] } W
  simp only [Tryd.ntmps86, List.size_toArray, List.length_cons, List.length_nil, Nat.reduceAdd, Nat.reduceSub, Array.replicate_succ, Array.replicate_zero, List.push_toArray, List.append_toArray, List.nil_append, List.cons_append]
  gi_wp2
  gi_loopw [7] (fun i wr => ∃ k : Nat, k ≤ zs.length ∧ i = .int .i64 k ∧ J (zs.take k) wr)
    (fun i _ => zs.length - (intOf i).toNat)
  case atStart => exact ⟨0, Nat.zero_le _, rfl, H0.out⟩
  case round =>
    obtain ⟨k, hk, rfl, hJk⟩ := hrel
    have HJK := Lib.hid hJk
    by_cases hlt : k < zs.length
    · obtain ⟨x, hx⟩ : ∃ x, x = zs[k]?.getD 0 := ⟨_, rfl⟩
      have htk : zs.take k ++ [x] = zs.take (k + 1) := by
        rw [hx, List.take_succ_eq_append_getElem hlt, List.getElem?_eq_getElem hlt]
        rfl
      obtain ⟨g, hg, hcx⟩ := (HJF.out _ _ hJk).2 k hlt
      subst hg
      rw [← hx] at hcx
      have hY1 := HY.out _ x wr hJk (by rw [htk]; exact List.take_prefix _ _)
      have HT := Lib.hid htk
      clear hx hJk htk
      obtain ⟨fn, tmps, assign, body, hy, hR⟩ := hY1
      gi_wp2
      refine hR.mono ?_
      rintro e W3 ⟨rfl, hJ3⟩
      gi_wp2
      go_roundw
      case rel => exact ⟨k + 1, by omega, by simp, by rw [← HT.out]; exact hJ3⟩
      case measure => simp [intOf]; omega
    · obtain rfl : k = zs.length := by omega
      clear hJk
      gi_wp2
      go_end0
      exact ⟨⟨_, rfl⟩, zs, rfl, by simpa using HJK.out⟩
end Go.Proofs.YthnagihgjenimaaDoor

/- ram: what the function value of All gives to a loop over it: each item, in memory of its own. -/
namespace Go.Proofs.YthnagihgjenimaaDoor
open Go.RowKit Go.Shelf
set_option linter.unusedVariables false
set_option linter.unusedSimpArgs false
attribute [local go_sem] Oper.semAt_some
/-- What the iterator over items reads. -/
def ItemBox (Bs : Nat) (a : Option Addr) (c : Nat) (zs : List HM) (W : World) : Prop :=
  W.cell? ⟨Bs, 0, none⟩ = some (.slice a zs.length c) ∧ ∀ j y, zs[j]? = some y → Reads W y.it y.kv y.vv ∧ y.it.key.length ≤ 1000000 ∧ y.it.val.length ≤ 1000000 ∧ ∃ g, a = some ⟨g, 0, none⟩ ∧ ∀ i u, (y.it.cells y.kv y.vv)[i]? = some u → W.cell? ⟨g, j * 6 + i, none⟩ = some u
/-- The item that comes next, in memory of its own. -/
def NextI (zs pre : List HM) (x : HM) (W : World) : Prop := ∃ y, zs[pre.length]? = some y ∧ x.it = y.it ∧ Reads W x.it x.kv x.vv
set_option maxRecDepth 100000 in
set_option maxHeartbeats 2000000 in
theorem item_seqJ (n : Nat) (hn : 1 ≤ n) (Bs : Nat) (a : Option Addr) (c : Nat) (zs : List HM) (hz : zs.length ≤ 10000000) :
    SeqJ Fence.wide n Tryd.prog 75 #[.pointer (some ⟨Bs, 0, none⟩)] (fun x : HM => #[x.val]) (ItemBox Bs a c zs) (NextI zs) (fun ys => itsOf ys = itsOf zs) := by
  intro l J W hJF hJs hY h0
  have HJF := Lib.hid hJF
  have HJS := Lib.hid hJs
  have HY := Lib.hid hY
  have hc0 := (hJF _ _ h0).1
  refine callsIn_of_wp Tryd.func75 rfl trivial ?_ rfl
  have H0 := Lib.hid h0
  clear hJF hY h0 hJs
  show Code.wpIn Fence.wide n Tryd.prog _ _ { tmps := #[.func (.yield l) #[] #[], .pointer (some ⟨Bs, 0, none⟩)] ++ Array.replicate _ undef, defers := [] } W
  simp only [Tryd.ntmps75, List.size_toArray, List.length_cons, List.length_nil, Nat.reduceAdd, Nat.reduceSub, Array.replicate_succ, Array.replicate_zero, List.push_toArray, List.append_toArray, List.nil_append, List.cons_append]
  obtain ⟨m, hm⟩ : ∃ m, m = zs.length := ⟨_, rfl⟩
  have HM' := Lib.hid hm
  rw [← hm] at hc0 hz
  clear hm
  gi_wp2
  gi_loopw [7] (fun i wr => ∃ ys : List HM, ys.length ≤ m ∧ i = .int .i64 (ys.length : Nat) ∧ itsOf ys = (itsOf zs).take ys.length ∧ J ys wr)
    (fun i _ => m - (intOf i).toNat)
  case atStart => exact ⟨[], Nat.zero_le _, rfl, rfl, H0.out⟩
  case round =>
    obtain ⟨ys, hk, rfl, hit, hJk⟩ := hrel
    obtain ⟨k, hkk⟩ : ∃ k, k = ys.length := ⟨_, rfl⟩
    rw [← hkk] at hk hit ⊢
    have HJK := Lib.hid hJk
    have HIT := Lib.hid hit
    have HKK := Lib.hid hkk
    by_cases hlt : k < m
    · have hlt' : (k : Int) < (m : Int) := by omega
      obtain ⟨y, hy⟩ : ∃ y, zs[k]? = some y := ⟨_, List.getElem?_eq_getElem (by rw [← HM'.out]; exact hlt)⟩
      obtain ⟨hr0, hl1, hl2, g, hg, hc⟩ := (HJF.out _ _ hJk).2 k y hy
      have hr := hr0.itb
      subst hg
      have c0 := hc 0 _ rfl
      have c1 := hc 1 _ rfl
      have c2 := hc 2 _ rfl
      have c3 := hc 3 _ rfl
      have c4 := hc 4 _ rfl
      have c5 := hc 5 _ rfl
      simp only [Nat.add_zero] at c0
      have HO : Hid (∀ W', Keeps (fun _ => False) wr W' → Calls Tryd.prog 66 #[y.it.agg y.kv y.vv] W' (OwnP y.it W')) := Lib.hid (fun W' hk => own_any y.it y.kv y.vv W' (hr.quiet hk) (by omega) (by omega))
      obtain ⟨⟨yk, ykc, hyk, _⟩, ⟨yv, yvc, hyv, _⟩⟩ := hr
      rw [hyk, hyv] at HO
      rw [hyk] at c0
      rw [hyv] at c1
      have HYY := Lib.hid hy
      unfold OwnP at HO
      unfold IT.agg at HO
      clear hc hyk hyv hy hit hJk hkk hr0
      gi_wp2_with (refine ⟨trivial, ?_⟩; gi_at_call 66; refine (callsIn_wide.2 (HO.out _ ((Keeps.refl _ _).alloc _))).mono ?_; rintro e w2 ⟨kv, vv, rfl, ok, ov, hk2⟩)
      obtain ⟨ka, kc, rfl⟩ := own_formQ ok
      obtain ⟨va, vc, rfl⟩ := own_formQ ov
      have hkw : Keeps (fun _ => False) wr w2 := ((Keeps.refl _ _).alloc _).trans hk2
      obtain ⟨x, hx⟩ : ∃ x : HM, x = ⟨y.it, 0, 0, .slice ka y.it.key.length kc, .slice va y.it.val.length vc⟩ := ⟨_, rfl⟩
      have hY1 := HY.out ys x w2 (HJS.out _ _ _ HJK.out hkw) ⟨y, by rw [← HKK.out]; exact HYY.out, by rw [hx], by rw [hx]; exact ⟨own_low ok (Nat.zero_le _), own_low ov (Nat.zero_le _)⟩⟩
      have HT : Hid (itsOf (ys ++ [x]) = (itsOf zs).take (ys ++ [x]).length ∧ (ys ++ [x]).length = k + 1) := Lib.hid (by
        have h1 : itsOf (ys ++ [x]) = itsOf ys ++ [y.it] := by rw [hx]; simp [itsOf]
        have h2 : (ys ++ [x]).length = k + 1 := by rw [List.length_append, HKK.out]; rfl
        rw [h2]
        refine ⟨?_, rfl⟩
        rw [h1, HIT.out, List.take_add_one, its_at HYY.out]
        rfl)
      have hv : x.val = .agg #[.slice ka y.it.key.length kc, .slice va y.it.val.length vc, .int .u32 y.it.fg, .int .u32 y.it.ex, .int .u64 y.it.sq, .bool y.it.dt] := by rw [hx]; rfl
      rw [hv] at hY1
      clear hx hv hkw hk2 ok ov HO c0 c1 c2 c3 c4 c5
      obtain ⟨fn, tmps, assign, body, hy, hR⟩ := hY1
      rw [hy]
      gi_wp2
      refine hR.mono ?_
      rintro e W3 ⟨rfl, hJ3⟩
      have HJ3 := Lib.hid hJ3
      clear hJ3 hy hR
      gi_wp2
      go_roundw
      case rel => exact ⟨ys ++ [x], by rw [HT.out.2]; omega, by rw [HT.out.2]; go_num, HT.out.1, HJ3.out⟩
      case measure => simp [intOf]; omega
    · have hlt' : ¬ ((k : Int) < (m : Int)) := by omega
      obtain rfl : k = m := by omega
      clear hJk hit hkk
      gi_wp2
      go_end0
      refine ⟨⟨_, rfl⟩, ys, ?_, HJK.out⟩
      rw [HIT.out, HM'.out, List.take_of_length_le (by simp [itsOf])]
end Go.Proofs.YthnagihgjenimaaDoor

/- ram: All over a memory: the items by class, the newest first, each in memory of its own. -/
namespace Go.Proofs.YthnagihgjenimaaDoor
open Go.RowKit Go.Shelf
set_option linter.unusedVariables false
set_option linter.unusedSimpArgs false
attribute [local go_sem] Oper.semAt_some
theorem Boxed.blk {W : World} {B : Nat} {t : TypeId} {v : Value} (h : Boxed W B t v) : Blk W B t [v] := h
/-- A row of items that is in a variable. -/
structure AllI (w : World) (B : Nat) (its : List IT) (v : Value) (zs : List HM) (W : World) : Prop where
  box : Blk W B 58 [v]
  row : W.ownsRow w.heap.size 64 6 v zs.length (itemCells zs)
  rd : ∀ h ∈ zs, Reads W h.it h.kv h.vv
  its : itsOf zs = its
  keeps : Keeps (fun _ => False) w W
theorem AllI.keep {w : World} {B : Nat} {its : List IT} {v : Value} {zs : List HM} {W W' : World} {S : Nat → Prop} (h : AllI w B its v zs W) (hk : Keeps S W W') (hc : ∀ k, S k → ∀ cs t, W.heap[k]? ≠ some (.cells cs t (0, 0))) (hw : ∀ k, S k → w.heap.size ≤ k) : AllI w B its v zs W' := by
  have hb : ∀ {base e size n : Nat} {u : Value} {xs : List Value}, W.ownsRow base e size u n xs → ∀ g, u.ownBlock = some g → ¬ S g := fun ho g hg hS => by
    obtain ⟨_, _, cur, he⟩ := own_heap ho hg
    exact hc g hS _ _ he
  refine ⟨hk.blk h.box fun hS => hc _ hS _ _ h.box, hk.own' h.row (hb h.row), fun x hx => (h.rd x hx).keep hk (hb (h.rd x hx).k) (hb (h.rd x hx).v), h.its, ((h.keeps.mono fun _ _ h => h.elim).trans hk).mono fun k hk' hS => ?_⟩
  exact absurd (hw k hS) (Nat.not_le.2 hk')
theorem AllI.push {w : World} {B : Nat} {its : List IT} {v v' : Value} {zs : List HM} {W w2 w4 : World} {i : IT} {kv vv : Value} {cs : List Value} (h : AllI w B its v zs W) (hB : w.heap.size ≤ B) (hk : Keeps (fun _ => False) W w2) (hr : Reads w2 i kv vv) (hcs : cs = i.cells kv vv)
    (hown : w4.ownsRow w.heap.size 64 6 v' (zs.length + 1) (itemCells zs ++ cs)) (hg : (w2.alloc (.cells cs.toArray 64)).grownBy w4 v.ownBlock) :
    AllI w B (its ++ [i]) v' (zs ++ [⟨i, 0, 0, kv, vv⟩]) (w4.setCell ⟨B, 0, none⟩ v') ∧ Keeps (fun k => k = B ∨ v.ownBlock = some k) W (w4.setCell ⟨B, 0, none⟩ v') ∧ w4.cell? ⟨B, 0, none⟩ = some v ∧ w4.frozen? ⟨B, 0, none⟩ = false := by
  have k2 : Keeps (fun _ => False) W (w2.alloc (.cells cs.toArray 64)) := hk.alloc _
  have k3 : Keeps (fun _ => False) w2 (w2.alloc (.cells cs.toArray 64)) := (Keeps.refl _ _).alloc _
  have hg' : Keeps (fun k => v.ownBlock = some k) (w2.alloc (.cells cs.toArray 64)) w4 := Keeps.of_grown hg
  have hrow := k2.own' h.row (fun _ _ => id)
  have hbox := k2.blk h.box id
  have hb4 := hg'.blk hbox (own_ne_blk hbox hrow (by decide))
  have hst : Keeps (fun k => k = B) w4 (w4.setCell ⟨B, 0, none⟩ v') := (Keeps.refl (fun k => k = B) w4).store (p := ⟨B, 0, none⟩) (.inl rfl) _
  have hall : Keeps (fun k => k = B ∨ v.ownBlock = some k) W (w4.setCell ⟨B, 0, none⟩ v') := ((k2.mono fun _ _ h => h.elim).trans (hg'.mono fun _ _ e => .inr e)).trans (hst.mono fun _ _ e => .inl e)
  have hrd : ∀ {j : IT} {a b : Value}, Reads (w2.alloc (.cells cs.toArray 64)) j a b → Reads (w4.setCell ⟨B, 0, none⟩ v') j a b := fun {j a b} hj => by
    have h4 : Reads w4 j a b := hj.keep hg' (own_ne_own hj.k hrow (by decide)) (own_ne_own hj.v hrow (by decide))
    exact h4.keep hst (fun g hg e => own_ne_blk hb4 h4.k (by decide) ((show g = B from e) ▸ hg)) (fun g hg e => own_ne_blk hb4 h4.v (by decide) ((show g = B from e) ▸ hg))
  refine ⟨⟨hb4.store 0 v', ?_, fun x hx => ?_, ?_, ((h.keeps.mono fun _ _ h => h.elim).trans hall).mono fun k hk' e => ?_⟩, hall, hb4.cell (i := 0) rfl, hb4.free 0⟩
  · have h5 := hst.own' hown fun g hg e => own_ne_blk hb4 hown (by decide) ((show g = B from e) ▸ hg)
    rw [itemCells_snoc, List.length_append]
    subst hcs
    exact h5
  · rcases List.mem_append.1 hx with hx | hx
    · exact hrd ((h.rd x hx).keep k2 (fun _ _ => id) (fun _ _ => id))
    · obtain rfl := List.mem_singleton.1 hx
      exact hrd (hr.keep k3 (fun _ _ => id) (fun _ _ => id))
  · have := h.its
    simp [itsOf] at this ⊢
    exact this
  · rcases e with e | e
    · omega
    · have := (own_heap h.row e).1
      omega
/-- Behind All. -/
def RAllRP (hs : List HM) (w : World) (e : Ending) (w' : World) : Prop := ∃ B v zs, e = .returned (.func (.func 75) #[] #[.pointer (some ⟨B, 0, none⟩)]) ∧ w.heap.size ≤ B ∧ AllI w B (itsOf (ordC hs 8)) v zs w'
/-- Ahead of class c. -/
def OutI (hs : List HM) (w : World) (p : Value) (c : Nat) (Ds : List Nat) (W : World) : Prop :=
  (∃ v zs, AllI w (w.heap.size + 1) (itsOf (ordC hs c)) v zs W) ∧ Blk W w.heap.size 53 [p] ∧ Ds.Nodup ∧ ∀ D ∈ Ds, W.heap[D]? = some (.deferred (some [])) ∧ w.heap.size ≤ D
/-- Within a class, behind pre of its list. -/
structure InI (hs : List HM) (w : World) (c : Nat) (Ds : List Nat) (p : Value) (Bs : Nat) (vl : Value) (zl : List Nat) (pre : List Nat) (W : World) : Prop where
  all : ∃ v zs, AllI w (w.heap.size + 1) (itsOf (ordC hs c) ++ (itsOf (hs.filter fun h => decide (h.cl = c))).take pre.length) v zs W
  ptr : Blk W w.heap.size 53 [p]
  box : Blk W Bs 28 [vl]
  row : W.ownsRow 0 3 1 vl zl.length (nats zl)
  ds : ∀ D ∈ Ds, W.heap[D]? = some (.deferred (some []))
theorem InI.keep {hs : List HM} {w : World} {c : Nat} {Ds : List Nat} {p : Value} {Bs : Nat} {vl : Value} {zl pre : List Nat} {W W' : World} {S : Nat → Prop} (h : InI hs w c Ds p Bs vl zl pre W) (hk : Keeps S W W') (hc : ∀ k, S k → ∀ cs t, W.heap[k]? ≠ some (.cells cs t (0, 0))) (hd : ∀ k, S k → W.heap[k]? ≠ some (.deferred (some []))) (hw : ∀ k, S k → w.heap.size ≤ k) : InI hs w c Ds p Bs vl zl pre W' := by
  obtain ⟨v, zs, ha⟩ := h.all
  refine ⟨⟨v, zs, ha.keep hk hc hw⟩, hk.blk h.ptr fun hS => hc _ hS _ _ h.ptr, hk.blk h.box fun hS => hc _ hS _ _ h.box, hk.own' h.row fun g hg hS => ?_, fun D hD => ?_⟩
  · obtain ⟨_, _, cur, he⟩ := own_heap h.row hg
    exact hc g hS _ _ he
  · have h1 := h.ds D hD
    exact (hk.block D (Array.getElem?_eq_some_iff.1 h1).1 fun hS => hd D hS h1).trans h1
theorem InI.list {hs : List HM} {w : World} {c : Nat} {Ds : List Nat} {p : Value} {Bs : Nat} {a : Option Addr} {m k : Nat} {zl pre : List Nat} {W : World} (h : InI hs w c Ds p Bs (.slice a m k) zl pre W) : ListBox Bs a k zl W := by
  have hc := h.box.cell (i := 0) rfl
  have hr := h.row
  rcases hr.2 with ⟨h1, h0⟩ | ⟨g, cap, cur, h1, _, hg, hcap, _, hcs, htake⟩
  · injection h1 with h1 h2 h3
    subst h1 h2 h3
    refine ⟨by rw [hc, h0], fun j hj => by omega⟩
  · injection h1 with h1 h2 h3
    subst h1 h2 h3
    refine ⟨hc, fun j hj => ⟨g, rfl, ?_⟩⟩
    rw [cell_of_row W g j cur 3 (0, 0) hg]
    have h1 : (cur.toList.take (zl.length * 1))[j]? = (nats zl)[j]? := by rw [htake]
    rw [List.getElem?_take_of_lt (by omega)] at h1
    rw [← Array.getElem?_toList, h1]
    simp [nats, hj]
theorem AllI.other {w : World} {B : Nat} {its : List IT} {v : Value} {zs : List HM} {W W' : World} (ha : AllI w B its v zs W) (hk : Keeps (fun k => k = B ∨ v.ownBlock = some k) W W') {D : Nat} {o : Obj} (ho : W.heap[D]? = some o) (hn : ∀ cs t, o = .cells cs t (0, 0) → t ≠ 58 ∧ t ≠ 64) : W'.heap[D]? = W.heap[D]? := by
  refine hk.block D (Array.getElem?_eq_some_iff.1 ho).1 fun e => ?_
  rcases e with e | e
  · have h1 : W.heap[B]? = _ := ha.box
    rw [← e, ho] at h1
    injection h1 with h1
    exact (hn _ _ h1).1 rfl
  · obtain ⟨_, _, cur, h1⟩ := own_heap ha.row e
    rw [ho] at h1
    injection h1 with h1
    exact (hn _ _ h1).2 rfl
theorem InI.turn {hs : List HM} {w : World} {c : Nat} {Ds : List Nat} {p : Value} {Bs : Nat} {vl : Value} {zl pre : List Nat} {x : Nat} {W W' : World} {its : List IT} {v : Value} {zs : List HM} (h : InI hs w c Ds p Bs vl zl pre W) (ha : AllI w (w.heap.size + 1) its v zs W) (hk : Keeps (fun k => k = w.heap.size + 1 ∨ v.ownBlock = some k) W W') {i : IT} (hi : (itsOf (hs.filter fun h => decide (h.cl = c)))[pre.length]? = some i)
    {v' : Value} {zs' : List HM} (ha' : AllI w (w.heap.size + 1) ((itsOf (ordC hs c) ++ (itsOf (hs.filter fun h => decide (h.cl = c))).take pre.length) ++ [i]) v' zs' W') : InI hs w c Ds p Bs vl zl (pre ++ [x]) W' := by
  refine ⟨⟨v', zs', ?_⟩, (ha.other hk h.ptr ?_).trans h.ptr, (ha.other hk h.box ?_).trans h.box, hk.own' h.row fun g hg e => ?_, fun D hD => (ha.other hk (h.ds D hD) ?_).trans (h.ds D hD)⟩
  · rw [List.length_append, List.length_singleton, List.take_add_one, hi, ← List.append_assoc]
    exact ha'
  · intro cs t e
    injection e with _ e
    subst e
    decide
  · intro cs t e
    injection e with _ e
    subst e
    decide
  · rcases e with e | e
    · exact own_ne_blk ha.box h.row (by decide) (e ▸ hg)
    · exact own_ne_own h.row ha.row (by decide) g hg e
  · intro cs t e
    cases e
theorem itone (i : IT) (a b : Option Addr) (n m c d : Nat) : ∀ u ∈ i.cells (.slice a n c) (.slice b m d), u.oneCell' = true := by
  intro u hu
  unfold IT.cells at hu
  simp at hu
  rcases hu with rfl | rfl | rfl | rfl | rfl | rfl <;> rfl
theorem pre_item {hs : List HM} {c x : Nat} {pre : List Nat} (h : pre ++ [x] <+: lsOf hs c) : ∃ y ∈ hs, y.ch = x ∧ (itsOf (hs.filter fun h => decide (h.cl = c)))[pre.length]? = some y.it := by
  obtain ⟨r, hr⟩ := h
  have h1 : (lsOf hs c)[pre.length]? = some x := by rw [← hr]; simp
  unfold lsOf at h1
  rw [List.getElem?_map] at h1
  cases hy : (hs.filter fun h => h.cl == c)[pre.length]? with
  | none => rw [hy] at h1; cases h1
  | some y =>
    rw [hy] at h1
    injection h1 with h1
    have hm := List.mem_of_getElem? hy
    refine ⟨y, (List.mem_filter.1 hm).1, h1, ?_⟩
    have he : (hs.filter fun h => decide (h.cl = c)) = hs.filter fun h => h.cl == c := by
      apply List.filter_congr
      intro q _
      exact Bool.eq_iff_iff.2 (by simp)
    rw [he]
    simp [itsOf, hy]
set_option maxRecDepth 100000 in
set_option maxHeartbeats 4000000 in
theorem rall_real (L : RL) (D : AD) (hs : List HM) (w : World) (h : RAt w L D hs) : Calls Tryd.prog 53 #[L.ptr] w (RAllRP hs w) := by
  refine (callsIn_wide (n := 3)).1 ?_
  have h1 : 1 ≤ 3 := by omega
  refine callsIn_of_wp_marks Tryd.func53 rfl trivial ?_ rfl
  simp only [Tryd.ntmps53, List.size_toArray, List.length_cons, List.length_nil, Nat.reduceAdd, Nat.reduceSub, Array.replicate_succ, Array.replicate_zero, List.push_toArray, List.append_toArray, List.nil_append, List.cons_append]
  obtain ⟨W0, hW0⟩ : ∃ W0, W0 = (w.alloc (.cells #[L.ptr] 53)).alloc (.cells #[.slice none 0 0] 58) := ⟨_, rfl⟩
  have hs0 : W0.heap.size = w.heap.size + 2 := by rw [hW0]; simp
  have hk0 : Keeps (fun _ => False) w W0 := by rw [hW0]; exact ((Keeps.refl _ w).alloc _).alloc _
  have hp0 : Blk W0 w.heap.size 53 [L.ptr] := by rw [hW0]; exact (Blk.new w 53 _).alloc _
  have hb0 : Blk W0 (w.heap.size + 1) 58 [.slice none 0 0] := by
    rw [hW0]
    have := Blk.new (w.alloc (.cells #[L.ptr] 53)) 58 [.slice none 0 0]
    rwa [World.size_alloc] at this
  have HA0 : Hid (AllI w (w.heap.size + 1) (itsOf (ordC hs 0)) (.slice none 0 0) [] W0) := Lib.hid ⟨hb0, World.ownsRow_nil _ _ _ _, (fun x hx => nomatch hx), rfl, hk0⟩
  have HH := Lib.hid h
  have HP0 := Lib.hid hp0
  have HK0 := Lib.hid hk0
  have HS0 := Lib.hid hs0
  have HW0 := Lib.hid hW0
  have c0 := hp0.cell (i := 0) rfl
  unfold RL.ptr at *
  clear h hk0 hp0 hb0 hs0 hW0
  gi_wp2
  rw [show (w.alloc (Obj.cells #[Value.pointer (some ⟨L.B, 0, none⟩)] 53)).alloc (Obj.cells #[Value.slice none 0 0] 58) = W0 from HW0.out.symm]
  refine wpIn_loop (fun a' W => ∃ (c : Nat) (Ds : List Nat) (u4 u9 u10 u11 u12 u13 u14 u15 u16 u29 : Value), c ≤ 8 ∧ OutI hs w (.pointer (some ⟨L.B, 0, none⟩)) c Ds W ∧
    a' = { tmps := #[.pointer (some ⟨L.B, 0, none⟩), .pointer (some ⟨w.heap.size, 0, none⟩), .nilFunc, .pointer (some ⟨w.heap.size + 1, 0, none⟩), u4, undef, .pointer (some ⟨L.B, 0, none⟩), .bool true, .int .i64 (c : Int), u9, u10, u11, u12, u13, u14, u15, u16, undef, undef, undef, undef, undef, undef, undef, undef, undef, undef, undef, undef, u29, undef], defers := Ds.map mark })
    (fun a' _ => 8 - (intOf (a'.tmps.getD 8 undef)).toNat) ?_ ?_
  · exact ⟨0, [], _, _, _, _, _, _, _, _, _, _, by omega, ⟨⟨_, _, HA0.out⟩, HP0.out, List.nodup_nil, fun x hx => nomatch hx⟩, rfl⟩
  rintro _ W ⟨c, Ds, u4, u9, u10, u11, u12, u13, u14, u15, u16, u29, hc8, hO, rfl⟩
  have HO := Lib.hid hO
  obtain ⟨⟨v, zs, ha⟩, hp, hnd, hds⟩ := hO
  have HRA := Lib.hid (HH.out.quiet ha.keeps)
  have c0 := hp.cell (i := 0) rfl
  have hob := HRA.out.obj
  unfold RL.obj at hob
  have c3 := hob.cell (i := 3) rfl
  have HAI := Lib.hid ha
  clear hob ha hp hnd hds
  by_cases hlt : c < 8
  · have hlt' : (c : Int) < 8 := by omega
    have HAL := Lib.hid (all_ok L.lk W (lsOf hs) HRA.out.li c (by rw [HRA.out.ln]; exact hlt))
    unfold LK.ptr at c3 HAL
    gi_wp2_with (refine ⟨trivial, ?_⟩; gi_at_call 74; refine (callsIn_wide.2 HAL.out).mono ?_; rintro e w1 ⟨rfl, hk1, hx1⟩)
    have hs1 := hk1.size
    have hWs := HAI.out.keeps.size
    have hlt1 : W.heap.size < w1.heap.size := hx1.lt
    obtain ⟨vl, hbl, hrl⟩ := hx1
    obtain ⟨la, lc, rfl⟩ := own_formQ hrl
    have hlen : (lsOf hs c).length ≤ 65536 := by
      have h1 : (lsOf hs c).length ≤ hs.length := by unfold lsOf; rw [List.length_map]; exact List.length_filter_le _ _
      have h2 := HRA.out.len
      omega
    have hI0 : InI hs w c Ds (.pointer (some ⟨L.B, 0, none⟩)) W.heap.size (.slice la (lsOf hs c).length lc) (lsOf hs c) [] w1 := by
      obtain ⟨_, hp, _, hds⟩ := HO.out
      refine ⟨⟨v, zs, ?_⟩, hk1.blk hp id, Boxed.blk hbl, own_low hrl (Nat.zero_le _), fun D' hD => ?_⟩
      · have h1 := HAI.out.keep hk1 (fun _ h => h.elim) (fun _ h => h.elim)
        simpa using h1
      · have h1 := (hds D' hD).1
        exact (hk1.block D' (Array.getElem?_eq_some_iff.1 h1).1 id).trans h1
    have HI0 := Lib.hid hI0
    have HK1 := Lib.hid hk1
    clear hI0 hk1 hbl hrl c0 c3 HAL
    refine wpIn_rangeJ rfl h1 (gf := 86) (lb := #[.pointer (some ⟨W.heap.size, 0, none⟩)]) rfl trivial (enters_of Tryd.func86 (by kernel_rfl) rfl) (encs := fun x : Nat => #[Value.int .i64 (x : Int)]) (fun _ => rfl)
      (list_seqJ Fence.wide (3 - 1) trivial rfl (by omega) W.heap.size la lc (lsOf hs c) hlen) (InI hs w c Ds (.pointer (some ⟨L.B, 0, none⟩)) W.heap.size (.slice la (lsOf hs c).length lc) (lsOf hs c)) (fun _ _ h => h.list)
      (fun _ _ _ h hk => h.keep hk (fun _ h => h.elim) (fun _ h => h.elim) (fun _ h => h.elim))
      (fun _ _ _ r h hl hk => h.keep hk (fun k e cs t hc => by
        have e : k = w1.heap.size + 1 := e
        rw [e, hl] at hc
        injection hc with hc
        cases hc) (fun k e hc => by
        have e : k = w1.heap.size + 1 := e
        rw [e, hl] at hc
        injection hc with hc
        cases hc) (fun k e => by
        have e : k = w1.heap.size + 1 := e
        omega)) HI0.out ?round ?done
    case round =>
      intro l pre x Wr r hI hx hlr hdr
      have HI := Lib.hid hI
      have HLR := Lib.hid hlr
      have HDR := Lib.hid hdr
      intro K hK
      gi_wp2
      refine hK _ _ rfl rfl ?_
      intro Wb rb hlb hdb hkb
      have HIB : Hid (InI hs w c Ds (.pointer (some ⟨L.B, 0, none⟩)) W.heap.size (.slice la (lsOf hs c).length lc) (lsOf hs c) pre Wb) := Lib.hid (HI.out.keep hkb (fun k e cs t hc => by
        have e : k = w1.heap.size + 1 := e
        rw [e, HLR.out] at hc
        injection hc with hc
        cases hc) (fun k e hc => by
        have e : k = w1.heap.size + 1 := e
        rw [e, HLR.out] at hc
        injection hc with hc
        cases hc) (fun k e => by
        have e : k = w1.heap.size + 1 := e
        omega))
      have HLB := Lib.hid hlb
      have HDB := Lib.hid hdb
      clear hI hlr hdr hlb hdb hkb
      obtain ⟨y, hy, hyx, hyi⟩ := pre_item hx
      subst hyx
      obtain ⟨vv, zv, hav⟩ := HIB.out.all
      have hrb := HH.out.quiet hav.keeps
      have hch := hrb.chlt y hy
      have hn2 := hrb.ar.n2
      have F1 : Hid (∀ Wq, Keeps (fun _ => False) Wb Wq → Wq.cell? ⟨w.heap.size, 0, none⟩ = some (.pointer (some ⟨L.B, 0, none⟩)) ∧ Wq.cell? ⟨w.heap.size + 1, 0, none⟩ = some vv ∧ Wq.cell? ⟨L.B, 1, none⟩ = some (.map (some L.mt)) ∧ (Instr.lookup 111 (.map (some L.mt)) (.int .i64 (y.ch : Int)) false).run Tryd.prog Wq = .ok y.val Wq) := Lib.hid (fun Wq hk => by
        have hq := hrb.quiet hk
        have hob := hq.obj
        unfold RL.obj at hob
        obtain ⟨g, hm2, hg⟩ := hq.th
        have hl1 := hm2.look intK Tryd.underlying111 (z64 Wq) (key3 (n := y.ch) (by omega))
        rw [show g (chL y.ch) = some y.val from hg.mem y hy] at hl1
        exact ⟨(hk.blk HIB.out.ptr id).cell (i := 0) rfl, (hk.blk hav.box id).cell (i := 0) rfl, hob.cell (i := 1) rfl, hl1⟩)
      have hrd := hrb.rd y hy
      have hok := (hrb.inv.good y hy).1
      have FO : Hid (∀ Wq, Keeps (fun _ => False) Wb Wq → Calls Tryd.prog 66 #[y.val] Wq (OwnP y.it Wq)) := Lib.hid (fun Wq hk => own_any y.it y.kv y.vv Wq (hrd.itb.quiet hk) (by have := hok.k2; omega) (by have := hok.v2; omega))
      have HAV := Lib.hid hav
      have HYI := Lib.hid hyi
      obtain ⟨sa, sc, hsv⟩ := own_formQ hav.row
      subst hsv
      obtain ⟨ka, kc, hka, _⟩ := own_bytes hrd.k
      obtain ⟨va, vc, hva, _⟩ := own_bytes hrd.v
      unfold HM.val at F1 FO
      rw [hka, hva] at F1 FO
      unfold OwnP at FO
      unfold IT.agg at F1 FO
      obtain ⟨m, hm⟩ : ∃ m, m = zv.length := ⟨_, rfl⟩
      have HMZ := Lib.hid hm
      rw [← hm] at F1
      obtain ⟨p1, p2, p3, p4⟩ := F1.out _ (Keeps.refl _ _).drew
      clear hx hyi hav hrb hrd hok hka hva hm hy
      gi_wp2
      refine region_round (by kernel_rfl) (by intro o ho c hc; simp at ho; rcases ho with rfl | rfl | rfl | rfl | rfl | rfl | rfl | rfl | rfl | rfl | rfl | rfl <;> cases hc) (by rintro ⟨a, w, h⟩; exact h) 12 rfl ?_
      refine wpAny_take (i := 6) (v := .int .i64 (y.ch : Int)) rfl (by kernel_rfl) (by kernel_rfl) (by kernel_rfl) (fun _ _ _ h => h) (Or.inl ⟨by rfl, ?_⟩) ?_
      · intro w
        go_simp
      obtain ⟨i64, z64, hi1, hz0, hzc, hz1, hz2⟩ := info64'
      have hzs : z64.cells.size = 6 := by rw [hzc]; rfl
      have HRZ : Hid (∀ Wq, Keeps (fun _ => False) Wb Wq → Wq.ownsRow w.heap.size 64 6 (.slice sa m sc) m (itemCells zv)) := Lib.hid (fun Wq hk => by
        have h1 := hk.own' HAV.out.row (fun _ _ => id)
        rw [← HMZ.out] at h1
        exact h1)
      have HAVM := Lib.hid (show AllI w (w.heap.size + 1) _ (.slice sa m sc) zv Wb from by rw [HMZ.out]; exact HAV.out)
      have HSZ : Hid (∀ Wq, Keeps (fun _ => False) Wb Wq → w.heap.size ≤ Wq.heap.size) := Lib.hid (fun Wq hk => Nat.le_trans HAV.out.keeps.size hk.size)
      have HPU : Hid (∀ (v' : Value) (w2 w3 : World) (kk : Value × Value), Keeps (fun _ => False) Wb w2 → Reads w2 y.it kk.1 kk.2 → w3.ownsRow w.heap.size 64 6 v' (m + 1) (itemCells zv ++ y.it.cells kk.1 kk.2) → (w2.alloc (.cells (y.it.cells kk.1 kk.2).toArray 64)).grownBy w3 (Value.slice sa m sc).ownBlock →
          AllI w (w.heap.size + 1) ((itsOf (ordC hs c) ++ (itsOf (hs.filter fun h => decide (h.cl = c))).take pre.length) ++ [y.it]) v' (zv ++ [⟨y.it, 0, 0, kk.1, kk.2⟩]) (w3.setCell ⟨w.heap.size + 1, 0, none⟩ v') ∧ Keeps (fun k => k = w.heap.size + 1 ∨ (Value.slice sa m sc).ownBlock = some k) Wb (w3.setCell ⟨w.heap.size + 1, 0, none⟩ v') ∧ w3.cell? ⟨w.heap.size + 1, 0, none⟩ = some (.slice sa m sc) ∧ w3.frozen? ⟨w.heap.size + 1, 0, none⟩ = false) := Lib.hid (fun v' w2 w3 kk h1 h2 h3 h4 => by
        have hA := HAV.out
        rw [← HMZ.out] at hA
        exact hA.push (by omega) h1 h2 rfl (by rw [← HMZ.out]; exact h3) h4)
      have hmb : m ≤ 100000 := by
        have h1 := congrArg List.length HAV.out.its
        have h2 := ordC_len hs c
        have h3 := HRA.out.len
        have h4 : (hs.filter fun h => decide (h.cl = c)).length ≤ hs.length := List.length_filter_le _ _
        have h5 : c * hs.length ≤ 8 * hs.length := Nat.mul_le_mul_right _ hc8
        simp [itsOf, ← HMZ.out] at h1
        omega
      have hm1 : m + 1 ≤ maxLen := by unfold maxLen; omega
      have hm2 : (m + 1) * 72 ≤ 140737488355328 := by omega
      clear hzc
      -- the orders: printed
      refine wpAny_ready (rs := [0, 1]) (by kernel_rfl) (by simp) ?_
      refine AllReady.cons rfl (fun K hK => ?_) (AllReady.cons rfl (fun K hK => ?_) AllReady.nil)
      · go_simp
        refine hK _ _ ?_
        clear hK K
        refine wpAny_ready (rs := [1]) (by kernel_rfl) (by simp) ?_
        refine AllReady.cons rfl (fun K hK => ?_) AllReady.nil
        go_simp
        refine hK _ _ ?_
        clear hK K
        refine wpAny_ready (rs := [2]) (by kernel_rfl) (by simp) ?_
        refine AllReady.cons rfl (fun K hK => ?_) AllReady.nil
        go_simp
        refine hK _ _ ?_
        clear hK K
        refine wpAny_ready (rs := [3]) (by kernel_rfl) (by simp) ?_
        refine AllReady.cons rfl (fun K hK => ?_) AllReady.nil
        go_simp
        refine hK _ _ ?_
        clear hK K
        refine wpAny_ready (rs := [4]) (by kernel_rfl) (by simp) ?_
        refine AllReady.cons rfl (fun K hK => ?_) AllReady.nil
        go_simp
        refine hK _ _ ?_
        clear hK K
        refine wpAny_ready (rs := [5]) (by kernel_rfl) (by simp) ?_
        refine AllReady.cons rfl (fun K hK => ?_) AllReady.nil
        go_simp
        refine hK _ _ ?_
        clear hK K
        refine wpAny_ready (rs := [7]) (by kernel_rfl) (by simp) ?_
        refine AllReady.cons rfl (fun K hK => ?_) AllReady.nil
        go_simp
        refine hK _ _ ?_
        clear hK K
        refine wpAny_ready (rs := [8]) (by kernel_rfl) (by simp) ?_
        refine AllReady.cons rfl (fun K hK => ?_) AllReady.nil
        go_simp
        refine (FO.out _ (Keeps.refl _ _).drew).mono ?_
        rintro e w2 ⟨kv', vv', rfl, ok, ov, hk2⟩
        obtain ⟨ka', kc', rfl⟩ := own_formQ ok
        obtain ⟨va', vc', rfl⟩ := own_formQ ov
        have kw2 : Keeps (fun _ => False) Wb w2 := (Keeps.refl (fun _ => False) Wb).drew.trans hk2
        obtain ⟨q1, q2, q3, q4⟩ := F1.out _ kw2
        obtain ⟨r1, r2, r3, r4⟩ := F1.out _ (kw2.alloc (.cells #[.slice ka' y.it.key.length kc', .slice va' y.it.val.length vc', .int .u32 y.it.fg, .int .u32 y.it.ex, .int .u64 y.it.sq, .bool y.it.dt] 64))
        have hrd : Reads w2 y.it (.slice ka' y.it.key.length kc') (.slice va' y.it.val.length vc') := ⟨own_low ok (Nat.zero_le _), own_low ov (Nat.zero_le _)⟩
        dsimp only
        refine hK _ _ ?_
        clear hK K ok ov hk2 q3 q4 r3 r4
        refine wpAny_ready (rs := [9]) (by kernel_rfl) (by simp) ?_
        refine AllReady.cons rfl (fun K hK => ?_) AllReady.nil
        go_simp
        refine hK _ _ ?_
        clear hK K
        refine wpAny_ready (rs := [10]) (by kernel_rfl) (by simp) ?_
        refine AllReady.cons rfl (fun K hK => ?_) AllReady.nil
        refine step_own rfl (.tmp 18) (.tmp 27) 58 rfl w.heap.size 64 i64 z64 6 72 Tryd.underlying58 hi1 hz0 hz1 hz2 hzs (by decide) _ m (itemCells zv) rfl (HRZ.out _ (kw2.alloc (.cells #[.slice ka' y.it.key.length kc', .slice va' y.it.val.length vc', .int .u32 y.it.fg, .int .u32 y.it.ex, .int .u64 y.it.sq, .bool y.it.dt] 64))) ⟨w2.heap.size, 0, none⟩ 1 1 (y.it.cells (.slice ka' y.it.key.length kc') (.slice va' y.it.val.length vc')) rfl rfl (fun j u hu => new_cells w2 64 _ hu) (itone _ _ _ _ _ _ _) hm1 hm2 (HSZ.out _ (kw2.alloc (.cells #[.slice ka' y.it.key.length kc', .slice va' y.it.val.length vc', .int .u32 y.it.fg, .int .u32 y.it.ex, .int .u64 y.it.sq, .bool y.it.dt] 64))) ?_
        intro v' w3 hown' hgrow
        obtain ⟨f1, f2, f3, f4⟩ := HPU.out _ _ _ (_, _) kw2 hrd hown' hgrow
        obtain ⟨sa', sc', rfl⟩ := own_formQ hown'
        have HF1 := Lib.hid f1
        have HF2 := Lib.hid f2
        refine hK _ _ ?_
        clear hK K hown' hgrow f1 f2
        refine wpAny_ready (rs := [11]) (by kernel_rfl) (by simp) ?_
        refine AllReady.cons rfl (fun K hK => ?_) AllReady.nil
        go_simp
        refine hK _ _ ?_
        clear hK K
        refine wpAny_done (by kernel_rfl) ?_ _
        exact ⟨HIB.out.turn HAVM.out HF2.out HYI.out HF1.out, HAVM.out.other HF2.out HLB.out (fun cs t e => nomatch e), HAVM.out.other HF2.out HDB.out (fun cs t e => nomatch e)⟩
      go_simp
      refine hK _ _ ?_
      clear hK K
      refine wpAny_ready (rs := [0, 2]) (by kernel_rfl) (by simp) ?_
      refine AllReady.cons rfl (fun K hK => ?_) (AllReady.cons rfl (fun K hK => ?_) AllReady.nil)
      · go_simp
        refine hK _ _ ?_
        clear hK K
        refine wpAny_ready (rs := [2]) (by kernel_rfl) (by simp) ?_
        refine AllReady.cons rfl (fun K hK => ?_) AllReady.nil
        go_simp
        refine hK _ _ ?_
        clear hK K
        refine wpAny_ready (rs := [3]) (by kernel_rfl) (by simp) ?_
        refine AllReady.cons rfl (fun K hK => ?_) AllReady.nil
        go_simp
        refine hK _ _ ?_
        clear hK K
        refine wpAny_ready (rs := [4]) (by kernel_rfl) (by simp) ?_
        refine AllReady.cons rfl (fun K hK => ?_) AllReady.nil
        go_simp
        refine hK _ _ ?_
        clear hK K
        refine wpAny_ready (rs := [5]) (by kernel_rfl) (by simp) ?_
        refine AllReady.cons rfl (fun K hK => ?_) AllReady.nil
        go_simp
        refine hK _ _ ?_
        clear hK K
        refine wpAny_ready (rs := [7]) (by kernel_rfl) (by simp) ?_
        refine AllReady.cons rfl (fun K hK => ?_) AllReady.nil
        go_simp
        refine hK _ _ ?_
        clear hK K
        refine wpAny_ready (rs := [8]) (by kernel_rfl) (by simp) ?_
        refine AllReady.cons rfl (fun K hK => ?_) AllReady.nil
        go_simp
        refine (FO.out _ (Keeps.refl _ _).drew).mono ?_
        rintro e w2 ⟨kv', vv', rfl, ok, ov, hk2⟩
        obtain ⟨ka', kc', rfl⟩ := own_formQ ok
        obtain ⟨va', vc', rfl⟩ := own_formQ ov
        have kw2 : Keeps (fun _ => False) Wb w2 := (Keeps.refl (fun _ => False) Wb).drew.trans hk2
        obtain ⟨q1, q2, q3, q4⟩ := F1.out _ kw2
        obtain ⟨r1, r2, r3, r4⟩ := F1.out _ (kw2.alloc (.cells #[.slice ka' y.it.key.length kc', .slice va' y.it.val.length vc', .int .u32 y.it.fg, .int .u32 y.it.ex, .int .u64 y.it.sq, .bool y.it.dt] 64))
        have hrd : Reads w2 y.it (.slice ka' y.it.key.length kc') (.slice va' y.it.val.length vc') := ⟨own_low ok (Nat.zero_le _), own_low ov (Nat.zero_le _)⟩
        dsimp only
        refine hK _ _ ?_
        clear hK K ok ov hk2 q3 q4 r3 r4
        refine wpAny_ready (rs := [9]) (by kernel_rfl) (by simp) ?_
        refine AllReady.cons rfl (fun K hK => ?_) AllReady.nil
        go_simp
        refine hK _ _ ?_
        clear hK K
        refine wpAny_ready (rs := [10]) (by kernel_rfl) (by simp) ?_
        refine AllReady.cons rfl (fun K hK => ?_) AllReady.nil
        refine step_own rfl (.tmp 18) (.tmp 27) 58 rfl w.heap.size 64 i64 z64 6 72 Tryd.underlying58 hi1 hz0 hz1 hz2 hzs (by decide) _ m (itemCells zv) rfl (HRZ.out _ (kw2.alloc (.cells #[.slice ka' y.it.key.length kc', .slice va' y.it.val.length vc', .int .u32 y.it.fg, .int .u32 y.it.ex, .int .u64 y.it.sq, .bool y.it.dt] 64))) ⟨w2.heap.size, 0, none⟩ 1 1 (y.it.cells (.slice ka' y.it.key.length kc') (.slice va' y.it.val.length vc')) rfl rfl (fun j u hu => new_cells w2 64 _ hu) (itone _ _ _ _ _ _ _) hm1 hm2 (HSZ.out _ (kw2.alloc (.cells #[.slice ka' y.it.key.length kc', .slice va' y.it.val.length vc', .int .u32 y.it.fg, .int .u32 y.it.ex, .int .u64 y.it.sq, .bool y.it.dt] 64))) ?_
        intro v' w3 hown' hgrow
        obtain ⟨f1, f2, f3, f4⟩ := HPU.out _ _ _ (_, _) kw2 hrd hown' hgrow
        obtain ⟨sa', sc', rfl⟩ := own_formQ hown'
        have HF1 := Lib.hid f1
        have HF2 := Lib.hid f2
        refine hK _ _ ?_
        clear hK K hown' hgrow f1 f2
        refine wpAny_ready (rs := [11]) (by kernel_rfl) (by simp) ?_
        refine AllReady.cons rfl (fun K hK => ?_) AllReady.nil
        go_simp
        refine hK _ _ ?_
        clear hK K
        refine wpAny_done (by kernel_rfl) ?_ _
        exact ⟨HIB.out.turn HAVM.out HF2.out HYI.out HF1.out, HAVM.out.other HF2.out HLB.out (fun cs t e => nomatch e), HAVM.out.other HF2.out HDB.out (fun cs t e => nomatch e)⟩
      go_simp
      refine hK _ _ ?_
      clear hK K
      refine wpAny_ready (rs := [0, 3]) (by kernel_rfl) (by simp) ?_
      refine AllReady.cons rfl (fun K hK => ?_) (AllReady.cons rfl (fun K hK => ?_) AllReady.nil)
      · go_simp
        refine hK _ _ ?_
        clear hK K
        refine wpAny_ready (rs := [3]) (by kernel_rfl) (by simp) ?_
        refine AllReady.cons rfl (fun K hK => ?_) AllReady.nil
        go_simp
        refine hK _ _ ?_
        clear hK K
        refine wpAny_ready (rs := [4]) (by kernel_rfl) (by simp) ?_
        refine AllReady.cons rfl (fun K hK => ?_) AllReady.nil
        go_simp
        refine hK _ _ ?_
        clear hK K
        refine wpAny_ready (rs := [5]) (by kernel_rfl) (by simp) ?_
        refine AllReady.cons rfl (fun K hK => ?_) AllReady.nil
        go_simp
        refine hK _ _ ?_
        clear hK K
        refine wpAny_ready (rs := [7]) (by kernel_rfl) (by simp) ?_
        refine AllReady.cons rfl (fun K hK => ?_) AllReady.nil
        go_simp
        refine hK _ _ ?_
        clear hK K
        refine wpAny_ready (rs := [8]) (by kernel_rfl) (by simp) ?_
        refine AllReady.cons rfl (fun K hK => ?_) AllReady.nil
        go_simp
        refine (FO.out _ (Keeps.refl _ _).drew).mono ?_
        rintro e w2 ⟨kv', vv', rfl, ok, ov, hk2⟩
        obtain ⟨ka', kc', rfl⟩ := own_formQ ok
        obtain ⟨va', vc', rfl⟩ := own_formQ ov
        have kw2 : Keeps (fun _ => False) Wb w2 := (Keeps.refl (fun _ => False) Wb).drew.trans hk2
        obtain ⟨q1, q2, q3, q4⟩ := F1.out _ kw2
        obtain ⟨r1, r2, r3, r4⟩ := F1.out _ (kw2.alloc (.cells #[.slice ka' y.it.key.length kc', .slice va' y.it.val.length vc', .int .u32 y.it.fg, .int .u32 y.it.ex, .int .u64 y.it.sq, .bool y.it.dt] 64))
        have hrd : Reads w2 y.it (.slice ka' y.it.key.length kc') (.slice va' y.it.val.length vc') := ⟨own_low ok (Nat.zero_le _), own_low ov (Nat.zero_le _)⟩
        dsimp only
        refine hK _ _ ?_
        clear hK K ok ov hk2 q3 q4 r3 r4
        refine wpAny_ready (rs := [9]) (by kernel_rfl) (by simp) ?_
        refine AllReady.cons rfl (fun K hK => ?_) AllReady.nil
        go_simp
        refine hK _ _ ?_
        clear hK K
        refine wpAny_ready (rs := [10]) (by kernel_rfl) (by simp) ?_
        refine AllReady.cons rfl (fun K hK => ?_) AllReady.nil
        refine step_own rfl (.tmp 18) (.tmp 27) 58 rfl w.heap.size 64 i64 z64 6 72 Tryd.underlying58 hi1 hz0 hz1 hz2 hzs (by decide) _ m (itemCells zv) rfl (HRZ.out _ (kw2.alloc (.cells #[.slice ka' y.it.key.length kc', .slice va' y.it.val.length vc', .int .u32 y.it.fg, .int .u32 y.it.ex, .int .u64 y.it.sq, .bool y.it.dt] 64))) ⟨w2.heap.size, 0, none⟩ 1 1 (y.it.cells (.slice ka' y.it.key.length kc') (.slice va' y.it.val.length vc')) rfl rfl (fun j u hu => new_cells w2 64 _ hu) (itone _ _ _ _ _ _ _) hm1 hm2 (HSZ.out _ (kw2.alloc (.cells #[.slice ka' y.it.key.length kc', .slice va' y.it.val.length vc', .int .u32 y.it.fg, .int .u32 y.it.ex, .int .u64 y.it.sq, .bool y.it.dt] 64))) ?_
        intro v' w3 hown' hgrow
        obtain ⟨f1, f2, f3, f4⟩ := HPU.out _ _ _ (_, _) kw2 hrd hown' hgrow
        obtain ⟨sa', sc', rfl⟩ := own_formQ hown'
        have HF1 := Lib.hid f1
        have HF2 := Lib.hid f2
        refine hK _ _ ?_
        clear hK K hown' hgrow f1 f2
        refine wpAny_ready (rs := [11]) (by kernel_rfl) (by simp) ?_
        refine AllReady.cons rfl (fun K hK => ?_) AllReady.nil
        go_simp
        refine hK _ _ ?_
        clear hK K
        refine wpAny_done (by kernel_rfl) ?_ _
        exact ⟨HIB.out.turn HAVM.out HF2.out HYI.out HF1.out, HAVM.out.other HF2.out HLB.out (fun cs t e => nomatch e), HAVM.out.other HF2.out HDB.out (fun cs t e => nomatch e)⟩
      go_simp
      refine hK _ _ ?_
      clear hK K
      refine wpAny_ready (rs := [0, 4]) (by kernel_rfl) (by simp) ?_
      refine AllReady.cons rfl (fun K hK => ?_) (AllReady.cons rfl (fun K hK => ?_) AllReady.nil)
      · go_simp
        refine hK _ _ ?_
        clear hK K
        refine wpAny_ready (rs := [4]) (by kernel_rfl) (by simp) ?_
        refine AllReady.cons rfl (fun K hK => ?_) AllReady.nil
        go_simp
        refine hK _ _ ?_
        clear hK K
        refine wpAny_ready (rs := [5]) (by kernel_rfl) (by simp) ?_
        refine AllReady.cons rfl (fun K hK => ?_) AllReady.nil
        go_simp
        refine hK _ _ ?_
        clear hK K
        refine wpAny_ready (rs := [7]) (by kernel_rfl) (by simp) ?_
        refine AllReady.cons rfl (fun K hK => ?_) AllReady.nil
        go_simp
        refine hK _ _ ?_
        clear hK K
        refine wpAny_ready (rs := [8]) (by kernel_rfl) (by simp) ?_
        refine AllReady.cons rfl (fun K hK => ?_) AllReady.nil
        go_simp
        refine (FO.out _ (Keeps.refl _ _).drew).mono ?_
        rintro e w2 ⟨kv', vv', rfl, ok, ov, hk2⟩
        obtain ⟨ka', kc', rfl⟩ := own_formQ ok
        obtain ⟨va', vc', rfl⟩ := own_formQ ov
        have kw2 : Keeps (fun _ => False) Wb w2 := (Keeps.refl (fun _ => False) Wb).drew.trans hk2
        obtain ⟨q1, q2, q3, q4⟩ := F1.out _ kw2
        obtain ⟨r1, r2, r3, r4⟩ := F1.out _ (kw2.alloc (.cells #[.slice ka' y.it.key.length kc', .slice va' y.it.val.length vc', .int .u32 y.it.fg, .int .u32 y.it.ex, .int .u64 y.it.sq, .bool y.it.dt] 64))
        have hrd : Reads w2 y.it (.slice ka' y.it.key.length kc') (.slice va' y.it.val.length vc') := ⟨own_low ok (Nat.zero_le _), own_low ov (Nat.zero_le _)⟩
        dsimp only
        refine hK _ _ ?_
        clear hK K ok ov hk2 q3 q4 r3 r4
        refine wpAny_ready (rs := [9]) (by kernel_rfl) (by simp) ?_
        refine AllReady.cons rfl (fun K hK => ?_) AllReady.nil
        go_simp
        refine hK _ _ ?_
        clear hK K
        refine wpAny_ready (rs := [10]) (by kernel_rfl) (by simp) ?_
        refine AllReady.cons rfl (fun K hK => ?_) AllReady.nil
        refine step_own rfl (.tmp 18) (.tmp 27) 58 rfl w.heap.size 64 i64 z64 6 72 Tryd.underlying58 hi1 hz0 hz1 hz2 hzs (by decide) _ m (itemCells zv) rfl (HRZ.out _ (kw2.alloc (.cells #[.slice ka' y.it.key.length kc', .slice va' y.it.val.length vc', .int .u32 y.it.fg, .int .u32 y.it.ex, .int .u64 y.it.sq, .bool y.it.dt] 64))) ⟨w2.heap.size, 0, none⟩ 1 1 (y.it.cells (.slice ka' y.it.key.length kc') (.slice va' y.it.val.length vc')) rfl rfl (fun j u hu => new_cells w2 64 _ hu) (itone _ _ _ _ _ _ _) hm1 hm2 (HSZ.out _ (kw2.alloc (.cells #[.slice ka' y.it.key.length kc', .slice va' y.it.val.length vc', .int .u32 y.it.fg, .int .u32 y.it.ex, .int .u64 y.it.sq, .bool y.it.dt] 64))) ?_
        intro v' w3 hown' hgrow
        obtain ⟨f1, f2, f3, f4⟩ := HPU.out _ _ _ (_, _) kw2 hrd hown' hgrow
        obtain ⟨sa', sc', rfl⟩ := own_formQ hown'
        have HF1 := Lib.hid f1
        have HF2 := Lib.hid f2
        refine hK _ _ ?_
        clear hK K hown' hgrow f1 f2
        refine wpAny_ready (rs := [11]) (by kernel_rfl) (by simp) ?_
        refine AllReady.cons rfl (fun K hK => ?_) AllReady.nil
        go_simp
        refine hK _ _ ?_
        clear hK K
        refine wpAny_done (by kernel_rfl) ?_ _
        exact ⟨HIB.out.turn HAVM.out HF2.out HYI.out HF1.out, HAVM.out.other HF2.out HLB.out (fun cs t e => nomatch e), HAVM.out.other HF2.out HDB.out (fun cs t e => nomatch e)⟩
      go_simp
      refine hK _ _ ?_
      clear hK K
      refine wpAny_ready (rs := [0, 5]) (by kernel_rfl) (by simp) ?_
      refine AllReady.cons rfl (fun K hK => ?_) (AllReady.cons rfl (fun K hK => ?_) AllReady.nil)
      · go_simp
        refine hK _ _ ?_
        clear hK K
        refine wpAny_ready (rs := [5]) (by kernel_rfl) (by simp) ?_
        refine AllReady.cons rfl (fun K hK => ?_) AllReady.nil
        go_simp
        refine hK _ _ ?_
        clear hK K
        refine wpAny_ready (rs := [7]) (by kernel_rfl) (by simp) ?_
        refine AllReady.cons rfl (fun K hK => ?_) AllReady.nil
        go_simp
        refine hK _ _ ?_
        clear hK K
        refine wpAny_ready (rs := [8]) (by kernel_rfl) (by simp) ?_
        refine AllReady.cons rfl (fun K hK => ?_) AllReady.nil
        go_simp
        refine (FO.out _ (Keeps.refl _ _).drew).mono ?_
        rintro e w2 ⟨kv', vv', rfl, ok, ov, hk2⟩
        obtain ⟨ka', kc', rfl⟩ := own_formQ ok
        obtain ⟨va', vc', rfl⟩ := own_formQ ov
        have kw2 : Keeps (fun _ => False) Wb w2 := (Keeps.refl (fun _ => False) Wb).drew.trans hk2
        obtain ⟨q1, q2, q3, q4⟩ := F1.out _ kw2
        obtain ⟨r1, r2, r3, r4⟩ := F1.out _ (kw2.alloc (.cells #[.slice ka' y.it.key.length kc', .slice va' y.it.val.length vc', .int .u32 y.it.fg, .int .u32 y.it.ex, .int .u64 y.it.sq, .bool y.it.dt] 64))
        have hrd : Reads w2 y.it (.slice ka' y.it.key.length kc') (.slice va' y.it.val.length vc') := ⟨own_low ok (Nat.zero_le _), own_low ov (Nat.zero_le _)⟩
        dsimp only
        refine hK _ _ ?_
        clear hK K ok ov hk2 q3 q4 r3 r4
        refine wpAny_ready (rs := [9]) (by kernel_rfl) (by simp) ?_
        refine AllReady.cons rfl (fun K hK => ?_) AllReady.nil
        go_simp
        refine hK _ _ ?_
        clear hK K
        refine wpAny_ready (rs := [10]) (by kernel_rfl) (by simp) ?_
        refine AllReady.cons rfl (fun K hK => ?_) AllReady.nil
        refine step_own rfl (.tmp 18) (.tmp 27) 58 rfl w.heap.size 64 i64 z64 6 72 Tryd.underlying58 hi1 hz0 hz1 hz2 hzs (by decide) _ m (itemCells zv) rfl (HRZ.out _ (kw2.alloc (.cells #[.slice ka' y.it.key.length kc', .slice va' y.it.val.length vc', .int .u32 y.it.fg, .int .u32 y.it.ex, .int .u64 y.it.sq, .bool y.it.dt] 64))) ⟨w2.heap.size, 0, none⟩ 1 1 (y.it.cells (.slice ka' y.it.key.length kc') (.slice va' y.it.val.length vc')) rfl rfl (fun j u hu => new_cells w2 64 _ hu) (itone _ _ _ _ _ _ _) hm1 hm2 (HSZ.out _ (kw2.alloc (.cells #[.slice ka' y.it.key.length kc', .slice va' y.it.val.length vc', .int .u32 y.it.fg, .int .u32 y.it.ex, .int .u64 y.it.sq, .bool y.it.dt] 64))) ?_
        intro v' w3 hown' hgrow
        obtain ⟨f1, f2, f3, f4⟩ := HPU.out _ _ _ (_, _) kw2 hrd hown' hgrow
        obtain ⟨sa', sc', rfl⟩ := own_formQ hown'
        have HF1 := Lib.hid f1
        have HF2 := Lib.hid f2
        refine hK _ _ ?_
        clear hK K hown' hgrow f1 f2
        refine wpAny_ready (rs := [11]) (by kernel_rfl) (by simp) ?_
        refine AllReady.cons rfl (fun K hK => ?_) AllReady.nil
        go_simp
        refine hK _ _ ?_
        clear hK K
        refine wpAny_done (by kernel_rfl) ?_ _
        exact ⟨HIB.out.turn HAVM.out HF2.out HYI.out HF1.out, HAVM.out.other HF2.out HLB.out (fun cs t e => nomatch e), HAVM.out.other HF2.out HDB.out (fun cs t e => nomatch e)⟩
      go_simp
      refine hK _ _ ?_
      clear hK K
      refine wpAny_ready (rs := [0, 7]) (by kernel_rfl) (by simp) ?_
      refine AllReady.cons rfl (fun K hK => ?_) (AllReady.cons rfl (fun K hK => ?_) AllReady.nil)
      · go_simp
        refine hK _ _ ?_
        clear hK K
        refine wpAny_ready (rs := [7]) (by kernel_rfl) (by simp) ?_
        refine AllReady.cons rfl (fun K hK => ?_) AllReady.nil
        go_simp
        refine hK _ _ ?_
        clear hK K
        refine wpAny_ready (rs := [8]) (by kernel_rfl) (by simp) ?_
        refine AllReady.cons rfl (fun K hK => ?_) AllReady.nil
        go_simp
        refine (FO.out _ (Keeps.refl _ _).drew).mono ?_
        rintro e w2 ⟨kv', vv', rfl, ok, ov, hk2⟩
        obtain ⟨ka', kc', rfl⟩ := own_formQ ok
        obtain ⟨va', vc', rfl⟩ := own_formQ ov
        have kw2 : Keeps (fun _ => False) Wb w2 := (Keeps.refl (fun _ => False) Wb).drew.trans hk2
        obtain ⟨q1, q2, q3, q4⟩ := F1.out _ kw2
        obtain ⟨r1, r2, r3, r4⟩ := F1.out _ (kw2.alloc (.cells #[.slice ka' y.it.key.length kc', .slice va' y.it.val.length vc', .int .u32 y.it.fg, .int .u32 y.it.ex, .int .u64 y.it.sq, .bool y.it.dt] 64))
        have hrd : Reads w2 y.it (.slice ka' y.it.key.length kc') (.slice va' y.it.val.length vc') := ⟨own_low ok (Nat.zero_le _), own_low ov (Nat.zero_le _)⟩
        dsimp only
        refine hK _ _ ?_
        clear hK K ok ov hk2 q3 q4 r3 r4
        refine wpAny_ready (rs := [9]) (by kernel_rfl) (by simp) ?_
        refine AllReady.cons rfl (fun K hK => ?_) AllReady.nil
        go_simp
        refine hK _ _ ?_
        clear hK K
        refine wpAny_ready (rs := [10]) (by kernel_rfl) (by simp) ?_
        refine AllReady.cons rfl (fun K hK => ?_) AllReady.nil
        refine step_own rfl (.tmp 18) (.tmp 27) 58 rfl w.heap.size 64 i64 z64 6 72 Tryd.underlying58 hi1 hz0 hz1 hz2 hzs (by decide) _ m (itemCells zv) rfl (HRZ.out _ (kw2.alloc (.cells #[.slice ka' y.it.key.length kc', .slice va' y.it.val.length vc', .int .u32 y.it.fg, .int .u32 y.it.ex, .int .u64 y.it.sq, .bool y.it.dt] 64))) ⟨w2.heap.size, 0, none⟩ 1 1 (y.it.cells (.slice ka' y.it.key.length kc') (.slice va' y.it.val.length vc')) rfl rfl (fun j u hu => new_cells w2 64 _ hu) (itone _ _ _ _ _ _ _) hm1 hm2 (HSZ.out _ (kw2.alloc (.cells #[.slice ka' y.it.key.length kc', .slice va' y.it.val.length vc', .int .u32 y.it.fg, .int .u32 y.it.ex, .int .u64 y.it.sq, .bool y.it.dt] 64))) ?_
        intro v' w3 hown' hgrow
        obtain ⟨f1, f2, f3, f4⟩ := HPU.out _ _ _ (_, _) kw2 hrd hown' hgrow
        obtain ⟨sa', sc', rfl⟩ := own_formQ hown'
        have HF1 := Lib.hid f1
        have HF2 := Lib.hid f2
        refine hK _ _ ?_
        clear hK K hown' hgrow f1 f2
        refine wpAny_ready (rs := [11]) (by kernel_rfl) (by simp) ?_
        refine AllReady.cons rfl (fun K hK => ?_) AllReady.nil
        go_simp
        refine hK _ _ ?_
        clear hK K
        refine wpAny_done (by kernel_rfl) ?_ _
        exact ⟨HIB.out.turn HAVM.out HF2.out HYI.out HF1.out, HAVM.out.other HF2.out HLB.out (fun cs t e => nomatch e), HAVM.out.other HF2.out HDB.out (fun cs t e => nomatch e)⟩
      go_simp
      refine hK _ _ ?_
      clear hK K
      refine wpAny_ready (rs := [0, 8]) (by kernel_rfl) (by simp) ?_
      refine AllReady.cons rfl (fun K hK => ?_) (AllReady.cons rfl (fun K hK => ?_) AllReady.nil)
      · go_simp
        refine hK _ _ ?_
        clear hK K
        refine wpAny_ready (rs := [8]) (by kernel_rfl) (by simp) ?_
        refine AllReady.cons rfl (fun K hK => ?_) AllReady.nil
        go_simp
        refine (FO.out _ (Keeps.refl _ _).drew).mono ?_
        rintro e w2 ⟨kv', vv', rfl, ok, ov, hk2⟩
        obtain ⟨ka', kc', rfl⟩ := own_formQ ok
        obtain ⟨va', vc', rfl⟩ := own_formQ ov
        have kw2 : Keeps (fun _ => False) Wb w2 := (Keeps.refl (fun _ => False) Wb).drew.trans hk2
        obtain ⟨q1, q2, q3, q4⟩ := F1.out _ kw2
        obtain ⟨r1, r2, r3, r4⟩ := F1.out _ (kw2.alloc (.cells #[.slice ka' y.it.key.length kc', .slice va' y.it.val.length vc', .int .u32 y.it.fg, .int .u32 y.it.ex, .int .u64 y.it.sq, .bool y.it.dt] 64))
        have hrd : Reads w2 y.it (.slice ka' y.it.key.length kc') (.slice va' y.it.val.length vc') := ⟨own_low ok (Nat.zero_le _), own_low ov (Nat.zero_le _)⟩
        dsimp only
        refine hK _ _ ?_
        clear hK K ok ov hk2 q3 q4 r3 r4
        refine wpAny_ready (rs := [9]) (by kernel_rfl) (by simp) ?_
        refine AllReady.cons rfl (fun K hK => ?_) AllReady.nil
        go_simp
        refine hK _ _ ?_
        clear hK K
        refine wpAny_ready (rs := [10]) (by kernel_rfl) (by simp) ?_
        refine AllReady.cons rfl (fun K hK => ?_) AllReady.nil
        refine step_own rfl (.tmp 18) (.tmp 27) 58 rfl w.heap.size 64 i64 z64 6 72 Tryd.underlying58 hi1 hz0 hz1 hz2 hzs (by decide) _ m (itemCells zv) rfl (HRZ.out _ (kw2.alloc (.cells #[.slice ka' y.it.key.length kc', .slice va' y.it.val.length vc', .int .u32 y.it.fg, .int .u32 y.it.ex, .int .u64 y.it.sq, .bool y.it.dt] 64))) ⟨w2.heap.size, 0, none⟩ 1 1 (y.it.cells (.slice ka' y.it.key.length kc') (.slice va' y.it.val.length vc')) rfl rfl (fun j u hu => new_cells w2 64 _ hu) (itone _ _ _ _ _ _ _) hm1 hm2 (HSZ.out _ (kw2.alloc (.cells #[.slice ka' y.it.key.length kc', .slice va' y.it.val.length vc', .int .u32 y.it.fg, .int .u32 y.it.ex, .int .u64 y.it.sq, .bool y.it.dt] 64))) ?_
        intro v' w3 hown' hgrow
        obtain ⟨f1, f2, f3, f4⟩ := HPU.out _ _ _ (_, _) kw2 hrd hown' hgrow
        obtain ⟨sa', sc', rfl⟩ := own_formQ hown'
        have HF1 := Lib.hid f1
        have HF2 := Lib.hid f2
        refine hK _ _ ?_
        clear hK K hown' hgrow f1 f2
        refine wpAny_ready (rs := [11]) (by kernel_rfl) (by simp) ?_
        refine AllReady.cons rfl (fun K hK => ?_) AllReady.nil
        go_simp
        refine hK _ _ ?_
        clear hK K
        refine wpAny_done (by kernel_rfl) ?_ _
        exact ⟨HIB.out.turn HAVM.out HF2.out HYI.out HF1.out, HAVM.out.other HF2.out HLB.out (fun cs t e => nomatch e), HAVM.out.other HF2.out HDB.out (fun cs t e => nomatch e)⟩
      go_simp
      refine (FO.out _ (Keeps.refl _ _).drew).mono ?_
      rintro e w2 ⟨kv', vv', rfl, ok, ov, hk2⟩
      obtain ⟨ka', kc', rfl⟩ := own_formQ ok
      obtain ⟨va', vc', rfl⟩ := own_formQ ov
      have kw2 : Keeps (fun _ => False) Wb w2 := (Keeps.refl (fun _ => False) Wb).drew.trans hk2
      obtain ⟨q1, q2, q3, q4⟩ := F1.out _ kw2
      obtain ⟨r1, r2, r3, r4⟩ := F1.out _ (kw2.alloc (.cells #[.slice ka' y.it.key.length kc', .slice va' y.it.val.length vc', .int .u32 y.it.fg, .int .u32 y.it.ex, .int .u64 y.it.sq, .bool y.it.dt] 64))
      have hrd : Reads w2 y.it (.slice ka' y.it.key.length kc') (.slice va' y.it.val.length vc') := ⟨own_low ok (Nat.zero_le _), own_low ov (Nat.zero_le _)⟩
      dsimp only
      refine hK _ _ ?_
      clear hK K ok ov hk2 q3 q4 r3 r4
      refine wpAny_ready (rs := [0, 9]) (by kernel_rfl) (by simp) ?_
      refine AllReady.cons rfl (fun K hK => ?_) (AllReady.cons rfl (fun K hK => ?_) AllReady.nil)
      · go_simp
        refine hK _ _ ?_
        clear hK K
        refine wpAny_ready (rs := [9]) (by kernel_rfl) (by simp) ?_
        refine AllReady.cons rfl (fun K hK => ?_) AllReady.nil
        go_simp
        refine hK _ _ ?_
        clear hK K
        refine wpAny_ready (rs := [10]) (by kernel_rfl) (by simp) ?_
        refine AllReady.cons rfl (fun K hK => ?_) AllReady.nil
        refine step_own rfl (.tmp 18) (.tmp 27) 58 rfl w.heap.size 64 i64 z64 6 72 Tryd.underlying58 hi1 hz0 hz1 hz2 hzs (by decide) _ m (itemCells zv) rfl (HRZ.out _ (kw2.alloc (.cells #[.slice ka' y.it.key.length kc', .slice va' y.it.val.length vc', .int .u32 y.it.fg, .int .u32 y.it.ex, .int .u64 y.it.sq, .bool y.it.dt] 64))) ⟨w2.heap.size, 0, none⟩ 1 1 (y.it.cells (.slice ka' y.it.key.length kc') (.slice va' y.it.val.length vc')) rfl rfl (fun j u hu => new_cells w2 64 _ hu) (itone _ _ _ _ _ _ _) hm1 hm2 (HSZ.out _ (kw2.alloc (.cells #[.slice ka' y.it.key.length kc', .slice va' y.it.val.length vc', .int .u32 y.it.fg, .int .u32 y.it.ex, .int .u64 y.it.sq, .bool y.it.dt] 64))) ?_
        intro v' w3 hown' hgrow
        obtain ⟨f1, f2, f3, f4⟩ := HPU.out _ _ _ (_, _) kw2 hrd hown' hgrow
        obtain ⟨sa', sc', rfl⟩ := own_formQ hown'
        have HF1 := Lib.hid f1
        have HF2 := Lib.hid f2
        refine hK _ _ ?_
        clear hK K hown' hgrow f1 f2
        refine wpAny_ready (rs := [11]) (by kernel_rfl) (by simp) ?_
        refine AllReady.cons rfl (fun K hK => ?_) AllReady.nil
        go_simp
        refine hK _ _ ?_
        clear hK K
        refine wpAny_done (by kernel_rfl) ?_ _
        exact ⟨HIB.out.turn HAVM.out HF2.out HYI.out HF1.out, HAVM.out.other HF2.out HLB.out (fun cs t e => nomatch e), HAVM.out.other HF2.out HDB.out (fun cs t e => nomatch e)⟩
      go_simp
      refine hK _ _ ?_
      clear hK K
      refine wpAny_ready (rs := [0]) (by kernel_rfl) (by simp) ?_
      refine AllReady.cons rfl (fun K hK => ?_) AllReady.nil
      go_simp
      refine hK _ _ ?_
      clear hK K
      refine wpAny_ready (rs := [10]) (by kernel_rfl) (by simp) ?_
      refine AllReady.cons rfl (fun K hK => ?_) AllReady.nil
      refine step_own rfl (.tmp 18) (.tmp 27) 58 rfl w.heap.size 64 i64 z64 6 72 Tryd.underlying58 hi1 hz0 hz1 hz2 hzs (by decide) _ m (itemCells zv) rfl (HRZ.out _ (kw2.alloc (.cells #[.slice ka' y.it.key.length kc', .slice va' y.it.val.length vc', .int .u32 y.it.fg, .int .u32 y.it.ex, .int .u64 y.it.sq, .bool y.it.dt] 64))) ⟨w2.heap.size, 0, none⟩ 1 1 (y.it.cells (.slice ka' y.it.key.length kc') (.slice va' y.it.val.length vc')) rfl rfl (fun j u hu => new_cells w2 64 _ hu) (itone _ _ _ _ _ _ _) hm1 hm2 (HSZ.out _ (kw2.alloc (.cells #[.slice ka' y.it.key.length kc', .slice va' y.it.val.length vc', .int .u32 y.it.fg, .int .u32 y.it.ex, .int .u64 y.it.sq, .bool y.it.dt] 64))) ?_
      intro v' w3 hown' hgrow
      obtain ⟨f1, f2, f3, f4⟩ := HPU.out _ _ _ (_, _) kw2 hrd hown' hgrow
      obtain ⟨sa', sc', rfl⟩ := own_formQ hown'
      have HF1 := Lib.hid f1
      have HF2 := Lib.hid f2
      refine hK _ _ ?_
      clear hK K hown' hgrow f1 f2
      refine wpAny_ready (rs := [11]) (by kernel_rfl) (by simp) ?_
      refine AllReady.cons rfl (fun K hK => ?_) AllReady.nil
      go_simp
      refine hK _ _ ?_
      clear hK K
      refine wpAny_done (by kernel_rfl) ?_ _
      exact ⟨HIB.out.turn HAVM.out HF2.out HYI.out HF1.out, HAVM.out.other HF2.out HLB.out (fun cs t e => nomatch e), HAVM.out.other HF2.out HDB.out (fun cs t e => nomatch e)⟩
      -- the orders end
    case done =>
      intro ys Wd hys hI hsd hdd
      subst hys
      have HI := Lib.hid hI
      have HDD := Lib.hid hdd
      clear hI hdd hsd
      gi_wp2
      refine ⟨⟨c + 1, w1.heap.size :: Ds, .int .i64 (c : Int), .bool true, .int .i64 (c : Int), .pointer (some ⟨L.B, 0, none⟩), .pointer (some ⟨L.B, 0, none⟩), .pointer (some ⟨L.B, 3, none⟩), .pointer (some ⟨L.lk.B, 0, none⟩), .int .i64 (c : Int), .func (.func 86) #[] #[.pointer (some ⟨W.heap.size, 0, none⟩)], .int .i64 ((c : Int) + 1), by omega, ⟨?_, HI.out.ptr, ?_, ?_⟩, ?_⟩, ?_⟩
      · obtain ⟨v', zs', ha⟩ := HI.out.all
        refine ⟨v', zs', ?_⟩
        have h1 : (itsOf (hs.filter fun h => decide (h.cl = c))).take (lsOf hs c).length = itsOf (hs.filter fun h => decide (h.cl = c)) := by
          apply List.take_of_length_le
          have he : (hs.filter fun h => decide (h.cl = c)) = hs.filter fun h => h.cl == c := List.filter_congr fun q _ => Bool.eq_iff_iff.2 (by simp)
          simp [itsOf, lsOf, he]
        rw [h1] at ha
        rw [ordC_succ]
        unfold itsOf at ha ⊢
        rw [List.map_append]
        exact ha
      · refine List.nodup_cons.2 ⟨fun hD => ?_, HO.out.2.2.1⟩
        have h1 := (Array.getElem?_eq_some_iff.1 (HO.out.2.2.2 _ hD).1).1
        omega
      · intro D' hD
        rcases List.mem_cons.1 hD with rfl | hD
        · exact ⟨HDD.out, by omega⟩
        · exact ⟨HI.out.ds D' hD, (HO.out.2.2.2 _ hD).2⟩
      · rw [show ((c : Int) + 1) = ((c + 1 : Nat) : Int) by push_cast; rfl]
        rfl
      · simp [intOf]
        omega
  · have hlt' : ¬ ((c : Int) < 8) := by omega
    obtain rfl : c = 8 := by omega
    have HAV := Lib.hid (HAI.out)
    clear c0 c3
    gi_wp2
    show LeavesInM Fence.wide 3 Tryd.prog Tryd.f53 _ (RAllRP hs w) (Ds.map mark) .returning W
    refine marks_out Ds W HO.out.2.2.1 (fun D' hD => (HO.out.2.2.2 D' hD).1) fun E' hk => ?_
    refine ⟨.func (.func 75) #[] #[.pointer (some ⟨w.heap.size + 1, 0, none⟩)], by simp [results, Tryd.f53, go_sem], _, v, zs, rfl, Nat.le_succ _, HAV.out.keep hk (fun k hD cs t hc => ?_) (fun k hD => (HO.out.2.2.2 k hD).2)⟩
    rw [(HO.out.2.2.2 k hD).1] at hc
    injection hc with hc
    cases hc
end Go.Proofs.YthnagihgjenimaaDoor
