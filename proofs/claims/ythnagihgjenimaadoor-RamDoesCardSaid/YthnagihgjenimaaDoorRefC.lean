/- Merged of: Ref RefN RefW RefG RefT RefV RefC. -/
import Derived.Test.YthnagihgjenimaaDoorCopyA
import Derived.Deep.RegionLaw
import Derived.Test.YthnagihgjenimaaDoorNoneL
/- icehouseref11: which chunks are given, page by page, as it lies in memory; the class of a page. -/
namespace Go.Proofs.YthnagihgjenimaaDoor
open Go.RowKit
set_option linter.unusedVariables false
set_option linter.unusedSimpArgs false

/-- Where the document's arena lies: its row of rows, its rows. -/
structure RG where
  O : Nat
  cap : Nat
  R : Nat → Nat
def rowv (g : Nat) : Value := .slice (some ⟨g, 0, none⟩) 32 32
def RG.val (X : RG) (n : Nat) : Value := .agg #[.slice (some ⟨X.O, 0, none⟩) n X.cap]
def RG.rows (X : RG) (n : Nat) : List Value := (List.range n).map fun i => rowv (X.R i)
def gcs (f : Nat → Nat) : List Value := (List.range 32).map fun k => .int .i64 (f k : Nat)
theorem gcs_len (f : Nat → Nat) : (gcs f).length = 32 := by simp [gcs]
theorem gcs_at (f : Nat → Nat) {k : Nat} (h : k < 32) : (gcs f)[k]? = some (.int .i64 (f k : Nat)) := by simp [gcs, h]
theorem rows_at (X : RG) {n i : Nat} (h : i < n) : (X.rows n)[i]? = some (rowv (X.R i)) := by simp [RG.rows, h]
structure RgAt (w : World) (X : RG) (n : Nat) (f : Nat → Nat → Nat) : Prop where
  n1 : 1 ≤ n
  n2 : n ≤ 40
  out : w.ownsRow 0 28 1 (.slice (some ⟨X.O, 0, none⟩) n X.cap) n (X.rows n)
  row : ∀ i, i < n → Blk w (X.R i) 3 (gcs (f i))
  inj : ∀ i j, i < n → j < n → X.R i = X.R j → i = j
section
variable {w w' : World} {X : RG} {n : Nat} {f f' : Nat → Nat → Nat}
theorem RgAt.cells (h : RgAt w X n f) : ∀ i, i < n → w.cell? ⟨X.O, i, none⟩ = some (rowv (X.R i)) ∧ ∀ k, k < 32 → w.cell? ⟨X.R i, k, none⟩ = some (.int .i64 (f i k : Nat)) :=
  fun i hi => ⟨own_cell h.out (rows_at X hi), fun k hk => (h.row i hi).cell (gcs_at (f i) hk)⟩
theorem RgAt.ltO (h : RgAt w X n f) : X.O < w.heap.size := (own_heap h.out rfl).2.1
theorem RgAt.ltR (h : RgAt w X n f) {i : Nat} (hi : i < n) : X.R i < w.heap.size := (h.row i hi).lt
theorem RgAt.keep {S : Nat → Prop} (h : RgAt w X n f) (hk : Keeps S w w') (hS : ∀ g cur t, (t = 3 ∨ t = 28) → w.heap[g]? = some (.cells cur t (0, 0)) → ¬ S g) : RgAt w' X n f := by
  refine ⟨h.n1, h.n2, hk.own h.out fun g hg => ?_, fun i hi => ?_, h.inj⟩
  · obtain ⟨_, _, cur, hc⟩ := own_heap h.out hg
    exact hS g cur 28 (.inr rfl) hc
  · exact hk.blk (h.row i hi) (hS _ _ 3 (.inl rfl) (h.row i hi))
theorem RgAt.quiet (h : RgAt w X n f) (hk : Keeps (fun _ => False) w w') : RgAt w' X n f := h.keep hk fun _ _ _ _ _ => id
theorem RgAt.congr (h : RgAt w X n f) (he : ∀ i, i < n → ∀ k, k < 32 → f i k = f' i k) : RgAt w X n f' := by
  refine ⟨h.n1, h.n2, h.out, fun i hi => ?_, h.inj⟩
  have : gcs (f i) = gcs (f' i) := by
    unfold gcs
    apply List.map_congr_left
    intro k hk
    rw [he i hi k (List.mem_range.1 hk)]
  rw [← this]
  exact h.row i hi
theorem RgAt.cap (h : RgAt w X n f) : n ≤ X.cap ∧ X.cap ≤ maxLen := own_cap h.out
end

/-- A chunk's cell: 0, or its class and one more. -/
def gv (D : AD) (i k : Nat) : Nat := if bitN (D.g i) k = 1 then D.c i + 1 else 0
theorem gv_pos {D : AD} {i k : Nat} (h : bitN (D.g i) k = 1) : gv D i k = D.c i + 1 := if_pos h
theorem gv_zero {D : AD} {i k : Nat} (h : ¬ bitN (D.g i) k = 1) : gv D i k = 0 := if_neg h
theorem gv_le {D : AD} (h : D.Ok) {i : Nat} (hi : i < D.n) (k : Nat) : gv D i k ≤ 8 := by
  have := h.cl i hi
  unfold gv
  split <;> omega
/-- A page's class; -1: it is free. -/
def AD.of (D : AD) (i : Nat) : Int := if D.g i = 0 then -1 else (D.c i : Nat)
def IntQ (x : Int) (w : World) (e : Ending) (w' : World) : Prop := e = .returned (.int .i64 x) ∧ Keeps (fun _ => False) w w'

set_option maxRecDepth 100000 in
set_option maxHeartbeats 1000000 in
theorem of_any (X : RG) (D : AD) (hD : D.Ok) (w : World) (h : RgAt w X D.n (gv D)) (i : Nat) (hi : i < D.n) : Calls Tryd.prog 60 #[X.val D.n, .int .i64 i] w (IntQ (D.of i) w) := by
  obtain ⟨c0, hc⟩ := h.cells i hi
  obtain ⟨hcap, hmx⟩ := h.cap
  have n2 := h.n2
  have hO := h.ltO
  have hR := h.ltR hi
  have HC := Lib.hid hc
  have HB : Hid (∀ t, t < 32 → gv D i t ≤ 8) := Lib.hid fun t _ => gv_le hD hi t
  have HD := Lib.hid (hD.g32 hi)
  have b0 := Blk.new w 40 [.slice (some ⟨X.O, 0, none⟩) D.n X.cap]
  have hk0 : Keeps (fun _ => False) w (w.alloc (.cells [Value.slice (some ⟨X.O, 0, none⟩) D.n X.cap].toArray 40)) := (Keeps.refl _ _).alloc _
  have c0' := (hk0.cell (p := ⟨X.O, i, none⟩) hO id).trans c0
  obtain ⟨w1, hw1⟩ : ∃ w1, w1 = w.alloc (.cells [Value.slice (some ⟨X.O, 0, none⟩) D.n X.cap].toArray 40) := ⟨_, rfl⟩
  rw [← hw1] at b0 hk0 c0'
  have hsz := hk0.size
  have hcb := b0.cell (i := 0) rfl
  have hbl := b0.lt
  have HK0 := Lib.hid hk0
  have HDO := Lib.hid hD
  clear h hc hk0 b0 hD c0
  unfold maxLen at hmx
  unfold RG.val rowv at *
  go_enter Tryd.func60, Tryd.ntmps60
  go_wp2
  rw [← hw1]
  clear hw1
  go_loopw [5] (fun k wr => ∃ t : Nat, t ≤ 32 ∧ k = .int .i64 t ∧ (∀ j, j < t → bitN (D.g i) j ≠ 1) ∧ Keeps (fun _ => False) w1 wr) (fun k _ => 32 - (intOf k).toNat)
  case atStart => exact ⟨0, Nat.zero_le _, rfl, fun j hj => absurd hj (by omega), Keeps.refl _ _⟩
  case round =>
    obtain ⟨t, ht, rfl, hb, hk⟩ := hrel
    have HK := Lib.hid hk
    have HBI := Lib.hid hb
    have z0 := (hk.cell (p := ⟨w.heap.size, 0, none⟩) hbl id).trans hcb
    have z1 := (hk.cell (p := ⟨X.O, i, none⟩) (by show X.O < _; omega) id).trans c0'
    by_cases hlt : t < 32
    · have z2 := ((HK0.out.trans hk).cell (p := ⟨X.R i, t, none⟩) hR id).trans (HC.out t hlt)
      have h8 := HB.out t hlt
      by_cases hbt : bitN (D.g i) t = 1
      · have HG : Hid (D.of i = (D.c i : Nat)) := Lib.hid (by unfold AD.of; rw [if_neg (bit_nz hbt)])
        rw [gv_pos hbt] at z2 h8
        have hgt : decide ((0 : Int) < ((D.c i + 1 : Nat) : Int)) = true := by rw [decide_eq_true_iff]; omega
        clear hk hb hbt
        go_wp2_with fail
        go_ret
        exact ⟨by rw [HG.out]; go_num, HK0.out.trans HK.out⟩
      · have HBT := Lib.hid hbt
        rw [gv_zero hbt] at z2
        clear hk hb hbt
        go_wp2_with fail
        go_roundw
        case rel => exact ⟨t + 1, by omega, by go_num, fun j hj => by
          by_cases e : j = t
          · subst e; exact HBT.out
          · exact HBI.out j (by omega), HK.out⟩
        case measure => simp [intOf]; omega
    · obtain rfl : t = 32 := by omega
      have HG : Hid (D.of i = -1) := Lib.hid (by
        unfold AD.of
        rw [if_pos (bits_zero HD.out fun j hj => by have := hb j hj; have := bitN_le (D.g i) j; omega)])
      clear hk hb
      go_wp2_with fail
      go_ret
      exact ⟨by rw [HG.out]; rfl, HK0.out.trans HK.out⟩
end Go.Proofs.YthnagihgjenimaaDoor

/- icehouseref11: New. -/
namespace Go.Proofs.YthnagihgjenimaaDoor
open Go.RowKit
set_option linter.unusedVariables false
set_option linter.unusedSimpArgs false

/-- append onto a row of the call's own, as a step of a region. -/
theorem step_own {P : Program} {w : World} {ops : Array Oper} {o : Oper} {a : Act} {K : Act → World → Prop} {Q : Exit → Act → World → Prop} {E : Prop} (hgd : o.guard = none) (s x : Operand) (t : TypeId)
    (ho : o.op = .call { callee := .builtin .append, args := #[s, x], argTypes := #[t, t] })
    (base : Nat) (e : TypeId) (i : TypeInfo) (z : Value) (size bytes : Nat) (ht : P.underlying t = some (.slice e)) (hi : P.info? e = some i) (hz : i.zero = some z)
    (hsize : i.size = size) (hby : i.bytes = bytes) (hzs : z.cells.size = size) (hsz : 0 < size)
    (v : Value) (n : Nat) (xs : List Value) (hs : a.eval s = v) (hown : w.ownsRow base e size v n xs)
    (ad : Addr) (m c : Nat) (news : List Value) (hx : a.eval x = .slice (some ad) m c) (hl : news.length = m * size) (hnews : ∀ j u, news[j]? = some u → w.cell? (ad.add j) = some u) (h1 : ∀ u ∈ news, u.oneCell' = true)
    (h63 : n + m ≤ maxLen) (hbytes : (n + m) * bytes ≤ 140737488355328) (hbase : base ≤ w.heap.size)
    (h : ∀ v' w', w'.ownsRow base e size v' (n + m) (xs ++ news) → w.grownBy w' v.ownBlock → K (a.put o.dst v') w') :
    if Region.wanted o (yielded ops a.tmps) = true then Oper.wp P o a w K Q else E := by
  have hw : Region.wanted o (yielded ops a.tmps) = true := by simp [Region.wanted, hgd]
  rw [if_pos hw]
  exact wp_append_own w s x t ho base e i z size bytes ht hi hz hsize hby hzs hsz v n xs hs hown ad m c news hx hl hnews h1 h63 hbytes hbase fun v' w' a b _ => h v' w' a b
theorem info28 : (Tryd.prog.info? 28).map (fun i => (i.zero, i.size, i.bytes)) = some (some (.slice none 0 0), 1, 24) := by kernel_rfl
theorem made32 : madeCells #[Value.int .i64 0] (32 * 1) = (gcs (fun _ => 0)).toArray := by
  apply Array.ext
  · simp [madeCells, gcs]
  · intro j h1 h2
    simp [madeCells, gcs, Nat.mod_one]
theorem make32 (w : World) : (Instr.makeSlice 28 (.int .i64 32) (.int .i64 32)).run Tryd.prog w = .ok (rowv w.heap.size) (w.alloc (.cells (gcs (fun _ => 0)).toArray 3)) := by
  obtain ⟨i0, hi1, hz0, hz1, hz2⟩ := info_parts info3'
  have h := run_make (P := Tryd.prog) w 28 3 i0 (.int .i64 0) Tryd.underlying28 hi1 hz0 .i64 .i64 32 32 (by omega) (Int.le_refl _) (by rw [hz2]; omega) (by omega)
  rw [hz1] at h
  have e : (Value.int .i64 0).cells = #[Value.int .i64 0] := rfl
  rw [e] at h
  have e2 : (32 : Int).toNat = 32 := rfl
  rw [e2, made32] at h
  exact h
theorem avoids {w : World} {B t e base size n : Nat} {cs xs : List Value} {v : Value} (h : Blk w B t cs) (ho : w.ownsRow base e size v n xs) (hne : e ≠ t) : ∀ g, v.ownBlock = some g → g ≠ B := by
  intro g hg e'
  subst e'
  exact own_ne_blk h ho hne hg
def nrows (R : Nat → Nat) (t : Nat) : List Value := (List.range t).map fun i => rowv (R i)
theorem nrows_snoc (R : Nat → Nat) (t g : Nat) : nrows R t ++ [rowv g] = nrows (updN R t g) (t + 1) := by
  unfold nrows
  rw [List.range_succ, List.map_append, List.map_singleton, updN_same]
  congr 1
  apply List.map_congr_left
  intro i hi
  have := List.mem_range.1 hi
  rw [updN_ne _ _ _ (by omega)]
/-- Behind t rows. -/
structure NwS (W0 : World) (A B0 t : Nat) (sv : Value) (R : Nat → Nat) (wr : World) : Prop where
  out : wr.ownsRow W0.heap.size 28 1 sv t (nrows R t)
  row : ∀ i, i < t → Blk wr (R i) 3 (gcs (fun _ => 0)) ∧ W0.heap.size ≤ R i
  inj : ∀ i j, i < t → j < t → R i = R j → i = j
  box : Blk wr A 40 [sv]
  res : Blk wr B0 40 [.slice none 0 0]
  keeps : Keeps (fun k => k = A ∨ W0.heap.size ≤ k) W0 wr
theorem NwS.drew {W0 wr : World} {A B0 t : Nat} {sv : Value} {R : Nat → Nat} (h : NwS W0 A B0 t sv R wr) : NwS W0 A B0 t sv R wr.drew := ⟨h.out, h.row, h.inj, h.box, h.res, h.keeps.drew⟩
theorem nws_step {W0 wr w3 : World} {A B0 t : Nat} {sv v' : Value} {R : Nat → Nat} (h : NwS W0 A B0 t sv R wr) (hA : A < W0.heap.size) (hAB : A ≠ B0)
    (ho : w3.ownsRow W0.heap.size 28 1 v' (t + 1) (nrows R t ++ [rowv wr.heap.size])) (hg : ((wr.alloc (.cells (gcs (fun _ => 0)).toArray 3)).alloc (.cells #[rowv wr.heap.size] 28)).grownBy w3 sv.ownBlock) :
    NwS W0 A B0 (t + 1) v' (updN R t wr.heap.size) (w3.setCell ⟨A, 0, none⟩ v') := by
  have hsz := h.keeps.size
  have k1 : Keeps (fun k => some k = sv.ownBlock) wr w3 := (((Keeps.refl _ wr).alloc _).alloc _).trans ((Keeps.of_grown hg).mono fun k _ e => e.symm)
  have av := fun {B : Nat} {t' : Nat} {cs : List Value} (hb : Blk wr B t' cs) (hne : 28 ≠ t') => avoids hb h.out hne
  have k2 : Keeps (fun k => k = A) w3 (w3.setCell ⟨A, 0, none⟩ v') := (Keeps.refl (fun k => k = A) w3).store (p := ⟨A, 0, none⟩) (.inl rfl) _
  have box3 : Blk w3 A 40 [sv] := k1.blk h.box fun e => av h.box (by decide) A e.symm rfl
  have hnew : Blk w3 wr.heap.size 3 (gcs (fun _ => 0)) := by
    have b0 : Blk ((wr.alloc (.cells (gcs (fun _ => 0)).toArray 3)).alloc (.cells #[rowv wr.heap.size] 28)) wr.heap.size 3 (gcs (fun _ => 0)) := (Blk.new wr 3 (gcs (fun _ => 0))).alloc _
    refine (Keeps.of_grown hg).blk b0 fun e => ?_
    have := (own_heap h.out e).2.1
    omega
  have hne : ∀ i, i < t → R i ≠ wr.heap.size := fun i hi e => by have := (h.row i hi).1.lt; omega
  refine ⟨?_, fun i hi => ?_, fun i j hi hj => ?_, ?_, ?_, (h.keeps.trans (k1.mono fun k hk e => .inr (own_heap h.out e.symm).1)).trans (k2.mono fun k _ e => .inl e)⟩
  · rw [← nrows_snoc]
    exact k2.own ho fun g hg e => avoids box3 ho (by decide) g hg e
  · by_cases e : i = t
    · subst e
      rw [updN_same]
      refine ⟨k2.blk hnew fun e => ?_, hsz⟩
      have e : wr.heap.size = A := e
      have := h.box.lt
      omega
    · rw [updN_ne _ _ _ e]
      obtain ⟨b1, b2⟩ := h.row i (by omega)
      refine ⟨k2.blk (k1.blk b1 fun e => av b1 (by decide) _ e.symm rfl) fun e => ?_, b2⟩
      have e : R i = A := e
      omega
  · by_cases e1 : i = t
    · by_cases e2 : j = t
      · intro _; omega
      · subst e1
        rw [updN_same, updN_ne _ _ _ e2]
        exact fun e => absurd e.symm (hne j (by omega))
    · by_cases e2 : j = t
      · subst e2
        rw [updN_same, updN_ne _ _ _ e1]
        exact fun e => absurd e (hne i (by omega))
      · rw [updN_ne _ _ _ e1, updN_ne _ _ _ e2]
        exact h.inj i j (by omega) (by omega)
  · exact box3.store 0 v'
  · refine k2.blk (k1.blk h.res fun e => av h.res (by decide) B0 e.symm rfl) fun e => hAB e.symm
theorem own_formR {w : World} {base size n : Nat} {e : TypeId} {v : Value} {xs : List Value} (h : w.ownsRow base e size v n xs) (hn : 1 ≤ n) : ∃ g cap, v = .slice (some ⟨g, 0, none⟩) n cap := by
  rcases h.2 with ⟨_, h⟩ | ⟨g, cap, cur, rfl, _⟩
  · omega
  · exact ⟨g, cap, rfl⟩
theorem new_cells (W : World) (e : TypeId) (cs : List Value) {j : Nat} {u : Value} (hu : cs[j]? = some u) : (W.alloc (.cells cs.toArray e)).cell? ((⟨W.heap.size, 0, none⟩ : Addr).add j) = some u := by
  rw [add0]
  exact (Blk.new W e cs).cell hu
def NewP (N : Nat) (w : World) (e : Ending) (w' : World) : Prop := ∃ X : RG, e = .returned (X.val N) ∧ RgAt w' X N (fun _ _ => 0) ∧ w.heap.size ≤ X.O ∧ (∀ i, i < N → w.heap.size ≤ X.R i) ∧ Keeps (fun _ => False) w w'
set_option maxRecDepth 100000 in
set_option maxHeartbeats 1000000 in
theorem rnew_any (N : Nat) (h1 : 1 ≤ N) (h2 : N ≤ 40) (w : World) : Calls Tryd.prog 25 #[.int .i64 N] w (NewP N w) := by
  obtain ⟨j0, hj1, hy0, hy1, hy2⟩ := info_parts info28
  obtain ⟨W0, hW0⟩ : ∃ W0, W0 = (w.alloc (.cells #[.slice none 0 0] 40)).alloc (.cells #[.slice none 0 0] 40) := ⟨_, rfl⟩
  go_enter Tryd.func25, Tryd.ntmps25
  go_wp2
  rw [← hW0]
  have hs0 : W0.heap.size = w.heap.size + 2 := by subst hW0; simp
  have hk0 : Keeps (fun _ => False) w W0 := by subst hW0; exact ((Keeps.refl _ w).alloc _).alloc _
  have b0 : Blk W0 w.heap.size 40 [.slice none 0 0] := by subst hW0; exact (Blk.new w 40 [.slice none 0 0]).alloc _
  have b1 : Blk W0 (w.heap.size + 1) 40 [.slice none 0 0] := by
    subst hW0
    have := Blk.new (w.alloc (.cells #[.slice none 0 0] 40)) 40 [.slice none 0 0]
    rwa [World.size_alloc] at this
  have HS0 : Hid (NwS W0 (w.heap.size + 1) w.heap.size 0 (.slice none 0 0) (fun _ => 0) W0) := Lib.hid ⟨World.ownsRow_nil _ _ _ _, fun i hi => absurd hi (by omega), fun i j hi => absurd hi (by omega), b1, b0, Keeps.refl _ _⟩
  have HK0 := Lib.hid hk0
  clear hk0 b0 b1 hW0
  go_loopw [4] (fun k wr => ∃ (t : Nat) (sv : Value) (R : Nat → Nat), t ≤ N ∧ k = .int .i64 t ∧ NwS W0 (w.heap.size + 1) w.heap.size t sv R wr) (fun k _ => N - (intOf k).toNat)
  case atStart => exact ⟨0, _, _, Nat.zero_le _, rfl, HS0.out⟩
  case round =>
    obtain ⟨t, sv, R, ht, rfl, hs⟩ := hrel
    have HS := Lib.hid hs
    have hbx := hs.box.cell (i := 0) rfl
    have hbf := hs.box.free 0
    have hrx := hs.res.free 0
    have hrc := hs.res.cell (i := 0) rfl
    by_cases hlt : t < N
    · have HSD : Hid (NwS W0 (w.heap.size + 1) w.heap.size t sv R wr.drew) := Lib.hid hs.drew
      have hmk : (Instr.makeSlice 28 (.int .i64 32) (.int .i64 32)).run Tryd.prog wr.drew = .ok (.slice (some ⟨wr.heap.size, 0, none⟩) 32 32) (wr.drew.alloc (.cells (gcs (fun _ => 0)).toArray 3)) := make32 wr.drew
      have hbl := hs.box.lt
      have hsz := hs.keeps.size
      have HN1 : Hid (∀ u ∈ [rowv wr.heap.size], u.oneCell' = true) := Lib.hid (by intro u hu; rw [List.mem_singleton.1 hu]; rfl)
      have HNW : Hid (∀ j u, [rowv wr.heap.size][j]? = some u → ((wr.drew.alloc (.cells (gcs (fun _ => 0)).toArray 3)).alloc (.cells #[rowv wr.heap.size] 28)).cell? ((⟨wr.heap.size + 1, 0, none⟩ : Addr).add j) = some u) := Lib.hid (fun j u hu => by
        have := new_cells (wr.drew.alloc (.cells (gcs (fun _ => 0)).toArray 3)) 28 [rowv wr.heap.size] hu
        rwa [World.size_alloc] at this)
      have HOX : Hid (((wr.drew.alloc (.cells (gcs (fun _ => 0)).toArray 3)).alloc (.cells #[rowv wr.heap.size] 28)).ownsRow W0.heap.size 28 1 sv t (nrows R t)) := Lib.hid ((HSD.out.out.alloc _).alloc _)
      have hc1 : (wr.alloc (.cells (gcs (fun _ => 0)).toArray 3)).cell? ⟨w.heap.size + 1, 0, none⟩ = some sv := (hs.box.alloc _).cell rfl
      have hc2 : ((wr.alloc (.cells (gcs (fun _ => 0)).toArray 3)).alloc (.cells #[.slice (some ⟨wr.heap.size, 0, none⟩) 32 32] 28)).cell? ⟨w.heap.size + 1, 0, none⟩ = some sv := ((hs.box.alloc _).alloc _).cell rfl
      clear hs
      go_wp2_with fail
      go_region_law ((refine step_own rfl (.tmp 12) (.tmp 14) 38 rfl W0.heap.size 28 j0 (.slice none 0 0) 1 24 Tryd.underlying38 hj1 hy0 hy1 hy2 rfl (by decide) _ t (nrows R t) rfl HOX.out ⟨wr.heap.size + 1, 0, none⟩ 1 1 [rowv wr.heap.size] rfl rfl HNW.out HN1.out (by unfold maxLen; omega) (by omega) (by simp; omega) ?_; intro v' w3 hown' hgrow; obtain ⟨g', cap', rfl⟩ := own_formR hown' (by omega); have HST := Lib.hid (nws_step HSD.out (by omega) (by omega) hown' hgrow); have hb3 := ((Keeps.of_grown hgrow).blk ((HSD.out.box.alloc _).alloc _) (fun e => avoids HSD.out.box HSD.out.out (by decide) _ e rfl)).free 0; have hb4 := ((Keeps.of_grown hgrow).blk ((HSD.out.box.alloc _).alloc _) (fun e => avoids HSD.out.box HSD.out.out (by decide) _ e rfl)).cell (i := 0) rfl; clear hown' hgrow))
      all_goals
        go_wp2_with fail
        go_roundw
        case rel => exact ⟨t + 1, _, _, by omega, by go_num, HST.out⟩
        case measure => simp [intOf]; omega
    · obtain rfl : t = N := by omega
      obtain ⟨g, cap, rfl⟩ := own_formR hs.out h1
      clear hs
      go_wp2_with fail
      have k9 : Keeps (fun k => k = w.heap.size) wr (wr.setCell ⟨w.heap.size, 0, none⟩ (.slice (some ⟨g, 0, none⟩) t cap)) := (Keeps.refl (fun k => k = w.heap.size) wr).store (p := ⟨w.heap.size, 0, none⟩) (.inl rfl) _
      have b9 := HS.out.res.store 0 (.slice (some ⟨g, 0, none⟩) t cap)
      have x0 := b9.cell (i := 0) rfl
      refine bodyPost_ret (v := .agg #[.slice (some ⟨g, 0, none⟩) t cap]) (by simp [results, Tryd.f25, go_sem, x0]) rfl ⟨⟨g, cap, R⟩, rfl, ⟨h1, h2, ?_, fun i hi => ?_, HS.out.inj⟩, ?_, fun i hi => ?_, ?_⟩
      · exact own_base (k9.own HS.out.out fun g' hg' e => by
          have := (own_heap HS.out.out hg').1
          have e : g' = w.heap.size := e
          omega) (Nat.zero_le _)
      · obtain ⟨b1, b2⟩ := HS.out.row i hi
        exact k9.blk b1 fun e => by
          have e : R i = w.heap.size := e
          omega
      · have := (own_heap HS.out.out (g := g) rfl).1
        show w.heap.size ≤ g
        omega
      · have := (HS.out.row i hi).2
        show w.heap.size ≤ R i
        omega
      · have : Keeps (fun k => k = w.heap.size + 1 ∨ W0.heap.size ≤ k ∨ k = w.heap.size) w _ := ((HK0.out.mono fun k _ hf => hf.elim).trans (HS.out.keeps.mono fun k _ e => e.elim .inl fun e => .inr (.inl e))).trans (k9.mono fun k _ e => .inr (.inr e))
        exact this.mono fun k hk e => by omega
end Go.Proofs.YthnagihgjenimaaDoor

/- icehouseref11: with. -/
namespace Go.Proofs.YthnagihgjenimaaDoor
open Go.RowKit
set_option linter.unusedVariables false
set_option linter.unusedSimpArgs false

def upd2 (f : Nat → Nat → Nat) (i k x : Nat) (a b : Nat) : Nat := if a = i ∧ b = k then x else f a b
theorem gcs_set (f : Nat → Nat → Nat) {i k : Nat} (x : Nat) : (gcs (f i)).set k (.int .i64 (x : Nat)) = gcs (upd2 f i k x i) := by
  apply List.ext_getElem?
  intro j
  rcases Nat.lt_or_ge j 32 with hj | hj
  · rw [gcs_at _ hj]
    by_cases e : j = k
    · subst e
      rw [List.getElem?_set_self (by rw [gcs_len]; exact hj)]
      simp [upd2]
    · rw [List.getElem?_set_ne (fun h => e h.symm), gcs_at _ hj]
      simp [upd2, e]
  · rw [List.getElem?_eq_none (by simp [gcs_len]; exact hj), List.getElem?_eq_none (by rw [gcs_len]; exact hj)]
theorem gcs_other (f : Nat → Nat → Nat) {i k a : Nat} (x : Nat) (h : a ≠ i) : gcs (upd2 f i k x a) = gcs (f a) := by
  unfold gcs
  apply List.map_congr_left
  intro b _
  simp [upd2, h]
theorem RgAt.set {w : World} {X : RG} {n : Nat} {f : Nat → Nat → Nat} (h : RgAt w X n f) {i k : Nat} (hi : i < n) (x : Nat) :
    RgAt (w.setCell ⟨X.R i, k, none⟩ (.int .i64 (x : Nat))) X n (upd2 f i k x) ∧ Keeps (fun g => g = X.R i) w (w.setCell ⟨X.R i, k, none⟩ (.int .i64 (x : Nat))) := by
  have hk : Keeps (fun g => g = X.R i) w (w.setCell ⟨X.R i, k, none⟩ (.int .i64 (x : Nat))) := (Keeps.refl (fun g => g = X.R i) w).store (p := ⟨X.R i, k, none⟩) (.inl rfl) _
  refine ⟨⟨h.n1, h.n2, hk.own h.out fun g hg e => own_ne_blk (h.row i hi) h.out (by decide) (by rw [hg]; exact congrArg some e), fun a ha => ?_, h.inj⟩, hk⟩
  by_cases e : a = i
  · subst e
    have := (h.row a ha).store k (.int .i64 (x : Nat))
    rwa [gcs_set] at this
  · rw [gcs_other f x e]
    exact hk.blk (h.row a ha) fun e2 => e (h.inj _ _ ha hi e2)
/-- Copied up to the place k of the page i. -/
structure WtS (W1 : World) (X Y : RG) (n : Nat) (f : Nat → Nat → Nat) (i k : Nat) (wr : World) : Prop where
  done : ∃ g, RgAt wr Y n g ∧ ∀ a b, a < n → b < 32 → (a < i ∨ a = i ∧ b < k) → g a b = f a b
  keeps : Keeps (fun g => ∃ a, a < n ∧ g = Y.R a) W1 wr
/-- What stands beside the copying. -/
structure WtFix (W1 : World) (X Y : RG) (n : Nat) (f : Nat → Nat → Nat) (B0 B1 B9 : Nat) : Prop where
  x : RgAt W1 X n f
  b0 : Blk W1 B0 40 [.slice (some ⟨X.O, 0, none⟩) n X.cap]
  b1 : Blk W1 B1 40 [.slice none 0 0]
  b9 : Blk W1 B9 40 [.slice (some ⟨Y.O, 0, none⟩) n Y.cap]
  ne : ∀ a b, a < n → b < n → X.R a ≠ Y.R b
  yo : W1.ownsRow 0 28 1 (.slice (some ⟨Y.O, 0, none⟩) n Y.cap) n (Y.rows n)
  yr : ∀ a, a < n → Blk W1 (Y.R a) 3 (gcs fun _ => 0)
section
variable {W1 wr : World} {X Y : RG} {n : Nat} {f : Nat → Nat → Nat} {B0 B1 B9 i k : Nat}
theorem WtFix.blk (h : WtFix W1 X Y n f B0 B1 B9) (hs : WtS W1 X Y n f i k wr) {B t : Nat} {cs : List Value} (hb : Blk W1 B t cs) (ht : t ≠ 3) : Blk wr B t cs :=
  hs.keeps.blk hb fun ⟨a, ha, e⟩ => hb.ne (h.yr a ha) ht e
theorem WtFix.cells (h : WtFix W1 X Y n f B0 B1 B9) (hs : WtS W1 X Y n f i k wr) :
    wr.cell? ⟨B0, 0, none⟩ = some (.slice (some ⟨X.O, 0, none⟩) n X.cap) ∧ wr.cell? ⟨B9, 0, none⟩ = some (.slice (some ⟨Y.O, 0, none⟩) n Y.cap) ∧
    (∀ a, a < n → wr.cell? ⟨X.O, a, none⟩ = some (rowv (X.R a))) ∧ (∀ a b, a < n → b < 32 → wr.cell? ⟨X.R a, b, none⟩ = some (.int .i64 (f a b : Nat))) ∧
    (∀ a, a < n → wr.cell? ⟨Y.O, a, none⟩ = some (rowv (Y.R a)) ∧ ∀ b, b < 32 → wr.frozen? ⟨Y.R a, b, none⟩ = false ∧ ∃ u : Value, wr.cell? ⟨Y.R a, b, none⟩ = some u) ∧
    (wr.cell? ⟨B1, 0, none⟩ = some (.slice none 0 0) ∧ wr.frozen? ⟨B1, 0, none⟩ = false) := by
  refine ⟨(h.blk hs h.b0 (by decide)).cell rfl, (h.blk hs h.b9 (by decide)).cell rfl, fun a ha => ?_, fun a b ha hb => ?_, fun a ha => ?_, (h.blk hs h.b1 (by decide)).cell rfl, (h.blk hs h.b1 (by decide)).free 0⟩
  · exact (hs.keeps.cell (p := ⟨X.O, a, none⟩) h.x.ltO fun ⟨c, hc, e⟩ => own_ne_blk (h.yr c hc) h.x.out (by decide) (by rw [← e]; rfl)).trans (h.x.cells a ha).1
  · exact (hs.keeps.cell (p := ⟨X.R a, b, none⟩) (h.x.ltR ha) fun ⟨c, hc, e⟩ => h.ne a c ha hc e).trans ((h.x.cells a ha).2 b hb)
  · obtain ⟨g, hg, _⟩ := hs.done
    exact ⟨(hg.cells a ha).1, fun b hb => ⟨(hg.row a ha).free b, _, (hg.cells a ha).2 b hb⟩⟩
theorem WtS.step (hs : WtS W1 X Y n f i k wr) (hi : i < n) (hk : k < 32) : WtS W1 X Y n f i (k + 1) (wr.setCell ⟨Y.R i, k, none⟩ (.int .i64 (f i k : Nat))) := by
  obtain ⟨⟨g, hg, he⟩, hkp⟩ := hs
  obtain ⟨h1, h2⟩ := hg.set hi (k := k) (f i k)
  refine ⟨⟨_, h1, fun a b ha hb hh => ?_⟩, hkp.trans (h2.mono fun z _ e => ⟨i, hi, e⟩)⟩
  unfold upd2
  by_cases e : a = i ∧ b = k
  · rw [if_pos e, e.1, e.2]
  · rw [if_neg e]
    exact he a b ha hb (by omega)
theorem WtS.next (hs : WtS W1 X Y n f i 32 wr) : WtS W1 X Y n f (i + 1) 0 wr := by
  obtain ⟨⟨g, hg, he⟩, hkp⟩ := hs
  exact ⟨⟨g, hg, fun a b ha hb hh => he a b ha hb (by omega)⟩, hkp⟩
theorem WtS.all (hs : WtS W1 X Y n f n 0 wr) : RgAt wr Y n f := by
  obtain ⟨⟨g, hg, he⟩, hkp⟩ := hs
  exact hg.congr fun a ha b hb => he a b ha hb (.inl ha)
theorem WtS.quiet {w2 : World} (hs : WtS W1 X Y n f i k wr) (hk : Keeps (fun _ => False) wr w2) : WtS W1 X Y n f i k w2 := by
  obtain ⟨⟨g, hg, he⟩, hkp⟩ := hs
  exact ⟨⟨g, hg.quiet hk, he⟩, hkp.trans (hk.mono fun _ _ h => h.elim)⟩
end
/-- All its blocks lie at B or beyond. -/
def RG.Over (X : RG) (n B : Nat) : Prop := B ≤ X.O ∧ ∀ i, i < n → B ≤ X.R i
theorem RG.Over.mono {X : RG} {n B B' : Nat} (h : X.Over n B) (hB : B' ≤ B) : X.Over n B' := ⟨Nat.le_trans hB h.1, fun i hi => Nat.le_trans hB (h.2 i hi)⟩
def WithP (n : Nat) (f : Nat → Nat → Nat) (w : World) (e : Ending) (w' : World) : Prop := ∃ Y : RG, e = .returned (Y.val n) ∧ RgAt w' Y n f ∧ Keeps (fun _ => False) w w' ∧ Y.Over n w.heap.size

set_option maxRecDepth 100000 in
set_option maxHeartbeats 1000000 in
theorem with_any (X : RG) (n : Nat) (f : Nat → Nat → Nat) (w : World) (h : RgAt w X n f) (hf : ∀ a b, a < n → b < 32 → f a b ≤ 8) (i k x : Nat) (hi : i < n) (hk : k < 32) (hx : x ≤ 8) :
    Calls Tryd.prog 59 #[X.val n, .int .i64 i, .int .i64 k, .int .i64 x] w (WithP n (upd2 f i k x) w) := by
  have n1 := h.n1
  have n2 := h.n2
  obtain ⟨hcap, hmx⟩ := h.cap
  obtain ⟨W0, hW0⟩ : ∃ W0, W0 = (w.alloc (.cells #[.slice (some ⟨X.O, 0, none⟩) n X.cap] 40)).alloc (.cells #[.slice none 0 0] 40) := ⟨_, rfl⟩
  have hs0 : W0.heap.size = w.heap.size + 2 := by subst hW0; simp
  have hk0 : Keeps (fun _ => False) w W0 := by subst hW0; exact ((Keeps.refl _ w).alloc _).alloc _
  have b0 : Blk W0 w.heap.size 40 [.slice (some ⟨X.O, 0, none⟩) n X.cap] := by subst hW0; exact (Blk.new w 40 [.slice (some ⟨X.O, 0, none⟩) n X.cap]).alloc _
  have b1 : Blk W0 (w.heap.size + 1) 40 [.slice none 0 0] := by
    subst hW0
    have := Blk.new (w.alloc (.cells #[.slice (some ⟨X.O, 0, none⟩) n X.cap] 40)) 40 [.slice none 0 0]
    rwa [World.size_alloc] at this
  have hcb := b0.cell (i := 0) rfl
  have HX0 := Lib.hid (h.quiet hk0)
  have HK0 := Lib.hid hk0
  have HB0 := Lib.hid b0
  have HB1 := Lib.hid b1
  have HF := Lib.hid hf
  clear hk0 b0 b1 h hf
  unfold maxLen at hmx
  unfold RG.val
  go_enter Tryd.func59, Tryd.ntmps59
  go_wp2_with fail
  rw [← hW0]
  clear hW0
  refine (rnew_any n n1 n2 W0).mono ?_
  rintro e w1 ⟨Y, rfl, hy, hyO, hyR, hk1⟩
  unfold RG.val
  have hx1 := HX0.out.quiet hk1
  have b0 := hk1.blk HB0.out id
  have b1 := hk1.blk HB1.out id
  obtain ⟨ycap, ymx⟩ := hy.cap
  unfold maxLen at ymx
  have hs1 := hk1.size
  have HK1 := Lib.hid hk1
  have HY1 := Lib.hid hy
  have HX1 := Lib.hid hx1
  have HB0' := Lib.hid b0
  have HB1' := Lib.hid b1
  have HYO := Lib.hid hyO
  have HYR := Lib.hid hyR
  clear hk1 hy hx1 b0 b1 hcb hyO hyR
  obtain ⟨W1, hW1⟩ : ∃ W1, W1 = w1.alloc (.cells #[.slice (some ⟨Y.O, 0, none⟩) n Y.cap] 40) := ⟨_, rfl⟩
  have k2 : Keeps (fun _ => False) w1 W1 := by subst hW1; exact (Keeps.refl _ _).alloc _
  have b9 : Blk W1 w1.heap.size 40 [.slice (some ⟨Y.O, 0, none⟩) n Y.cap] := by subst hW1; exact Blk.new w1 40 [.slice (some ⟨Y.O, 0, none⟩) n Y.cap]
  have bb0 := k2.blk HB0'.out id
  have bb1 := k2.blk HB1'.out id
  have hx2 := HX1.out.quiet k2
  have hy2 := HY1.out.quiet k2
  have HW : Hid (WtFix W1 X Y n f w.heap.size (w.heap.size + 1) w1.heap.size) := Lib.hid ⟨hx2, bb0, bb1, b9, fun a b ha hb e => by have := HX0.out.ltR ha; have := HYR.out b hb; omega, hy2.out, hy2.row⟩
  have HS : Hid (WtS W1 X Y n f 0 0 W1) := Lib.hid ⟨⟨_, hy2, fun a b ha hb hh => by omega⟩, Keeps.refl _ _⟩
  have HK2 := Lib.hid k2
  clear k2 b9 bb0 bb1 hx2 hy2
  go_wp2_with fail
  rw [← hW1]
  clear hW1
  go_loopw [10] (fun c wr => ∃ t : Nat, t ≤ n ∧ c = .int .i64 t ∧ WtS W1 X Y n f t 0 wr) (fun c _ => n - (intOf c).toNat)
  case atStart => exact ⟨0, Nat.zero_le _, rfl, HS.out⟩
  case round =>
    obtain ⟨t, ht, rfl, hs⟩ := hrel
    have HS1 := Lib.hid hs
    obtain ⟨q0, q1, q2, q3, q4, q5⟩ := HW.out.cells hs
    have Q5 := Lib.hid q5
    clear hs q2 q3 q4 q5
    by_cases hlt : t < n
    · go_wp2_with fail
      go_loopw [11] (fun c wr => ∃ q : Nat, q ≤ 32 ∧ c = .int .i64 q ∧ WtS W1 X Y n f t q wr) (fun c _ => 32 - (intOf c).toNat)
      case atStart => exact ⟨0, Nat.zero_le _, rfl, HS1.out⟩
      case round =>
        obtain ⟨q, hq, rfl, hs⟩ := hrel
        have HS2 := Lib.hid hs
        by_cases hlt2 : q < 32
        · obtain ⟨q0, q1, q2, q3, q4, q5⟩ := HW.out.cells hs
          have r2 := q2 t hlt
          have r3 := q3 t q hlt hlt2
          obtain ⟨r4, r5⟩ := q4 t hlt
          obtain ⟨r6, u, r7⟩ := r5 q hlt2
          have hfb := HF.out t q hlt hlt2
          have HST := Lib.hid (hs.step hlt hlt2)
          obtain ⟨v, hv⟩ : ∃ v, v = f t q := ⟨_, rfl⟩
          rw [← hv] at r3 hfb HST
          clear hs q2 q3 q4 q5 r5 hv
          unfold rowv at *
          go_wp2_with fail
          go_region
          have HST2 : Hid (WtS W1 X Y n f t (q + 1) (wr.setCell ⟨Y.R t, q, none⟩ (.int .i64 (v : Nat))).drew) := Lib.hid (HST.out.quiet (Keeps.refl _ _).drew)
          generalize (wr.setCell ⟨Y.R t, q, none⟩ (.int .i64 (v : Nat))).drew = w5 at HST2 ⊢
          go_wp2_with fail
          go_roundw
          case rel => exact ⟨q + 1, by omega, by go_num, HST2.out⟩
          case measure => simp [intOf]; omega
        · obtain rfl : q = 32 := by omega
          have HST2 := Lib.hid hs.next
          clear hs
          go_wp2_with fail
          go_roundw
          case rel => exact ⟨t + 1, by omega, by go_num, HST2.out⟩
          case measure => simp [intOf]; omega
    · obtain rfl : t = n := by omega
      have ha := HS1.out.all
      obtain ⟨c0, cr⟩ := ha.cells i hi
      have c1 := cr k hk
      have f1 := (ha.row i hi).free k
      obtain ⟨hset, hks⟩ := ha.set hi (k := k) x
      have HA := Lib.hid hset
      have hne1 : ∀ B cs, Blk wr B 40 cs → Blk (wr.setCell ⟨Y.R i, k, none⟩ (.int .i64 (x : Nat))) B 40 cs := fun B cs hb => hks.blk hb fun e => hb.ne (ha.row i hi) (by decide) e
      have b9' := hne1 _ _ (HW.out.blk HS1.out HW.out.b9 (by decide))
      have b1' := hne1 _ _ (HW.out.blk HS1.out HW.out.b1 (by decide))
      have d9 := b9'.cell (i := 0) rfl
      have d1 := b1'.cell (i := 0) rfl
      have e1 := b1'.free 0
      have HB := Lib.hid b1'
      have HKS := Lib.hid hks
      clear ha cr hset hks hne1 b9' b1'
      unfold rowv at *
      go_wp2_with fail
      obtain ⟨w5, hw5⟩ : ∃ w5, w5 = wr.setCell ⟨Y.R i, k, none⟩ (.int .i64 (x : Nat)) := ⟨_, rfl⟩
      rw [← hw5] at HA HB HKS ⊢
      clear hw5 d9 d1 e1
      have k9 : Keeps (fun g => g = w.heap.size + 1) w5 (w5.setCell ⟨w.heap.size + 1, 0, none⟩ (.slice (some ⟨Y.O, 0, none⟩) t Y.cap)) := (Keeps.refl (fun g => g = w.heap.size + 1) w5).store (p := ⟨w.heap.size + 1, 0, none⟩) (.inl rfl) _
      have x0 := (HB.out.store 0 (.slice (some ⟨Y.O, 0, none⟩) t Y.cap)).cell (i := 0) rfl
      refine bodyPost_ret (v := .agg #[.slice (some ⟨Y.O, 0, none⟩) t Y.cap]) (by simp [results, Tryd.f59, go_sem, x0]) rfl ⟨Y, rfl, HA.out.keep k9 fun g cur t' ht' hc e => ?_, ?_, by have := HYO.out; omega, fun a ha => by have := HYR.out a ha; omega⟩
      · have hb := HB.out
        unfold Blk at hb
        rw [show g = w.heap.size + 1 from e, hb] at hc
        injection hc with hc
        injection hc with _ hc
        rcases ht' with rfl | rfl <;> cases hc
      · have a1 : Keeps (fun g => w.heap.size ≤ g) w wr := (((HK0.out.trans HK1.out).trans HK2.out).mono fun k _ hf => hf.elim).trans (HS1.out.keeps.mono fun g _ ⟨a, ha, e⟩ => by have := HYR.out a ha; omega)
        have a2 : Keeps (fun g => w.heap.size ≤ g) w w5 := a1.trans (HKS.out.mono fun g _ e => by have := HYR.out i hi; have e : g = Y.R i := e; omega)
        have a3 := a2.trans (k9.mono fun g _ e => by have e : g = w.heap.size + 1 := e; show w.heap.size ≤ g; omega)
        exact a3.mono fun g hg e => by have e : w.heap.size ≤ g := e; omega
end Go.Proofs.YthnagihgjenimaaDoor

/- icehouseref11: Where, Take. -/
namespace Go.Proofs.YthnagihgjenimaaDoor
open Go.RowKit
set_option linter.unusedVariables false
set_option linter.unusedSimpArgs false

def RWhereP (D : AD) (x : Int) (w : World) (e : Ending) (w' : World) : Prop :=
  e = .returned (.tuple #[.int .i64 (if D.find x = 0 then ((D.c (x.toNat / 32) : Nat) : Int) else 0), .int .i64 (D.find x)]) ∧ Keeps (fun _ => False) w w'
set_option maxRecDepth 100000 in
set_option maxHeartbeats 1000000 in
theorem rwhere_any (X : RG) (D : AD) (hD : D.Ok) (w : World) (h : RgAt w X D.n (gv D)) (x : Int) (hx : x < 9223372036854775808) : Calls Tryd.prog 27 #[X.val D.n, .int .i64 x] w (RWhereP D x w) := by
  obtain ⟨hcap, hmx⟩ := h.cap
  have n2 := h.n2
  have hO := h.ltO
  have b0 := Blk.new w 40 [.slice (some ⟨X.O, 0, none⟩) D.n X.cap]
  have hk0 : Keeps (fun _ => False) w (w.alloc (.cells [Value.slice (some ⟨X.O, 0, none⟩) D.n X.cap].toArray 40)) := (Keeps.refl _ _).alloc _
  have h' := h.quiet hk0
  have hcb := b0.cell (i := 0) rfl
  have HK0 := Lib.hid hk0
  clear hk0 b0 h
  unfold maxLen at hmx
  unfold RG.val RWhereP
  by_cases h1 : x < 0
  · have hf : D.find x = 2 := by unfold AD.find; rw [if_pos (Or.inl h1)]
    rw [hf]
    have h3 : decide (x < 0) = true := by simpa using h1
    clear hx h'
    go_enter Tryd.func27, Tryd.ntmps27
    go_wp2
    go_ret2
    exact ⟨rfl, HK0.out⟩
  · obtain ⟨m, rfl⟩ := Int.eq_ofNat_of_zero_le (show 0 ≤ x by omega)
    have h3 : decide ((m : Int) < 0) = false := by simp
    by_cases h2 : (D.n : Int) ≤ (m : Int) / 32
    · have hf : D.find m = 2 := by unfold AD.find; rw [if_pos (Or.inr h2)]
      rw [hf]
      have h4 : decide (32 * (D.n : Int) ≤ (m : Int)) = true := by simp; omega
      clear hx h'
      go_enter Tryd.func27, Tryd.ntmps27
      go_wp2
      go_ret2
      exact ⟨rfl, HK0.out⟩
    · have hi : m / 32 < D.n := by omega
      have hk : m % 32 < 32 := by omega
      obtain ⟨y0, y1⟩ := h'.cells _ hi
      have y2 := y1 _ hk
      have hg8 := gv_le hD hi (m % 32)
      have h4 : decide (32 * (D.n : Int) ≤ (m : Int)) = false := by simp; omega
      have h5 : (m : Int) / 32 < (D.n : Int) := by omega
      have hf : D.find m = if bitN (D.g (m / 32)) (m % 32) = 0 then 4 else 0 := by
        unfold AD.find
        rw [if_neg (by omega)]
        rfl
      have hbl := bitN_le (D.g (m / 32)) (m % 32)
      simp only [Int.toNat_natCast]
      clear y1 hx h'
      unfold rowv at *
      by_cases hb : bitN (D.g (m / 32)) (m % 32) = 1
      · rw [if_neg (by omega)] at hf
        rw [hf]
        rw [gv_pos hb] at y2 hg8
        have hnz : (((D.c (m / 32) + 1 : Nat) : Int) == 0) = false := by rw [beq_eq_false_iff_ne]; omega
        clear hb hbl h2 h1 hf
        go_enter Tryd.func27, Tryd.ntmps27
        go_wp2
        go_ret2
        exact ⟨by simp, HK0.out⟩
      · rw [if_pos (by omega)] at hf
        rw [hf]
        rw [gv_zero hb] at y2 hg8
        clear hb hbl h2 h1 hf
        go_enter Tryd.func27, Tryd.ntmps27
        go_wp2
        go_ret2
        exact ⟨rfl, HK0.out⟩
end Go.Proofs.YthnagihgjenimaaDoor

/- icehouseref11: Take. -/
namespace Go.Proofs.YthnagihgjenimaaDoor
open Go.RowKit
set_option linter.unusedVariables false
set_option linter.unusedSimpArgs false

theorem gv_less {D : AD} {m k : Nat} (h : D.Has m k) (a b : Nat) (hb : b < 32) : upd2 (gv D) (m / 32) (m % 32) 0 a b = gv (D.less m) a b := by
  obtain ⟨h1, h2, h3⟩ := h
  have hg : ∀ a, (D.less m).g a = updN D.g (m / 32) (D.g (m / 32) - 2 ^ (m % 32)) a := fun _ => rfl
  have hc : (D.less m).c a = D.c a := rfl
  unfold upd2 gv
  rw [hg, hc]
  by_cases e : a = m / 32
  · rw [e, updN_same, bitN_off h2]
    by_cases e2 : b = m % 32
    · simp [e2]
    · simp [e2]
  · rw [updN_ne _ _ _ e, if_neg (fun h => e h.1)]
theorem gv_hit {D : AD} {j p : Nat} (hb : bitN (D.g j) p = 0) (a b : Nat) : upd2 (gv D) j p (D.c j + 1) a b = gv { D with g := updN D.g j (D.g j + 2 ^ p) } a b := by
  unfold upd2 gv
  show _ = if bitN (updN D.g j (D.g j + 2 ^ p) a) b = 1 then D.c a + 1 else 0
  by_cases e : a = j
  · subst e
    rw [updN_same, bitN_on hb]
    by_cases e2 : b = p
    · simp [e2]
    · simp [e2]
  · rw [updN_ne _ _ _ e, if_neg (fun h => e h.1)]
theorem bit_one (b : Nat) : bitN 1 b = 1 ↔ b = 0 := by
  constructor
  · intro h
    rcases Nat.eq_zero_or_pos b with e | e
    · exact e
    · have := bit_ge h
      have := Nat.one_lt_two_pow (n := b) (by omega)
      omega
  · rintro rfl; rfl
theorem gv_page {D : AD} {j k : Nat} (h0 : D.g j = 0) (a b : Nat) : upd2 (gv D) j 0 (k + 1) a b = gv { D with c := updN D.c j k, g := updN D.g j 1 } a b := by
  unfold upd2 gv
  show _ = if bitN (updN D.g j 1 a) b = 1 then updN D.c j k a + 1 else 0
  by_cases e : a = j
  · subst e
    rw [updN_same, updN_same, h0, bitN_zero]
    by_cases e2 : b = 0
    · simp [e2, (bit_one 0).2 rfl]
    · have : ¬ bitN 1 b = 1 := fun h => e2 ((bit_one b).1 h)
      simp [e2, this]
  · rw [updN_ne _ _ _ e, updN_ne _ _ _ e, if_neg (fun h => e h.1)]
def AD.took (D : AD) (x : Int) : AD := if D.find x = 0 then D.less x.toNat else D
def RTakeP (X : RG) (D : AD) (x : Int) (w : World) (e : Ending) (w' : World) : Prop := ∃ Y : RG, e = .returned (.tuple #[Y.val D.n, .int .i64 (D.find x)]) ∧ RgAt w' Y D.n (gv (D.took x)) ∧ Keeps (fun _ => False) w w' ∧ (Y = X ∨ Y.Over D.n w.heap.size)
/-- The two blocks at a method's head: the receiver, the result. -/
theorem two_blocks (w : World) (v : Value) : Blk ((w.alloc (.cells #[v] 40)).alloc (.cells #[.slice none 0 0] 40)) w.heap.size 40 [v] ∧ Blk ((w.alloc (.cells #[v] 40)).alloc (.cells #[.slice none 0 0] 40)) (w.heap.size + 1) 40 [.slice none 0 0] ∧ Keeps (fun _ => False) w ((w.alloc (.cells #[v] 40)).alloc (.cells #[.slice none 0 0] 40)) := by
  refine ⟨(Blk.new w 40 [v]).alloc _, ?_, ((Keeps.refl _ w).alloc _).alloc _⟩
  have := Blk.new (w.alloc (.cells #[v] 40)) 40 [.slice none 0 0]
  rwa [World.size_alloc] at this
theorem rg_result {w w5 : World} {Y : RG} {n : Nat} {f : Nat → Nat → Nat} {B : Nat} (h : RgAt w5 Y n f) (hb : Blk w5 B 40 [.slice none 0 0]) (hk : Keeps (fun _ => False) w w5) (hB : w.heap.size ≤ B) (v : Value) :
    RgAt (w5.setCell ⟨B, 0, none⟩ v) Y n f ∧ (w5.setCell ⟨B, 0, none⟩ v).cell? ⟨B, 0, none⟩ = some v ∧ Keeps (fun _ => False) w (w5.setCell ⟨B, 0, none⟩ v) := by
  have k9 : Keeps (fun g => g = B) w5 (w5.setCell ⟨B, 0, none⟩ v) := (Keeps.refl (fun g => g = B) w5).store (p := ⟨B, 0, none⟩) (.inl rfl) _
  refine ⟨h.keep k9 fun g cur t' ht' hc e => ?_, (hb.store 0 v).cell rfl, ((hk.mono fun _ _ h => h.elim).trans k9).mono fun g hg e => by have e : g = B := e; omega⟩
  unfold Blk at hb
  rw [show g = B from e, hb] at hc
  injection hc with hc
  injection hc with _ hc
  rcases ht' with rfl | rfl <;> cases hc
set_option maxRecDepth 100000 in
set_option maxHeartbeats 1000000 in
theorem rtake_any (X : RG) (D : AD) (hD : D.Ok) (w : World) (h : RgAt w X D.n (gv D)) (x : Int) (hx : x < 9223372036854775808) : Calls Tryd.prog 28 #[X.val D.n, .int .i64 x] w (RTakeP X D x w) := by
  obtain ⟨hcap, hmx⟩ := h.cap
  have n2 := h.n2
  obtain ⟨b0, b1, hk0⟩ := two_blocks w (.slice (some ⟨X.O, 0, none⟩) D.n X.cap)
  obtain ⟨W0, hW0⟩ : ∃ W0, W0 = (w.alloc (.cells #[.slice (some ⟨X.O, 0, none⟩) D.n X.cap] 40)).alloc (.cells #[.slice none 0 0] 40) := ⟨_, rfl⟩
  have hcb := b0.cell (i := 0) rfl
  rw [← hW0] at b0 b1 hk0
  have h' := h.quiet hk0
  have HX0 := Lib.hid h'
  have HWH := Lib.hid (rwhere_any X D hD W0 h' x hx)
  have HD := Lib.hid hD
  have HK0 := Lib.hid hk0
  have HB0 := Lib.hid b0
  have HB1 := Lib.hid b1
  clear hk0 b0 b1 h hx hD h'
  unfold maxLen at hmx
  unfold RG.val RWhereP at *
  go_enter Tryd.func28, Tryd.ntmps28
  go_wp2_with fail
  rw [← hW0]
  clear hW0 hcb
  refine HWH.out.mono ?_
  rintro e w1 ⟨rfl, hk1⟩
  have b0 := hk1.blk HB0.out id
  have b1 := hk1.blk HB1.out id
  have c0 := b0.cell (i := 0) rfl
  have c1 := b1.cell (i := 0) rfl
  have f1 := b1.free 0
  have HX1 := Lib.hid (HX0.out.quiet hk1)
  have HK1 := Lib.hid (HK0.out.trans hk1)
  have HB1' := Lib.hid b1
  clear hk1 b0 b1
  by_cases hf : D.find x = 0
  · obtain ⟨h0, hi, hb⟩ := find_zero hf
    obtain ⟨m, rfl⟩ := Int.eq_ofNat_of_zero_le h0
    simp only [Int.toNat_natCast] at *
    have hHas := find_has hf
    have HH := Lib.hid hHas
    have HF := Lib.hid hf
    have HT : Hid (D.took m = D.less m) := Lib.hid (by unfold AD.took; rw [if_pos hf]; rfl)
    have HW : Hid (Calls Tryd.prog 59 #[X.val D.n, .int .i64 ((m : Int) / 32), .int .i64 ((m : Int) % 32), .int .i64 0] w1 (WithP D.n (upd2 (gv D) (m / 32) (m % 32) 0) w1)) := Lib.hid (with_any X D.n (gv D) w1 HX1.out (fun a b ha _ => gv_le HD.out ha b) (m / 32) (m % 32) 0 hi (by omega) (by omega))
    rw [hf]
    clear hf h0 hb hHas
    unfold RG.val at *
    go_wp2_with fail
    refine HW.out.mono ?_
    rintro e w2 ⟨Y, rfl, hy, hk2, hov⟩
    have HOV := Lib.hid (hov.mono HK1.out.size)
    clear hov
    have b1 := hk2.blk HB1'.out id
    have c1' := b1.cell (i := 0) rfl
    have f1' := b1.free 0
    have hyf := hy.congr fun a ha b hb => gv_less HH.out a b hb
    obtain ⟨r1, r2, r3⟩ := rg_result hyf b1 (HK1.out.trans hk2) (Nat.le_succ _) (.slice (some ⟨Y.O, 0, none⟩) D.n Y.cap)
    have R1 := Lib.hid r1
    have R3 := Lib.hid r3
    clear hy hk2 b1 hyf r1 r3
    unfold RG.val
    go_wp2_with fail
    refine bodyPost_ret (v := .tuple #[.agg #[.slice (some ⟨Y.O, 0, none⟩) D.n Y.cap], .int .i64 0]) (by simp [results, Tryd.f28, go_sem, r2]) rfl ⟨Y, by rw [HF.out]; rfl, ?_, R3.out, .inr HOV.out⟩
    rw [HT.out]
    exact R1.out
  · have HT : Hid (D.took x = D) := Lib.hid (by unfold AD.took; rw [if_neg hf])
    obtain ⟨r1, r2, r3⟩ := rg_result HX1.out HB1'.out HK1.out (Nat.le_succ _) (.slice (some ⟨X.O, 0, none⟩) D.n X.cap)
    have R1 := Lib.hid r1
    have R3 := Lib.hid r3
    have hq : (D.find x == 0) = false := by simpa using hf
    obtain ⟨fi, hfi⟩ : ∃ fi, fi = D.find x := ⟨_, rfl⟩
    have HFI := Lib.hid hfi
    rw [if_neg hf]
    rw [← hfi] at hq ⊢
    clear hf r1 r3 hfi
    go_wp2_with fail
    refine bodyPost_ret (v := .tuple #[.agg #[.slice (some ⟨X.O, 0, none⟩) D.n X.cap], .int .i64 fi]) (by simp [results, Tryd.f28, go_sem, r2]) rfl ⟨X, by rw [HFI.out]; rfl, ?_, R3.out, .inl rfl⟩
    rw [HT.out]
    exact R1.out
end Go.Proofs.YthnagihgjenimaaDoor

/- icehouseref11: Give. -/
namespace Go.Proofs.YthnagihgjenimaaDoor
open Go.RowKit
set_option linter.unusedVariables false
set_option linter.unusedSimpArgs false

theorem low_eq {g q : Nat} (hg : g < 4294967296) (hq : q < 32) (h : ∀ b, b < q → bitN g b = 1) (h0 : bitN g q = 0) : low g = q := by
  have h1 := low_le hg h0 hq
  obtain ⟨_, h2, _⟩ := low_spec g hg
  rcases Nat.lt_or_ge (low g) q with h3 | h3
  · have := h _ h3
    have := h2 (by omega)
    omega
  · omega
theorem low_ge {g c : Nat} (hg : g < 4294967296) (hc : c ≤ 32) (h : ∀ b, b < c → bitN g b = 1) : c ≤ low g := by
  obtain ⟨h1, h2, _⟩ := low_spec g hg
  rcases Nat.lt_or_ge (low g) c with h3 | h3
  · have := h _ h3
    have := h2 (by omega)
    omega
  · exact h3
def RGiveP (X : RG) (D : AD) (z : Int) (w : World) (e : Ending) (w' : World) : Prop := ∃ r q D' Y, e = .returned (.tuple #[RG.val Y D.n, .int .i64 r, .int .i64 q]) ∧ RgAt w' Y D.n (gv D') ∧ Keeps (fun _ => False) w w' ∧ (Y = X ∨ Y.Over D.n w.heap.size) ∧
    ((z < 0 ∧ r = 0 ∧ q = 2 ∧ D' = D) ∨ (0 ≤ z ∧ z ≤ 1024 ∧ GiveS D (cls z) r q D') ∨ (1024 < z ∧ r = 0 ∧ q = 3 ∧ D' = D))
/-- Behind q places of the page t, all given; the page is of the class where one was looked at. -/
def InnS (D : AD) (k t q : Nat) : Prop := (∀ b, b < q → bitN (D.g t) b = 1) ∧ (q ≠ 0 → D.g t ≠ 0 ∧ D.c t = k)
set_option maxRecDepth 100000 in
set_option maxHeartbeats 2000000 in
theorem rgive_any (X : RG) (D : AD) (hD : D.Ok) (w : World) (h : RgAt w X D.n (gv D)) (z : Int) : Calls Tryd.prog 29 #[X.val D.n, .int .i64 z] w (RGiveP X D z w) := by
  obtain ⟨hcap, hmx⟩ := h.cap
  have n2 := h.n2
  obtain ⟨b0, b1, hk0⟩ := two_blocks w (.slice (some ⟨X.O, 0, none⟩) D.n X.cap)
  obtain ⟨W0, hW0⟩ : ∃ W0, W0 = (w.alloc (.cells #[.slice (some ⟨X.O, 0, none⟩) D.n X.cap] 40)).alloc (.cells #[.slice none 0 0] 40) := ⟨_, rfl⟩
  rw [← hW0] at b0 b1 hk0
  have HX0 := Lib.hid (h.quiet hk0)
  have HCL := Lib.hid (rclass_any z W0)
  have HD := Lib.hid hD
  have HK0 := Lib.hid hk0
  have HB0 := Lib.hid b0
  have HB1 := Lib.hid b1
  clear hk0 b0 b1 h hD
  unfold maxLen at hmx
  unfold RG.val at *
  go_enter Tryd.func29, Tryd.ntmps29
  go_wp2_with fail
  rw [← hW0]
  clear hW0
  refine HCL.out.mono ?_
  rintro e w1 ⟨c, f, rfl, hcs, hk1⟩
  have b0 := hk1.blk HB0.out id
  have b1 := hk1.blk HB1.out id
  have c0 := b0.cell (i := 0) rfl
  have c1 := b1.cell (i := 0) rfl
  have f1 := b1.free 0
  have HX1 := Lib.hid (HX0.out.quiet hk1)
  have HK1 := Lib.hid (HK0.out.trans hk1)
  have HB0' := Lib.hid b0
  have HB1' := Lib.hid b1
  have hl0 := b0.lt
  have hl1 := b1.lt
  clear hk1 b0 b1
  have hbad : ∀ fe : Int, f = fe → fe ≠ 0 → ((z < 0 ∧ fe = 2) ∨ (1024 < z ∧ fe = 3)) → f ≠ 0 := fun fe a b _ => by omega
  clear hbad
  rcases hcs with ⟨hn, rfl, rfl⟩ | ⟨hn0, hn1, rfl, rfl⟩ | ⟨hn, rfl, rfl⟩
  · obtain ⟨r1, r2, r3⟩ := rg_result HX1.out HB1'.out HK1.out (Nat.le_succ _) (.slice (some ⟨X.O, 0, none⟩) D.n X.cap)
    have R1 := Lib.hid r1
    have R3 := Lib.hid r3
    have HN := Lib.hid hn
    clear r1 r3 hn
    go_wp2_with fail
    exact bodyPost_ret (v := .tuple #[.agg #[.slice (some ⟨X.O, 0, none⟩) D.n X.cap], .int .i64 0, .int .i64 2]) (by simp [results, Tryd.f29, go_sem, r2]) rfl ⟨_, _, D, X, rfl, R1.out, R3.out, .inl rfl, .inl ⟨HN.out, rfl, rfl, rfl⟩⟩
  · have HZ : Hid (0 ≤ z ∧ z ≤ 1024) := Lib.hid ⟨hn0, hn1⟩
    have hk8 := cls_lt z
    obtain ⟨k, hk⟩ : ∃ k, cls z = k := ⟨_, rfl⟩
    have HKE := Lib.hid hk
    rw [hk] at hk8 ⊢
    have hch := chk_le k
    have hcp := chk_pos hk8
    have hsi : sizeI (k : Nat) = szOf k := by unfold sizeI; rw [if_pos (by omega)]; simp
    have hsp : 1 ≤ szOf k := (sz_div k hk8).1
    have hci : chunkI (k : Nat) = chk k := by unfold chunkI; rw [if_pos (by omega)]; simp
    have hqu := chunk_quo (k : Nat)
    rw [hsi, hci] at hqu
    have hqu := hqu (by omega)
    have HSZ := Lib.hid (fun W => rsize_any (k : Nat) W)
    rw [hsi] at HSZ
    have hsl := sz_le k
    obtain ⟨so, hso⟩ : ∃ so, so = szOf k := ⟨_, rfl⟩
    rw [← hso] at hqu HSZ hsp hsl
    have HQ := Lib.hid hqu
    have hsnz : ((so : Int) == 0) = false := by rw [beq_eq_false_iff_ne]; omega
    have hs0 : (0 : Int) < so := by omega
    have HOF := Lib.hid (fun i (hi : i < D.n) W (hW : Keeps (fun _ => False) w1 W) => of_any X D HD.out W (HX1.out.quiet hW) i hi)
    clear hk hsi hci hqu hso hn0 hn1
    unfold RG.val at *
    go_wp2_with fail
    go_loopw [9] (fun i wr => ∃ t : Nat, t ≤ D.n ∧ i = .int .i64 t ∧ (∀ j, j < t → ¬ D.hit k j) ∧ Keeps (fun _ => False) w1 wr) (fun i _ => D.n - (intOf i).toNat)
    case atStart => exact ⟨0, Nat.zero_le _, rfl, fun j hj => absurd hj (Nat.not_lt_zero _), Keeps.refl _ _⟩
    case round =>
      obtain ⟨t, ht, rfl, hnh, hkr⟩ := hrel
      have HNH := Lib.hid hnh
      have HKR := Lib.hid hkr
      have z0 := (hkr.cell (p := ⟨w.heap.size, 0, none⟩) hl0 id).trans c0
      have hsr := hkr.size
      clear hnh hkr
      by_cases hlt : t < D.n
      · go_wp2_with fail
        go_loopw [10] (fun b wr => ∃ q : Nat, q ≤ chk k ∧ b = .int .i64 q ∧ InnS D k t q ∧ Keeps (fun _ => False) w1 wr) (fun b _ => chk k - (intOf b).toNat)
        case atStart => exact ⟨0, Nat.zero_le _, rfl, ⟨fun b hb => absurd hb (Nat.not_lt_zero _), fun h => absurd rfl h⟩, HKR.out⟩
        case round =>
          obtain ⟨q, hq, rfl, hin, hkr2⟩ := hrel
          have HIN := Lib.hid hin
          have HKR2 := Lib.hid hkr2
          have z0 := (hkr2.cell (p := ⟨w.heap.size, 0, none⟩) hl0 id).trans c0
          have hsr := hkr2.size
          clear hin hkr2
          go_wp2_with fail
          refine (HSZ.out _).mono ?_
          rintro e w3 ⟨rfl, hk3⟩
          have HK3 := Lib.hid (HKR2.out.trans hk3)
          have z3 := (hk3.cell (p := ⟨w.heap.size, 0, none⟩) (by show w.heap.size < _; omega) id).trans z0
          have hs3 := hk3.size
          clear hk3
          by_cases hqc : q < chk k
          · have hqd : decide ((q : Int) < (1024 : Int) / (so : Int)) = true := by rw [HQ.out]; simp; omega
            have HQC := Lib.hid hqc
            have hq32 : q < 32 := by omega
            have hof : D.of t = (k : Nat) ∨ D.of t ≠ (k : Nat) := by omega
            rcases hof with hof | hof
            · have hpg : D.g t ≠ 0 ∧ D.c t = k := by
                unfold AD.of at hof
                by_cases e : D.g t = 0
                · rw [if_pos e] at hof; omega
                · rw [if_neg e] at hof; exact ⟨e, by omega⟩
              have HPG := Lib.hid hpg
              have HOT := Lib.hid (HOF.out t hlt _ HK3.out)
              rw [hof] at HOT
              obtain ⟨y0, y1⟩ := (HX1.out.quiet HK3.out).cells t hlt
              have y2 := y1 q (by omega)
              have hOl := (HX1.out.quiet HK3.out).ltO
              have hRl := (HX1.out.quiet HK3.out).ltR hlt
              have hg8 := gv_le HD.out hlt q
              clear hof hpg y1 hqc
              unfold rowv at *
              go_wp2_with fail
              refine HOT.out.mono ?_
              rintro e w4 ⟨rfl, hk4⟩
              have z4 := (hk4.cell (p := ⟨w.heap.size, 0, none⟩) (by show w.heap.size < _; omega) id).trans z3
              have x0 := (hk4.cell (p := ⟨X.O, t, none⟩) hOl id).trans y0
              have x2 := (hk4.cell (p := ⟨X.R t, q, none⟩) hRl id).trans y2
              have HK4 := Lib.hid (HK3.out.trans hk4)
              clear hk4 y0 y2
              have hbl := bitN_le (D.g t) q
              by_cases hb : bitN (D.g t) q = 1
              · have HB := Lib.hid hb
                rw [gv_pos hb] at x2 hg8
                have hnz : (((D.c t + 1 : Nat) : Int) == 0) = false := by rw [beq_eq_false_iff_ne]; omega
                have hnz2 : (((D.c t : Nat) : Int) + 1 == 0) = false := by rw [beq_eq_false_iff_ne]; omega
                clear hb hbl
                go_wp2_with fail
                go_roundw
                case rel => exact ⟨q + 1, by have := HQC.out; omega, by go_num, ⟨fun b hb => by
                  by_cases e : b = q
                  · subst e; exact HB.out
                  · exact HIN.out.1 b (by omega), fun _ => HPG.out⟩, HK4.out⟩
                case measure => simp [intOf]; have := HQC.out; omega
              · have hb0 : bitN (D.g t) q = 0 := by omega
                have HLO := Lib.hid (low_eq (HD.out.g32 hlt) hq32 HIN.out.1 hb0)
                have HB := Lib.hid hb0
                rw [gv_zero hb] at x2 hg8
                have HW : Hid (Calls Tryd.prog 59 #[X.val D.n, .int .i64 (t : Nat), .int .i64 (q : Nat), .int .i64 ((k : Int) + 1)] w4 (WithP D.n (upd2 (gv D) t q (D.c t + 1)) w4)) := Lib.hid (by
                  have := with_any X D.n (gv D) w4 (HX1.out.quiet HK4.out) (fun a b ha _ => gv_le HD.out ha b) t q (D.c t + 1) hlt hq32 (by have := HPG.out.2; omega)
                  rw [HPG.out.2] at this ⊢
                  exact this)
                have b1w := HK4.out.blk HB1'.out id
                have B1W := Lib.hid b1w
                clear hb hbl hb0 b1w
                unfold RG.val at *
                go_wp2_with fail
                refine HW.out.mono ?_
                rintro e w5 ⟨Y, rfl, hy, hk5, hov⟩
                have HOV := Lib.hid (hov.mono (HK1.out.trans HK4.out).size)
                clear hov
                have b1' := hk5.blk B1W.out id
                have d1 := b1'.cell (i := 0) rfl
                have e1 := b1'.free 0
                have hyf := hy.congr fun a ha b _ => gv_hit HB.out a b
                obtain ⟨r1, r2, r3⟩ := rg_result hyf b1' ((HK1.out.trans HK4.out).trans hk5) (Nat.le_succ _) (.slice (some ⟨Y.O, 0, none⟩) D.n Y.cap)
                have R1 := Lib.hid r1
                have R3 := Lib.hid r3
                clear hy hk5 b1' hyf r1 r3
                unfold RG.val
                go_wp2_with fail
                refine bodyPost_ret (v := .tuple #[.agg #[.slice (some ⟨Y.O, 0, none⟩) D.n Y.cap], .int .i64 (32 * (t : Int) + q), .int .i64 0]) (by simp [results, Tryd.f29, go_sem, r2]) rfl ⟨_, _, { D with g := updN D.g t (D.g t + 2 ^ q) }, Y, rfl, R1.out, R3.out, .inr HOV.out, .inr (.inl ⟨HZ.out.1, HZ.out.2, ?_⟩)⟩
                have hh : D.hit k t := ⟨HPG.out.1, HPG.out.2, by rw [HLO.out]; exact HQC.out⟩
                have := GiveS.hit (D := D) (k := k) t hlt hh HNH.out
                rw [HLO.out] at this
                rw [HKE.out, show (32 * (t : Int) + q) = ((t * 32 + q : Nat) : Int) by omega]
                exact this
            · have HOT := Lib.hid (HOF.out t hlt _ HK3.out)
              have hofb : (D.of t == (k : Int)) = false := by simpa using hof
              have HNT : Hid (∀ j, j < t + 1 → ¬ D.hit k j) := Lib.hid (hit_next HNH.out (fun hh => by
                unfold AD.of at hof
                rw [if_neg hh.1, hh.2.1] at hof
                exact hof rfl))
              generalize D.of t = oft at *
              clear hof hqc
              go_wp2_with fail
              refine HOT.out.mono ?_
              rintro e w4 ⟨rfl, hk4⟩
              have HK4 := Lib.hid (HK3.out.trans hk4)
              clear hk4
              go_wp2_with fail
              go_roundw
              case rel => exact ⟨t + 1, by omega, by go_num, HNT.out, HK4.out⟩
              case measure => simp [intOf]; omega
          · have hqd : decide ((q : Int) < (1024 : Int) / (so : Int)) = false := by rw [HQ.out]; simp; omega
            obtain rfl : q = chk k := by omega
            have HNT : Hid (∀ j, j < t + 1 → ¬ D.hit k j) := Lib.hid (hit_next HNH.out (fun hh => by have := low_ge (HD.out.g32 hlt) hch HIN.out.1; have := hh.2.2; omega))
            clear hqc
            go_wp2_with fail
            go_roundw
            case rel => exact ⟨t + 1, by omega, by go_num, HNT.out, HK3.out⟩
            case measure => simp [intOf]; omega
      · obtain rfl : t = D.n := by omega
        go_wp2_with fail
        go_loopw [11] (fun i wr => ∃ t : Nat, t ≤ D.n ∧ i = .int .i64 t ∧ (∀ j, j < t → D.g j ≠ 0) ∧ Keeps (fun _ => False) w1 wr) (fun i _ => D.n - (intOf i).toNat)
        case atStart => exact ⟨0, Nat.zero_le _, rfl, fun j hj => absurd hj (Nat.not_lt_zero _), HKR.out⟩
        case round =>
          obtain ⟨t, ht, rfl, hnz, hkr2⟩ := hrel
          have HNZ := Lib.hid hnz
          have HKR2 := Lib.hid hkr2
          have z0 := (hkr2.cell (p := ⟨w.heap.size, 0, none⟩) hl0 id).trans c0
          have hsr := hkr2.size
          have hw2 := hkr2.blk HB1'.out id
          have d1 := hw2.cell (i := 0) rfl
          have e1 := hw2.free 0
          have B1W := Lib.hid hw2
          clear hnz hkr2 hw2
          by_cases hlt : t < D.n
          · have HOT := Lib.hid (HOF.out t hlt _ HKR2.out)
            by_cases hg0 : D.g t = 0
            · have hof : D.of t = -1 := by unfold AD.of; rw [if_pos hg0]
              rw [hof] at HOT
              have HG0 := Lib.hid hg0
              clear hof hg0
              go_wp2_with fail
              refine HOT.out.mono ?_
              rintro e w4 ⟨rfl, hk4⟩
              have HK4 := Lib.hid (HKR2.out.trans hk4)
              have HW : Hid (Calls Tryd.prog 59 #[X.val D.n, .int .i64 (t : Nat), .int .i64 0, .int .i64 ((k : Int) + 1)] w4 (WithP D.n (upd2 (gv D) t 0 (k + 1)) w4)) := Lib.hid
                (with_any X D.n (gv D) w4 (HX1.out.quiet HK4.out) (fun a b ha _ => gv_le HD.out ha b) t 0 (k + 1) hlt (by omega) (by omega))
              have b1w := HK4.out.blk HB1'.out id
              have z4 := (hk4.cell (p := ⟨w.heap.size, 0, none⟩) (by show w.heap.size < _; omega) id).trans z0
              have B1W := Lib.hid b1w
              clear hk4 b1w d1 e1
              unfold RG.val at *
              go_wp2_with fail
              refine HW.out.mono ?_
              rintro e w5 ⟨Y, rfl, hy, hk5, hov⟩
              have HOV := Lib.hid (hov.mono (HK1.out.trans HK4.out).size)
              clear hov
              have b1' := hk5.blk B1W.out id
              have d1 := b1'.cell (i := 0) rfl
              have e1 := b1'.free 0
              have hyf := hy.congr fun a ha b _ => gv_page HG0.out a b
              obtain ⟨r1, r2, r3⟩ := rg_result hyf b1' ((HK1.out.trans HK4.out).trans hk5) (Nat.le_succ _) (.slice (some ⟨Y.O, 0, none⟩) D.n Y.cap)
              have R1 := Lib.hid r1
              have R3 := Lib.hid r3
              clear hy hk5 b1' hyf r1 r3
              unfold RG.val
              go_wp2_with fail
              refine bodyPost_ret (v := .tuple #[.agg #[.slice (some ⟨Y.O, 0, none⟩) D.n Y.cap], .int .i64 (32 * (t : Int)), .int .i64 0]) (by simp [results, Tryd.f29, go_sem, r2]) rfl ⟨_, _, { D with c := updN D.c t k, g := updN D.g t 1 }, Y, rfl, R1.out, R3.out, .inr HOV.out, .inr (.inl ⟨HZ.out.1, HZ.out.2, ?_⟩)⟩
              have := GiveS.page (D := D) (k := k) HNH.out t hlt HG0.out HNZ.out
              rw [HKE.out, show (32 * (t : Int)) = ((t * 32 : Nat) : Int) by omega]
              exact this
            · have hof : D.of t = (D.c t : Nat) := by unfold AD.of; rw [if_neg hg0]
              rw [hof] at HOT
              have hdl : decide (((D.c t : Nat) : Int) < 0) = false := by simp
              have HNX : Hid (∀ j, j < t + 1 → D.g j ≠ 0) := Lib.hid (fun j hj => by
                by_cases e : j = t
                · subst e; exact hg0
                · exact HNZ.out j (by omega))
              clear hof hg0
              go_wp2_with fail
              refine HOT.out.mono ?_
              rintro e w4 ⟨rfl, hk4⟩
              have HK4 := Lib.hid (HKR2.out.trans hk4)
              clear hk4
              go_wp2_with fail
              go_roundw
              case rel => exact ⟨t + 1, by omega, by go_num, HNX.out, HK4.out⟩
              case measure => simp [intOf]; omega
          · obtain rfl : t = D.n := by omega
            obtain ⟨r1, r2, r3⟩ := rg_result (HX1.out.quiet HKR2.out) B1W.out (HK1.out.trans HKR2.out) (Nat.le_succ _) (.slice (some ⟨X.O, 0, none⟩) D.n X.cap)
            have R1 := Lib.hid r1
            have R3 := Lib.hid r3
            clear r1 r3
            go_wp2_with fail
            exact bodyPost_ret (v := .tuple #[.agg #[.slice (some ⟨X.O, 0, none⟩) D.n X.cap], .int .i64 0, .int .i64 6]) (by simp [results, Tryd.f29, go_sem, r2]) rfl ⟨_, _, D, X, rfl, R1.out, R3.out, .inl rfl, .inr (.inl ⟨HZ.out.1, HZ.out.2, by rw [HKE.out]; exact .full HNH.out HNZ.out⟩)⟩
  · obtain ⟨r1, r2, r3⟩ := rg_result HX1.out HB1'.out HK1.out (Nat.le_succ _) (.slice (some ⟨X.O, 0, none⟩) D.n X.cap)
    have R1 := Lib.hid r1
    have R3 := Lib.hid r3
    have HN := Lib.hid hn
    clear r1 r3 hn
    go_wp2_with fail
    exact bodyPost_ret (v := .tuple #[.agg #[.slice (some ⟨X.O, 0, none⟩) D.n X.cap], .int .i64 0, .int .i64 3]) (by simp [results, Tryd.f29, go_sem, r2]) rfl ⟨_, _, D, X, rfl, R1.out, R3.out, .inl rfl, .inr (.inr ⟨HN.out, rfl, rfl, rfl⟩)⟩
end Go.Proofs.YthnagihgjenimaaDoor

/- icehouseref11: Count. -/
namespace Go.Proofs.YthnagihgjenimaaDoor
open Go.RowKit
set_option linter.unusedVariables false
set_option linter.unusedSimpArgs false

def bcnt (g q : Nat) : Nat := cnt (fun b => bitN g b == 1) q
theorem cnt_shift (p : Nat → Bool) : ∀ n, cnt p (n + 1) = (if p 0 then 1 else 0) + cnt (fun i => p (i + 1)) n
  | 0 => by simp [cnt]
  | n + 1 => by
    have h := cnt_shift p n
    have e1 : cnt p (n + 1 + 1) = cnt p (n + 1) + if p (n + 1) then 1 else 0 := rfl
    have e2 : cnt (fun i => p (i + 1)) (n + 1) = cnt (fun i => p (i + 1)) n + if p (n + 1) then 1 else 0 := rfl
    omega
theorem bcnt_pop : ∀ f g, bcnt g f = Lib.popAux f g
  | 0, _ => rfl
  | f + 1, g => by
    have h := bcnt_pop f (g / 2)
    unfold bcnt at *
    rw [cnt_shift, Lib.popAux, ← h]
    congr 1
    · have h2 : bitN g 0 = g % 2 := by simp [bitN]
      rw [h2]
      have := Nat.mod_two_eq_zero_or_one g
      rcases this with e | e <;> simp [e]
    · congr 1
      funext b
      rw [bit_half]
theorem bcnt_pc {g : Nat} (hg : g < 4294967296) : bcnt g 32 = pc g := by
  rw [bcnt_pop, pc_of 32 g (by omega) (by omega)]
theorem bcnt_le (g q : Nat) : bcnt g q ≤ q := cnt_le _ _
theorem bcnt_on {g q : Nat} (h : bitN g q = 1) : bcnt g (q + 1) = bcnt g q + 1 := by
  show cnt _ q + (if bitN g q == 1 then 1 else 0) = _
  rw [h]
  rfl
theorem bcnt_off {g q : Nat} (h : ¬ bitN g q = 1) : bcnt g (q + 1) = bcnt g q := by
  show cnt _ q + (if bitN g q == 1 then 1 else 0) = _
  rw [if_neg (by simpa using h)]
  rfl
/-- Of the first t pages: how many are of the class x; how many chunks of them are given. -/
def AD.rn (D : AD) (x : Int) (t : Nat) : Nat := cnt (fun i => decide (D.of i = x)) t
def AD.rk (D : AD) (x : Int) (t : Nat) : Nat := sumN (fun i => if D.of i = x then pc (D.g i) else 0) t
theorem rn_yes {D : AD} {x : Int} {t : Nat} (h : D.of t = x) : D.rn x (t + 1) = D.rn x t + 1 := by simp [AD.rn, cnt, h]
theorem rn_no {D : AD} {x : Int} {t : Nat} (h : ¬ D.of t = x) : D.rn x (t + 1) = D.rn x t := by simp [AD.rn, cnt, h]
theorem rk_yes {D : AD} {x : Int} {t : Nat} (h : D.of t = x) : D.rk x (t + 1) = D.rk x t + pc (D.g t) := by simp [AD.rk, sumN, h]
theorem rk_no {D : AD} {x : Int} {t : Nat} (h : ¬ D.of t = x) : D.rk x (t + 1) = D.rk x t := by simp [AD.rk, sumN, h]
theorem rk_le {D : AD} (hD : D.Ok) (x : Int) : ∀ t, t ≤ D.n → D.rk x t ≤ 32 * t
  | 0, _ => by simp [AD.rk, sumN]
  | t + 1, h => by
    have h1 := rk_le hD x t (by omega)
    by_cases e : D.of t = x
    · rw [rk_yes e]
      have := pc_le _ (hD.g32 (i := t) (by omega))
      omega
    · rw [rk_no e]
      omega
theorem cnt_congr {p p' : Nat → Bool} : ∀ n, (∀ i, i < n → p i = p' i) → cnt p n = cnt p' n
  | 0, _ => rfl
  | n + 1, h => by simp only [cnt]; rw [cnt_congr n (fun i hi => h i (by omega)), h n (by omega)]
theorem rn_free (D : AD) : D.rn (-1) D.n = D.free := cnt_congr _ fun i _ => by
  unfold AD.of
  by_cases e : D.g i = 0
  · simp [e]
  · simp [e]
theorem rn_pages (D : AD) (k : Nat) : D.rn (k : Nat) D.n = D.pages (k : Nat) := cnt_congr _ fun i _ => by
  unfold AD.of isOf
  by_cases e : D.g i = 0
  · simp [e]
  · simp [e]
theorem rk_used (D : AD) (k : Nat) : D.rk (k : Nat) D.n = D.used (k : Nat) := by
  rw [used_eq]
  refine sumN_congr _ fun i _ => ?_
  unfold useN AD.of isOf
  by_cases e : D.g i = 0
  · simp [e]
  · by_cases e2 : (D.c i : Int) = (k : Nat)
    · simp [e, e2]
    · simp [e, e2]
set_option maxRecDepth 100000 in
set_option maxHeartbeats 2000000 in
theorem rcount_any (X : RG) (D : AD) (hD : D.Ok) (w : World) (h : RgAt w X D.n (gv D)) (x : Int) : Calls Tryd.prog 30 #[X.val D.n, .int .i64 x] w (TwoP (D.rn x D.n) (D.rk x D.n) w) := by
  obtain ⟨hcap, hmx⟩ := h.cap
  have n2 := h.n2
  have b0 := Blk.new w 40 [.slice (some ⟨X.O, 0, none⟩) D.n X.cap]
  have hk0 : Keeps (fun _ => False) w (w.alloc (.cells [Value.slice (some ⟨X.O, 0, none⟩) D.n X.cap].toArray 40)) := (Keeps.refl _ _).alloc _
  obtain ⟨w1, hw1⟩ : ∃ w1, w1 = w.alloc (.cells [Value.slice (some ⟨X.O, 0, none⟩) D.n X.cap].toArray 40) := ⟨_, rfl⟩
  rw [← hw1] at b0 hk0
  have HX1 := Lib.hid (h.quiet hk0)
  have c0 := b0.cell (i := 0) rfl
  have hl0 := b0.lt
  have HK0 := Lib.hid hk0
  have HD := Lib.hid hD
  have HOF := Lib.hid (fun i (hi : i < D.n) W (hW : Keeps (fun _ => False) w1 W) => of_any X D HD.out W (HX1.out.quiet hW) i hi)
  have HRK := Lib.hid (rk_le hD x)
  clear hk0 b0 h hD
  unfold maxLen at hmx
  unfold RG.val at *
  go_enter Tryd.func30, Tryd.ntmps30
  go_wp2
  rw [← hw1]
  clear hw1
  go_loopw [6, 7, 8] (fun a b i wr => ∃ t : Nat, t ≤ D.n ∧ i = .int .i64 t ∧ a = .int .i64 (D.rn x t : Nat) ∧ b = .int .i64 (D.rk x t : Nat) ∧ Keeps (fun _ => False) w1 wr) (fun _ _ i _ => D.n - (intOf i).toNat)
  case atStart => exact ⟨0, Nat.zero_le _, rfl, rfl, rfl, Keeps.refl _ _⟩
  case round =>
    obtain ⟨t, ht, rfl, rfl, rfl, hkr⟩ := hrel
    have HKR := Lib.hid hkr
    have z0 := (hkr.cell (p := ⟨w.heap.size, 0, none⟩) hl0 id).trans c0
    have hsr := hkr.size
    have hrn : D.rn x t ≤ t := cnt_le _ _
    have hrk := HRK.out t ht
    clear hkr
    by_cases hlt : t < D.n
    · have HOT := Lib.hid (HOF.out t hlt _ HKR.out)
      by_cases hof : D.of t = x
      · have HN := Lib.hid (rn_yes hof)
        have HK := Lib.hid (rk_yes hof)
        rw [hof] at HOT
        have hpc := pc_le _ (HD.out.g32 hlt)
        obtain ⟨a, ha⟩ : ∃ a, a = D.rn x t := ⟨_, rfl⟩
        obtain ⟨b, hb⟩ : ∃ b, b = D.rk x t := ⟨_, rfl⟩
        obtain ⟨pp, hpp⟩ : ∃ pp, pp = pc (D.g t) := ⟨_, rfl⟩
        rw [← ha] at hrn HN ⊢
        rw [← hb] at hrk HK ⊢
        rw [← hpp] at hpc HK
        have HPP := Lib.hid hpp
        clear hof ha hb hpp
        go_wp2_with fail
        refine HOT.out.mono ?_
        rintro e w4 ⟨rfl, hk4⟩
        have HK4 := Lib.hid (HKR.out.trans hk4)
        have z4 := (hk4.cell (p := ⟨w.heap.size, 0, none⟩) (by show w.heap.size < _; omega) id).trans z0
        obtain ⟨y0, y1⟩ := (HX1.out.quiet HK4.out).cells t hlt
        have HY1 := Lib.hid y1
        clear hk4 y1
        unfold rowv at *
        go_wp2_with fail
        go_loopw [7, 9] (fun b' j wr => ∃ q : Nat, q ≤ 32 ∧ j = .int .i64 q ∧ (∃ v : Nat, v = bcnt (D.g t) q ∧ b' = .int .i64 ((b : Int) + v)) ∧ w4 = wr) (fun _ j _ => 32 - (intOf j).toNat)
        case atStart => exact ⟨0, Nat.zero_le _, rfl, ⟨0, rfl, by go_num⟩, rfl⟩
        case round =>
          obtain ⟨q, hq, rfl, ⟨v, hv, rfl⟩, rfl⟩ := hrel
          have hbq := bcnt_le (D.g t) q
          rw [← hv] at hbq
          by_cases hlt2 : q < 32
          · have y2 := HY1.out q hlt2
            have hg8 := gv_le HD.out hlt q
            by_cases hbt : bitN (D.g t) q = 1
            · rw [gv_pos hbt] at y2 hg8
              have hgt : decide ((0 : Int) < ((D.c t + 1 : Nat) : Int)) = true := by rw [decide_eq_true_iff]; omega
              have HB : Hid (v + 1 = bcnt (D.g t) (q + 1)) := Lib.hid (by rw [bcnt_on hbt, hv])
              clear hbt hv
              go_wp2_with fail
              go_roundw
              case rel => exact ⟨q + 1, by omega, by go_num, ⟨v + 1, HB.out, by go_num⟩, trivial⟩
              case measure => simp [intOf]; omega
            · rw [gv_zero hbt] at y2 hg8
              have HB : Hid (v = bcnt (D.g t) (q + 1)) := Lib.hid (by rw [bcnt_off hbt, hv])
              clear hbt hv
              go_wp2_with fail
              go_roundw
              case rel => exact ⟨q + 1, by omega, by go_num, ⟨v, HB.out, by go_num⟩, trivial⟩
              case measure => simp [intOf]; omega
          · obtain rfl : q = 32 := by omega
            have HB : Hid (v = pp) := Lib.hid (by rw [hv, bcnt_pc (HD.out.g32 hlt), HPP.out])
            clear hv
            go_wp2_with fail
            go_roundw
            case rel => exact ⟨t + 1, by omega, by go_num, by rw [HN.out]; go_num, by rw [HK.out, ← HB.out]; go_num, HK4.out⟩
            case measure => simp [intOf]; omega
      · have HN := Lib.hid (rn_no hof)
        have HK := Lib.hid (rk_no hof)
        have hofb : (D.of t == x) = false := by simpa using hof
        obtain ⟨a, ha⟩ : ∃ a, a = D.rn x t := ⟨_, rfl⟩
        obtain ⟨b, hb⟩ : ∃ b, b = D.rk x t := ⟨_, rfl⟩
        rw [← ha] at hrn HN ⊢
        rw [← hb] at hrk HK ⊢
        generalize D.of t = oft at *
        clear hof ha hb
        go_wp2_with fail
        refine HOT.out.mono ?_
        rintro e w4 ⟨rfl, hk4⟩
        have HK4 := Lib.hid (HKR.out.trans hk4)
        clear hk4
        go_wp2_with fail
        go_roundw
        case rel => exact ⟨t + 1, by omega, by go_num, by rw [HN.out], by rw [HK.out], HK4.out⟩
        case measure => simp [intOf]; omega
    · obtain rfl : t = D.n := by omega
      obtain ⟨a, ha⟩ : ∃ a, a = D.rn x D.n := ⟨_, rfl⟩
      obtain ⟨b, hb⟩ : ∃ b, b = D.rk x D.n := ⟨_, rfl⟩
      rw [← ha, ← hb]
      have HA := Lib.hid ha
      have HB := Lib.hid hb
      clear ha hb
      go_wp2_with fail
      go_ret2
      exact ⟨by rw [← HA.out, ← HB.out]; rfl, HK0.out.trans HKR.out⟩
end Go.Proofs.YthnagihgjenimaaDoor
