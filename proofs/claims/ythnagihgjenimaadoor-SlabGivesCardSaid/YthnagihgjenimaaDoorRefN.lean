/- icehouseref11: New. -/
import Derived.Test.YthnagihgjenimaaDoorRef
import Derived.Deep.RegionLaw
namespace Go.Proofs.YthnagihgjenimaaDoor
open Go.RowKit
set_option linter.unusedVariables false
set_option linter.unusedSimpArgs false

/-- append onto a row of the call's own, as a step of a region. -/
theorem step_own {P : Program} {w : World} {ops : Array Oper} {o : Oper} {a : Act} {K : Act → World → Prop} {Q : Exit → Act → World → Prop} {E : Prop} (hgd : o.guard = none) (s x : Operand) (t : TypeId)
    (ho : o.op = .call { callee := .builtin .append, args := #[s, x], argTypes := #[t, t] })
    (base : Nat) (e : TypeId) (i : TypeInfo) (z : Value) (size bytes : Nat) (ht : P.underlying t = some (.slice e)) (hi : P.info? e = some i) (hz : i.zero = some z)
    (hsize : i.size = size) (hby : i.bytes = bytes) (hzs : z.cells.size = size) (hsz : 0 < size)
    (v : Value) (n : Nat) (xs : List Value) (hs : a.eval s = v) (hown : w.ownsRow base e size v n xs)
    (ad : Addr) (m c : Nat) (news : List Value) (hx : a.eval x = .slice (some ad) m c) (hl : news.length = m * size) (hnews : ∀ j u, news[j]? = some u → w.cell? (ad.add j) = some u) (h1 : ∀ u ∈ news, u.oneCell' = true)
    (h63 : n + m ≤ maxLen) (hbytes : (n + m) * bytes ≤ 140737488355328) (hbase : base ≤ w.heap.size)
    (h : ∀ v' w', w'.ownsRow base e size v' (n + m) (xs ++ news) → w.grownBy w' v.ownBlock → K (a.put o.dst v') w') :
    if Region.wanted o (yielded ops a.tmps) = true then Oper.wp P o a w K Q else E := by
  have hw : Region.wanted o (yielded ops a.tmps) = true := by simp [Region.wanted, hgd]
  rw [if_pos hw]
  exact wp_append_own w s x t ho base e i z size bytes ht hi hz hsize hby hzs hsz v n xs hs hown ad m c news hx hl hnews h1 h63 hbytes hbase fun v' w' a b _ => h v' w' a b
theorem info28 : (Tryd.prog.info? 28).map (fun i => (i.zero, i.size, i.bytes)) = some (some (.slice none 0 0), 1, 24) := by kernel_rfl
theorem made32 : madeCells #[Value.int .i64 0] (32 * 1) = (gcs (fun _ => 0)).toArray := by
  apply Array.ext
  · simp [madeCells, gcs]
  · intro j h1 h2
    simp [madeCells, gcs, Nat.mod_one]
theorem make32 (w : World) : (Instr.makeSlice 28 (.int .i64 32) (.int .i64 32)).run Tryd.prog w = .ok (rowv w.heap.size) (w.alloc (.cells (gcs (fun _ => 0)).toArray 3)) := by
  obtain ⟨i0, hi1, hz0, hz1, hz2⟩ := info_parts info3'
  have h := run_make (P := Tryd.prog) w 28 3 i0 (.int .i64 0) Tryd.underlying28 hi1 hz0 .i64 .i64 32 32 (by omega) (Int.le_refl _) (by rw [hz2]; omega) (by omega)
  rw [hz1] at h
  have e : (Value.int .i64 0).cells = #[Value.int .i64 0] := rfl
  rw [e] at h
  have e2 : (32 : Int).toNat = 32 := rfl
  rw [e2, made32] at h
  exact h
theorem avoids {w : World} {B t e base size n : Nat} {cs xs : List Value} {v : Value} (h : Blk w B t cs) (ho : w.ownsRow base e size v n xs) (hne : e ≠ t) : ∀ g, v.ownBlock = some g → g ≠ B := by
  intro g hg e'
  subst e'
  exact own_ne_blk h ho hne hg
def nrows (R : Nat → Nat) (t : Nat) : List Value := (List.range t).map fun i => rowv (R i)
theorem nrows_snoc (R : Nat → Nat) (t g : Nat) : nrows R t ++ [rowv g] = nrows (updN R t g) (t + 1) := by
  unfold nrows
  rw [List.range_succ, List.map_append, List.map_singleton, updN_same]
  congr 1
  apply List.map_congr_left
  intro i hi
  have := List.mem_range.1 hi
  rw [updN_ne _ _ _ (by omega)]
/-- Behind t rows. -/
structure NwS (W0 : World) (A B0 t : Nat) (sv : Value) (R : Nat → Nat) (wr : World) : Prop where
  out : wr.ownsRow W0.heap.size 28 1 sv t (nrows R t)
  row : ∀ i, i < t → Blk wr (R i) 3 (gcs (fun _ => 0)) ∧ W0.heap.size ≤ R i
  inj : ∀ i j, i < t → j < t → R i = R j → i = j
  box : Blk wr A 40 [sv]
  res : Blk wr B0 40 [.slice none 0 0]
  keeps : Keeps (fun k => k = A ∨ W0.heap.size ≤ k) W0 wr
theorem NwS.drew {W0 wr : World} {A B0 t : Nat} {sv : Value} {R : Nat → Nat} (h : NwS W0 A B0 t sv R wr) : NwS W0 A B0 t sv R wr.drew := ⟨h.out, h.row, h.inj, h.box, h.res, h.keeps.drew⟩
theorem nws_step {W0 wr w3 : World} {A B0 t : Nat} {sv v' : Value} {R : Nat → Nat} (h : NwS W0 A B0 t sv R wr) (hA : A < W0.heap.size) (hAB : A ≠ B0)
    (ho : w3.ownsRow W0.heap.size 28 1 v' (t + 1) (nrows R t ++ [rowv wr.heap.size])) (hg : ((wr.alloc (.cells (gcs (fun _ => 0)).toArray 3)).alloc (.cells #[rowv wr.heap.size] 28)).grownBy w3 sv.ownBlock) :
    NwS W0 A B0 (t + 1) v' (updN R t wr.heap.size) (w3.setCell ⟨A, 0, none⟩ v') := by
  have hsz := h.keeps.size
  have k1 : Keeps (fun k => some k = sv.ownBlock) wr w3 := (((Keeps.refl _ wr).alloc _).alloc _).trans ((Keeps.of_grown hg).mono fun k _ e => e.symm)
  have av := fun {B : Nat} {t' : Nat} {cs : List Value} (hb : Blk wr B t' cs) (hne : 28 ≠ t') => avoids hb h.out hne
  have k2 : Keeps (fun k => k = A) w3 (w3.setCell ⟨A, 0, none⟩ v') := (Keeps.refl (fun k => k = A) w3).store (p := ⟨A, 0, none⟩) (.inl rfl) _
  have box3 : Blk w3 A 40 [sv] := k1.blk h.box fun e => av h.box (by decide) A e.symm rfl
  have hnew : Blk w3 wr.heap.size 3 (gcs (fun _ => 0)) := by
    have b0 : Blk ((wr.alloc (.cells (gcs (fun _ => 0)).toArray 3)).alloc (.cells #[rowv wr.heap.size] 28)) wr.heap.size 3 (gcs (fun _ => 0)) := (Blk.new wr 3 (gcs (fun _ => 0))).alloc _
    refine (Keeps.of_grown hg).blk b0 fun e => ?_
    have := (own_heap h.out e).2.1
    omega
  have hne : ∀ i, i < t → R i ≠ wr.heap.size := fun i hi e => by have := (h.row i hi).1.lt; omega
  refine ⟨?_, fun i hi => ?_, fun i j hi hj => ?_, ?_, ?_, (h.keeps.trans (k1.mono fun k hk e => .inr (own_heap h.out e.symm).1)).trans (k2.mono fun k _ e => .inl e)⟩
  · rw [← nrows_snoc]
    exact k2.own ho fun g hg e => avoids box3 ho (by decide) g hg e
  · by_cases e : i = t
    · subst e
      rw [updN_same]
      refine ⟨k2.blk hnew fun e => ?_, hsz⟩
      have e : wr.heap.size = A := e
      have := h.box.lt
      omega
    · rw [updN_ne _ _ _ e]
      obtain ⟨b1, b2⟩ := h.row i (by omega)
      refine ⟨k2.blk (k1.blk b1 fun e => av b1 (by decide) _ e.symm rfl) fun e => ?_, b2⟩
      have e : R i = A := e
      omega
  · by_cases e1 : i = t
    · by_cases e2 : j = t
      · intro _; omega
      · subst e1
        rw [updN_same, updN_ne _ _ _ e2]
        exact fun e => absurd e.symm (hne j (by omega))
    · by_cases e2 : j = t
      · subst e2
        rw [updN_same, updN_ne _ _ _ e1]
        exact fun e => absurd e (hne i (by omega))
      · rw [updN_ne _ _ _ e1, updN_ne _ _ _ e2]
        exact h.inj i j (by omega) (by omega)
  · exact box3.store 0 v'
  · refine k2.blk (k1.blk h.res fun e => av h.res (by decide) B0 e.symm rfl) fun e => hAB e.symm
theorem own_form {w : World} {base size n : Nat} {e : TypeId} {v : Value} {xs : List Value} (h : w.ownsRow base e size v n xs) (hn : 1 ≤ n) : ∃ g cap, v = .slice (some ⟨g, 0, none⟩) n cap := by
  rcases h.2 with ⟨_, h⟩ | ⟨g, cap, cur, rfl, _⟩
  · omega
  · exact ⟨g, cap, rfl⟩
theorem new_cells (W : World) (e : TypeId) (cs : List Value) {j : Nat} {u : Value} (hu : cs[j]? = some u) : (W.alloc (.cells cs.toArray e)).cell? ((⟨W.heap.size, 0, none⟩ : Addr).add j) = some u := by
  rw [add0]
  exact (Blk.new W e cs).cell hu
def NewP (N : Nat) (w : World) (e : Ending) (w' : World) : Prop := ∃ X : RG, e = .returned (X.val N) ∧ RgAt w' X N (fun _ _ => 0) ∧ w.heap.size ≤ X.O ∧ (∀ i, i < N → w.heap.size ≤ X.R i) ∧ Keeps (fun _ => False) w w'
set_option maxRecDepth 100000 in
set_option maxHeartbeats 1000000 in
theorem rnew_any (N : Nat) (h1 : 1 ≤ N) (h2 : N ≤ 40) (w : World) : Calls Tryd.prog 25 #[.int .i64 N] w (NewP N w) := by
  obtain ⟨j0, hj1, hy0, hy1, hy2⟩ := info_parts info28
  obtain ⟨W0, hW0⟩ : ∃ W0, W0 = (w.alloc (.cells #[.slice none 0 0] 40)).alloc (.cells #[.slice none 0 0] 40) := ⟨_, rfl⟩
  go_enter Tryd.func25, Tryd.ntmps25
  go_wp2
  rw [← hW0]
  have hs0 : W0.heap.size = w.heap.size + 2 := by subst hW0; simp
  have hk0 : Keeps (fun _ => False) w W0 := by subst hW0; exact ((Keeps.refl _ w).alloc _).alloc _
  have b0 : Blk W0 w.heap.size 40 [.slice none 0 0] := by subst hW0; exact (Blk.new w 40 [.slice none 0 0]).alloc _
  have b1 : Blk W0 (w.heap.size + 1) 40 [.slice none 0 0] := by
    subst hW0
    have := Blk.new (w.alloc (.cells #[.slice none 0 0] 40)) 40 [.slice none 0 0]
    rwa [World.size_alloc] at this
  have HS0 : Hid (NwS W0 (w.heap.size + 1) w.heap.size 0 (.slice none 0 0) (fun _ => 0) W0) := Lib.hid ⟨World.ownsRow_nil _ _ _ _, fun i hi => absurd hi (by omega), fun i j hi => absurd hi (by omega), b1, b0, Keeps.refl _ _⟩
  have HK0 := Lib.hid hk0
  clear hk0 b0 b1 hW0
  go_loopw [4] (fun k wr => ∃ (t : Nat) (sv : Value) (R : Nat → Nat), t ≤ N ∧ k = .int .i64 t ∧ NwS W0 (w.heap.size + 1) w.heap.size t sv R wr) (fun k _ => N - (intOf k).toNat)
  case atStart => exact ⟨0, _, _, Nat.zero_le _, rfl, HS0.out⟩
  case round =>
    obtain ⟨t, sv, R, ht, rfl, hs⟩ := hrel
    have HS := Lib.hid hs
    have hbx := hs.box.cell (i := 0) rfl
    have hbf := hs.box.free 0
    have hrx := hs.res.free 0
    have hrc := hs.res.cell (i := 0) rfl
    by_cases hlt : t < N
    · have HSD : Hid (NwS W0 (w.heap.size + 1) w.heap.size t sv R wr.drew) := Lib.hid hs.drew
      have hmk : (Instr.makeSlice 28 (.int .i64 32) (.int .i64 32)).run Tryd.prog wr.drew = .ok (.slice (some ⟨wr.heap.size, 0, none⟩) 32 32) (wr.drew.alloc (.cells (gcs (fun _ => 0)).toArray 3)) := make32 wr.drew
      have hbl := hs.box.lt
      have hsz := hs.keeps.size
      have HN1 : Hid (∀ u ∈ [rowv wr.heap.size], u.oneCell' = true) := Lib.hid (by intro u hu; rw [List.mem_singleton.1 hu]; rfl)
      have HNW : Hid (∀ j u, [rowv wr.heap.size][j]? = some u → ((wr.drew.alloc (.cells (gcs (fun _ => 0)).toArray 3)).alloc (.cells #[rowv wr.heap.size] 28)).cell? ((⟨wr.heap.size + 1, 0, none⟩ : Addr).add j) = some u) := Lib.hid (fun j u hu => by
        have := new_cells (wr.drew.alloc (.cells (gcs (fun _ => 0)).toArray 3)) 28 [rowv wr.heap.size] hu
        rwa [World.size_alloc] at this)
      have HOX : Hid (((wr.drew.alloc (.cells (gcs (fun _ => 0)).toArray 3)).alloc (.cells #[rowv wr.heap.size] 28)).ownsRow W0.heap.size 28 1 sv t (nrows R t)) := Lib.hid ((HSD.out.out.alloc _).alloc _)
      have hc1 : (wr.alloc (.cells (gcs (fun _ => 0)).toArray 3)).cell? ⟨w.heap.size + 1, 0, none⟩ = some sv := (hs.box.alloc _).cell rfl
      have hc2 : ((wr.alloc (.cells (gcs (fun _ => 0)).toArray 3)).alloc (.cells #[.slice (some ⟨wr.heap.size, 0, none⟩) 32 32] 28)).cell? ⟨w.heap.size + 1, 0, none⟩ = some sv := ((hs.box.alloc _).alloc _).cell rfl
      clear hs
      go_wp2_with fail
      go_region_law ((refine step_own rfl (.tmp 12) (.tmp 14) 38 rfl W0.heap.size 28 j0 (.slice none 0 0) 1 24 Tryd.underlying38 hj1 hy0 hy1 hy2 rfl (by decide) _ t (nrows R t) rfl HOX.out ⟨wr.heap.size + 1, 0, none⟩ 1 1 [rowv wr.heap.size] rfl rfl HNW.out HN1.out (by unfold maxLen; omega) (by omega) (by simp; omega) ?_; intro v' w3 hown' hgrow; obtain ⟨g', cap', rfl⟩ := own_form hown' (by omega); have HST := Lib.hid (nws_step HSD.out (by omega) (by omega) hown' hgrow); have hb3 := ((Keeps.of_grown hgrow).blk ((HSD.out.box.alloc _).alloc _) (fun e => avoids HSD.out.box HSD.out.out (by decide) _ e rfl)).free 0; have hb4 := ((Keeps.of_grown hgrow).blk ((HSD.out.box.alloc _).alloc _) (fun e => avoids HSD.out.box HSD.out.out (by decide) _ e rfl)).cell (i := 0) rfl; clear hown' hgrow))
      all_goals
        go_wp2_with fail
        go_roundw
        case rel => exact ⟨t + 1, _, _, by omega, by go_num, HST.out⟩
        case measure => simp [intOf]; omega
    · obtain rfl : t = N := by omega
      obtain ⟨g, cap, rfl⟩ := own_form hs.out h1
      clear hs
      go_wp2_with fail
      have k9 : Keeps (fun k => k = w.heap.size) wr (wr.setCell ⟨w.heap.size, 0, none⟩ (.slice (some ⟨g, 0, none⟩) t cap)) := (Keeps.refl (fun k => k = w.heap.size) wr).store (p := ⟨w.heap.size, 0, none⟩) (.inl rfl) _
      have b9 := HS.out.res.store 0 (.slice (some ⟨g, 0, none⟩) t cap)
      have x0 := b9.cell (i := 0) rfl
      refine bodyPost_ret (v := .agg #[.slice (some ⟨g, 0, none⟩) t cap]) (by simp [results, Tryd.f25, go_sem, x0]) rfl ⟨⟨g, cap, R⟩, rfl, ⟨h1, h2, ?_, fun i hi => ?_, HS.out.inj⟩, ?_, fun i hi => ?_, ?_⟩
      · exact own_base (k9.own HS.out.out fun g' hg' e => by
          have := (own_heap HS.out.out hg').1
          have e : g' = w.heap.size := e
          omega) (Nat.zero_le _)
      · obtain ⟨b1, b2⟩ := HS.out.row i hi
        exact k9.blk b1 fun e => by
          have e : R i = w.heap.size := e
          omega
      · have := (own_heap HS.out.out (g := g) rfl).1
        show w.heap.size ≤ g
        omega
      · have := (HS.out.row i hi).2
        show w.heap.size ≤ R i
        omega
      · have : Keeps (fun k => k = w.heap.size + 1 ∨ W0.heap.size ≤ k ∨ k = w.heap.size) w _ := ((HK0.out.mono fun k _ hf => hf.elim).trans (HS.out.keeps.mono fun k _ e => e.elim .inl fun e => .inr (.inl e))).trans (k9.mono fun k _ e => .inr (.inr e))
        exact this.mono fun k hk e => by omega
end Go.Proofs.YthnagihgjenimaaDoor
