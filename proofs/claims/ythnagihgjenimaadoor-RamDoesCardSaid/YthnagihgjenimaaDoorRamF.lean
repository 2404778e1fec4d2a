/- ram: Clean of a key that is there. -/
import Derived.Test.YthnagihgjenimaaDoorRamE
import Derived.StillTailTactics
namespace Go.Proofs.YthnagihgjenimaaDoor
open Go.RowKit
set_option linter.unusedVariables false
set_option linter.unusedSimpArgs false
theorem pair_swap {α : Type} {R : α → α → Prop} {xs ys : List α} {x x' : α} (h : (xs ++ x :: ys).Pairwise R) (h1 : ∀ a, R a x → R a x') (h2 : ∀ a, R x a → R x' a) : (xs ++ x' :: ys).Pairwise R := by
  rw [List.pairwise_append, List.pairwise_cons] at h ⊢
  obtain ⟨a1, ⟨a2, a3⟩, a4⟩ := h
  refine ⟨a1, ⟨fun q hq => h2 q (a2 q hq), a3⟩, fun p hp q hq => ?_⟩
  rcases List.mem_cons.1 hq with rfl | hq
  · exact h1 p (a4 p hp x (List.mem_cons_self ..))
  · exact a4 p hp q (List.mem_cons_of_mem _ hq)
theorem RInv.swap {D : AD} {xs ys : List HM} {x x' : HM} (h : RInv D (xs ++ x :: ys)) (e1 : x'.it.key = x.it.key) (e2 : x'.ch = x.ch) (e3 : x'.cl = x.cl) (hok : x'.it.Ok) (hc : x'.it.chg = x.it.chg) : RInv D (xs ++ x' :: ys) := by
  have hx := h.good x (by simp)
  refine ⟨h.ok, pair_swap h.keys (fun a ha => by rw [e1]; exact ha) (fun a ha => by rw [e1]; exact ha), pair_swap h.chs (fun a ha => by rw [e2]; exact ha) (fun a ha => by rw [e2]; exact ha), fun m c => ?_, fun g hg => ?_⟩
  · rw [h.has]
    constructor
    · rintro ⟨g, hg, f1, f2⟩
      rcases mem_mid.1 hg with rfl | hg
      · exact ⟨x', by simp, e2.trans f1, e3.trans f2⟩
      · exact ⟨g, mem_mid.2 (.inr hg), f1, f2⟩
    · rintro ⟨g, hg, f1, f2⟩
      rcases mem_mid.1 hg with rfl | hg
      · exact ⟨x, by simp, e2.symm.trans f1, e3.symm.trans f2⟩
      · exact ⟨g, mem_mid.2 (.inr hg), f1, f2⟩
  · rcases mem_mid.1 hg with rfl | hg
    · exact ⟨hok, by rw [e3, hc]; exact hx.2⟩
    · exact h.good g (mem_mid.2 (.inr hg))
theorem lsOf_swap (xs : List HM) {x x' : HM} (ys : List HM) (e2 : x'.ch = x.ch) (e3 : x'.cl = x.cl) : lsOf (xs ++ x' :: ys) = lsOf (xs ++ x :: ys) := by
  funext c
  rw [lsOf_app, lsOf_app, lsOf_cons, lsOf_cons, e2, e3]
/-- An item is not dirty. -/
def IT.cl (i : IT) : IT := { i with dt := false }
theorem IT.Ok.cl {i : IT} (h : i.Ok) : i.cl.Ok := ⟨h.k1, h.k2, h.v2, h.kb, h.vb, h.sq⟩
theorem RAt.swap {w w' : World} {L : RL} {D : AD} {xs ys : List HM} {x x' : HM} {g : Lit → Option Value} (h : RAt w L D (xs ++ x :: ys)) (hg : Mapped g (xs ++ x :: ys) thK HM.val) (e1 : x'.it = x.it.cl) (e2 : x'.ch = x.ch) (e3 : x'.cl = x.cl) (hm : MapV 3 w' L.mt (xs ++ x' :: ys).length (mput g (chL x.ch) x'.val)) (hk : Keeps (fun b => b = L.mt) w w') (hr : Reads w' x'.it x'.kv x'.vv) : RAt w' L D (xs ++ x' :: ys) := by
  have hne := h.ne
  have hx := (h.inv.good x (by simp)).1
  have hkey : x'.it.key = x.it.key := by rw [e1]; rfl
  have hchg : x'.it.chg = x.it.chg := by rw [e1]; rfl
  have hsum : sumC (xs ++ x' :: ys) = sumC (xs ++ x :: ys) := by rw [sumC_mid, sumC_mid, hchg]
  have hlen : (xs ++ x' :: ys).length = (xs ++ x :: ys).length := by simp
  obtain ⟨f, a1, a2⟩ := h.at'
  obtain ⟨g', a3, _⟩ := h.th
  refine ⟨?_, ⟨f, ?_, ?_⟩, ⟨_, hm, ?_⟩, ar_keep h.ar hk hne.at' hne.gt, ?_, h.lN, h.ln, h.inv.swap hkey e2 e3 (by rw [e1]; exact hx.cl) hchg, fun q hq => ?_, h.mm⟩
  · rw [hsum]; exact hk.blk h.obj hne.bt
  · rw [hlen]; exact a1.keep hk h.mm
  · refine ⟨fun q hq => ?_, fun l v hl => ?_⟩
    · rcases mem_mid.1 hq with rfl | hq
      · have := a2.mem x (by simp)
        unfold atK atV at this ⊢
        rw [hkey, e2]
        exact this
      · exact a2.mem q (mem_mid.2 (.inr hq))
    · obtain ⟨q, hq, e⟩ := a2.out l v hl
      rcases mem_mid.1 hq with rfl | hq
      · exact ⟨x', by simp, by unfold atK at e ⊢; rw [hkey]; exact e⟩
      · exact ⟨q, mem_mid.2 (.inr hq), e⟩
  · refine ⟨fun q hq => ?_, fun l v hl => ?_⟩
    · rcases mem_mid.1 hq with rfl | hq
      · unfold thK
        rw [e2, mput_same]
      · rw [mput_ne _ _ (show thK q ≠ chL x.ch from fun e => h.inv.chne q hq (chL_inj e))]
        exact hg.mem q (mem_mid.2 (.inr hq))
    · by_cases e : l = chL x.ch
      · exact ⟨x', by simp, by unfold thK; rw [e2, e]⟩
      · rw [mput_ne _ _ e] at hl
        obtain ⟨q, hq, e'⟩ := hg.out l v hl
        rcases mem_mid.1 hq with rfl | hq
        · exact absurd e'.symm e
        · exact ⟨q, mem_mid.2 (.inr hq), e'⟩
  · rw [lsOf_swap xs ys e2 e3]
    exact li_keep h.li hk hne.kt (fun k ho e => hne.lt ((show k = L.mt from e) ▸ ho))
  · rcases mem_mid.1 hq with rfl | hq
    · exact hr
    · obtain ⟨o1, o2⟩ := h.off q (mem_mid.2 (.inr hq))
      exact (h.rd q (mem_mid.2 (.inr hq))).keep hk (fun b hb e => o1 b hb (.inr (.inr (.inl e)))) (fun b hb e => o2 b hb (.inr (.inr (.inl e))))
def CleanP (L : RL) (D : AD) (xs ys : List HM) (x : HM) (w : World) (e : Ending) (w' : World) : Prop :=
  e = .returned (.int .i64 0) ∧ (∃ x' : HM, x'.it = x.it.cl ∧ x'.ch = x.ch ∧ x'.cl = x.cl ∧ RAt w' L D (xs ++ x' :: ys)) ∧ Keeps L.own w w'
set_option maxRecDepth 100000 in
set_option maxHeartbeats 2000000 in
theorem clean_there (L : RL) (D : AD) (xs ys : List HM) (x : HM) (v : Value) (w : World) (h : RAt w L D (xs ++ x :: ys)) (hv : SlB w v x.it.key) : Calls Tryd.prog 49 #[L.ptr, v] w (CleanP L D xs ys x w) := by
  have hx : x ∈ xs ++ x :: ys := by simp
  have HP := Lib.hid (peek_there L D _ x v w h hx hv)
  have HH := Lib.hid h
  have HV := Lib.hid hv
  have hkl := (h.inv.good x hx).1.k2
  have hch := h.chlt x hx
  have hn2 := h.ar.n2
  have hlen := h.len
  clear h hx
  obtain ⟨a, c, rfl, _⟩ := hv
  unfold PeekP at HP
  unfold RL.ptr IT.agg at *
  go_enter Tryd.func49, Tryd.ntmps49
  go_wp2_with fail
  refine HP.out.mono ?_
  rintro e w1 ⟨kv, vv, rfl, hr1, hk1⟩
  obtain ⟨kb, kd, rfl, _⟩ := own_bytes hr1.k
  obtain ⟨vb, vd, rfl, _⟩ := own_bytes hr1.v
  go_upto_region 4 with fail
  obtain ⟨W1, hW1⟩ : ∃ W1, W1 = w1.alloc (.cells #[.slice kb x.it.key.length kd, .slice vb x.it.val.length vd, .int .u32 x.it.fg, .int .u32 x.it.ex, .int .u64 x.it.sq, .bool x.it.dt] 64) := ⟨_, rfl⟩
  have q1 : Keeps (fun _ => False) w1 W1 := by rw [hW1]; exact (Keeps.refl _ _).alloc _
  have hit : Blk W1 w1.heap.size 64 [.slice kb x.it.key.length kd, .slice vb x.it.val.length vd, .int .u32 x.it.fg, .int .u32 x.it.ex, .int .u64 x.it.sq, .bool x.it.dt] := by rw [hW1]; exact Blk.new w1 64 _
  rw [← hW1]
  have f5 := hit.free 5
  have x5 := hit.cell (i := 5) rfl
  have HIT := Lib.hid hit
  have HQ1 := Lib.hid (hk1.trans q1)
  have HR1 := Lib.hid (hr1.keep q1 (fun _ _ => id) (fun _ _ => id))
  clear hit q1 hW1 hr1
  go_upto_region 5 with fail
  obtain ⟨W2, hW2⟩ : ∃ W2, W2 = W1.setCell ⟨w1.heap.size, 5, none⟩ (.bool false) := ⟨_, rfl⟩
  have hb2 : Blk W2 w1.heap.size 64 [.slice kb x.it.key.length kd, .slice vb x.it.val.length vd, .int .u32 x.it.fg, .int .u32 x.it.ex, .int .u64 x.it.sq, .bool false] := by
    rw [hW2]
    exact HIT.out.store 5 (.bool false)
  have hk2 : Keeps (fun q => q = w1.heap.size) W1 W2 := by rw [hW2]; exact (Keeps.refl (fun q => q = w1.heap.size) W1).store (p := ⟨w1.heap.size, 5, none⟩) (.inl rfl) _
  have hkw : Keeps (fun _ => False) w W2 := (((HQ1.out.mono (S' := fun q => q = w1.heap.size) fun _ _ h => h.elim)).trans hk2).mono fun q hq h => by
    have h : q = w1.heap.size := h
    have := hk1.size
    omega
  have hra := HH.out.quiet hkw
  obtain ⟨f, hm1, hf⟩ := hra.at'
  obtain ⟨g, hm2, hg⟩ := hra.th
  have hrd2 : Reads W2 x.it (.slice kb x.it.key.length kd) (.slice vb x.it.val.length vd) := HR1.out.keep hk2 (fun q hq e => own_ne_blk HIT.out HR1.out.k (by decide) ((show q = w1.heap.size from e) ▸ hq)) (fun q hq e => own_ne_blk HIT.out HR1.out.v (by decide) ((show q = w1.heap.size from e) ▸ hq))
  have hl1 := hm1.look strK Tryd.underlying110 (z3 W2) (key9 (k := x.it.key) (by omega))
  rw [show f (keyL x.it.key) = some (atV x) from hf.mem x (by simp)] at hl1
  have hl1' : (Instr.lookup 110 (.map (some L.ma)) (.string (strOfNums x.it.key)) false).run Tryd.prog W2 = .ok (.int .i64 (x.ch : Int)) W2 := hl1
  have cv2 := conv_slb (HV.out.quiet hkw)
  have hlt : (xs ++ x :: ys).length < maxLen := by unfold maxLen; omega
  obtain ⟨w3, hrun, hm3, hk3⟩ := (hm2.keep ((Keeps.refl (fun _ => False) W2).drew) id).put intK Tryd.underlying111 hlt (key3 (n := x.ch) (by omega)) (.agg #[.slice kb x.it.key.length kd, .slice vb x.it.val.length vd, .int .u32 x.it.fg, .int .u32 x.it.ex, .int .u64 x.it.sq, .bool false])
  have hgx : (g (chL x.ch)).isSome = true := by rw [show g (chL x.ch) = some x.val from hg.mem x (by simp)]; rfl
  rw [hgx, if_pos rfl] at hm3
  have hkd : Keeps (fun b => b = L.mt) W2 w3 := ((Keeps.refl _ W2).drew).trans hk3
  have hoff := own_off hra hrd2.k
  have hoff2 := own_off hra hrd2.v
  have hrd3 := Reads.keep (i := x.it) hrd2 hkd (fun b hb e => hoff b hb (.inr (.inr (.inl e)))) (fun b hb e => hoff2 b hb (.inr (.inr (.inl e))))
  have hfin : RAt w3 L D (xs ++ ⟨x.it.cl, x.ch, x.cl, .slice kb x.it.key.length kd, .slice vb x.it.val.length vd⟩ :: ys) := hra.swap (x' := ⟨x.it.cl, x.ch, x.cl, .slice kb x.it.key.length kd, .slice vb x.it.val.length vd⟩) hg rfl rfl rfl (by rw [show (xs ++ (⟨x.it.cl, x.ch, x.cl, .slice kb x.it.key.length kd, .slice vb x.it.val.length vd⟩ : HM) :: ys).length = (xs ++ x :: ys).length by simp]; exact hm3) hkd ⟨hrd3.k, hrd3.v⟩
  have HFIN := Lib.hid hfin
  have HKF : Hid (Keeps L.own w w3) := Lib.hid ((hkw.mono fun _ _ h => h.elim).trans (hkd.mono fun _ _ e => .inr (.inr (.inl e))))
  have hob := hra.obj
  unfold RL.obj at hob
  have b0 := hob.cell (i := 0) rfl
  have b1 := hob.cell (i := 1) rfl
  have p0 := hb2.cell (i := 0) rfl
  have p1 := hb2.cell (i := 1) rfl
  have p2 := hb2.cell (i := 2) rfl
  have p3 := hb2.cell (i := 3) rfl
  have p4 := hb2.cell (i := 4) rfl
  have p5 := hb2.cell (i := 5) rfl
  have hl1d : (Instr.lookup 110 (.map (some L.ma)) (.string (strOfNums x.it.key)) false).run Tryd.prog W2.drew = .ok (.int .i64 (x.ch : Int)) W2.drew := by
    have h0 := (hm1.keep ((Keeps.refl (fun _ => False) W2).drew) id).look strK Tryd.underlying110 (z3 W2.drew) (key9 (k := x.it.key) (by omega))
    rw [show f (keyL x.it.key) = some (atV x) from hf.mem x (by simp)] at h0
    exact h0
  have cv2d := conv_slb (HV.out.quiet hkw.drew)
  rw [← hW2]
  clear hrd3 hl1' cv2 hW2 hb2 hk2 hkw hra hm1 hf hm2 hg hrd2 hl1 hm3 hk3 hgx hkd hoff hoff2 hfin hob f5 x5 hk1
  go_region
  all_goals
    go_wp2_with fail
    go_ret
    exact ⟨rfl, ⟨⟨x.it.cl, x.ch, x.cl, .slice kb x.it.key.length kd, .slice vb x.it.val.length vd⟩, rfl, rfl, rfl, HFIN.out⟩, HKF.out⟩
def ClearP (L : RL) (D : AD) (w : World) (e : Ending) (w' : World) : Prop :=
  e = .returned (.int .i64 0) ∧ ∃ L' : RL, L'.B = L.B ∧ (∀ k, L'.own k → k = L.B ∨ w.heap.size ≤ k) ∧ RAt w' L' (AD.fresh D.n) [] ∧ Keeps (fun k => k = L.B) w w'
theorem st6b {w : World} {g : Nat} {a' b' c' d' e' f' : Value} (h : Blk w g 115 [a', b', c', d', e', f']) (a b c d e f : Value) : Blk ((((((w.setCell ⟨g, 0, none⟩ a).setCell ⟨g, 1, none⟩ b).setCell ⟨g, 2, none⟩ c).setCell ⟨g, 3, none⟩ d).setCell ⟨g, 4, none⟩ e).setCell ⟨g, 5, none⟩ f) g 115 [a, b, c, d, e, f] ∧ Keeps (fun k => k = g) w ((((((w.setCell ⟨g, 0, none⟩ a).setCell ⟨g, 1, none⟩ b).setCell ⟨g, 2, none⟩ c).setCell ⟨g, 3, none⟩ d).setCell ⟨g, 4, none⟩ e).setCell ⟨g, 5, none⟩ f) := by
  refine ⟨((((((h.store 0 a).store 1 b).store 2 c).store 3 d).store 4 e).store 5 f), ?_⟩
  exact (((((((Keeps.refl (fun k => k = g) w).store (p := ⟨g, 0, none⟩) (.inl rfl) a).store (p := ⟨g, 1, none⟩) (.inl rfl) b).store (p := ⟨g, 2, none⟩) (.inl rfl) c).store (p := ⟨g, 3, none⟩) (.inl rfl) d).store (p := ⟨g, 4, none⟩) (.inl rfl) e).store (p := ⟨g, 5, none⟩) (.inl rfl) f)
set_option maxRecDepth 100000 in
set_option maxHeartbeats 2000000 in
theorem clear_any (L : RL) (D : AD) (hs : List HM) (w : World) (h : RAt w L D hs) : Calls Tryd.prog 51 #[L.ptr] w (ClearP L D w) := by
  have HN := Lib.hid (rnew_ok D.n h.ar.n1 h.ar.n2 w)
  have HH := Lib.hid h
  have hob := h.obj
  unfold RL.obj at hob
  have c4 := hob.cell (i := 4) rfl
  unfold RNewP RL.ptr at *
  clear h hob
  go_enter Tryd.func51, Tryd.ntmps51
  go_wp2_with fail
  refine HN.out.mono ?_
  rintro e w1 ⟨L2, rfl, hr, hlo, hk⟩
  have hb := hk.blk HH.out.obj id
  have hb2 := hr.obj
  unfold RL.obj at hb hb2
  have HR := Lib.hid hr
  have HLO := Lib.hid hlo
  have HK := Lib.hid hk
  have HB := Lib.hid hb
  have f0 := hb.free 0
  have f1 := hb.free 1
  have f2 := hb.free 2
  have f3 := hb.free 3
  have f4 := hb.free 4
  have f5 := hb.free 5
  have y0 := hb.cell (i := 0) rfl
  have y1 := hb.cell (i := 1) rfl
  have y2 := hb.cell (i := 2) rfl
  have y3 := hb.cell (i := 3) rfl
  have y4 := hb.cell (i := 4) rfl
  have y5 := hb.cell (i := 5) rfl
  have x0 := hb2.cell (i := 0) rfl
  have x1 := hb2.cell (i := 1) rfl
  have x2 := hb2.cell (i := 2) rfl
  have x3 := hb2.cell (i := 3) rfl
  have x4 := hb2.cell (i := 4) rfl
  have x5 := hb2.cell (i := 5) rfl
  unfold AL.ptr at x2
  unfold LK.ptr at x3
  clear hr hlo hk hb hb2 HN c4
  go_wp2_with fail
  go_ret
  obtain ⟨ho, hk2⟩ := st6b HB.out (.map (some L2.ma)) (.map (some L2.mt)) L2.al.ptr L2.lk.ptr (.int .i64 ((AD.fresh D.n).n : Int)) (.int .i64 ((sumC [] : Nat) : Int))
  have hlt := HH.out.lt.1
  have hno : ∀ k, L2.own k → ¬ (k = L.B) := fun k hk e => by
    have := HLO.out k hk
    omega
  have hr2 := HR.out
  have hne := hr2.ne
  obtain ⟨f, a1, a2⟩ := hr2.at'
  obtain ⟨g, a3, a4⟩ := hr2.th
  obtain ⟨hkb, hl⟩ := hr2.li.blks
  have hLB : Blk w1 L.B 115 (L.obj D.n (sumC hs)) := HK.out.blk HH.out.obj id
  refine ⟨rfl, ⟨L.B, L2.ma, L2.mt, L2.al, L2.lk⟩, rfl, fun k hk => ?_, ⟨ho, ⟨f, a1.keep hk2 (hno _ (.inr (.inl rfl))), a2⟩, ⟨g, a3.keep hk2 (hno _ (.inr (.inr (.inl rfl)))), a4⟩, ar_keep hr2.ar hk2 (hr2.ar.obj.ne hLB (by decide)) (hno _ (.inr (.inr (.inr (.inl rfl))))), li_keep hr2.li hk2 (hkb.ne hLB (by decide)) (fun k hk => hno k (.inr (.inr (.inr (.inr hk))))), hr2.lN, hr2.ln, hr2.inv, (fun x hx => by cases hx), hr2.mm⟩, ?_⟩
  · rcases hk with rfl | rfl | rfl | rfl | hk
    · exact .inl rfl
    · exact .inr (HLO.out _ (.inr (.inl rfl)))
    · exact .inr (HLO.out _ (.inr (.inr (.inl rfl))))
    · exact .inr (HLO.out _ (.inr (.inr (.inr (.inl rfl)))))
    · exact .inr (HLO.out _ (.inr (.inr (.inr (.inr hk)))))
  · exact (HK.out.mono fun _ _ h => h.elim).trans hk2
end Go.Proofs.YthnagihgjenimaaDoor
