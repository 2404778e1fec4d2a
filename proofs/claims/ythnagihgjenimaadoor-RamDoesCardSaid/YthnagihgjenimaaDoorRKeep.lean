/- RamKeeps, walked. -/
import Derived.Test.YthnagihgjenimaaDoorRamQ
import Derived.Test.YthnagihgjenimaaDoorOpIt
import Derived.Maps.RangeWalk
import Derived.Deep.CutBlock
namespace Go.Proofs.YthnagihgjenimaaDoor
open Go.RowKit
set_option linter.unusedVariables false
set_option linter.unusedSimpArgs false
/-- What was there, where new blocks alone are turned. -/
theorem SlB.old {w w' : World} {v : Value} {xs : List Int} {S : Nat → Prop} (h : SlB w v xs) (hk : Keeps S w w') (hS : ∀ k, S k → w.heap.size ≤ k) : SlB w' v xs := by
  obtain ⟨a, c, rfl, hr⟩ := h
  refine ⟨a, c, rfl, hr.1, fun i hi => ?_⟩
  obtain ⟨ad, rfl, hc⟩ := hr.2 i hi
  have hlt := cell_lt hc
  exact ⟨ad, rfl, (hk.cell hlt (fun h => by have := hS _ h; omega)).trans hc⟩
theorem SlB.lt {w : World} {v : Value} {xs : List Int} (h : SlB w v xs) : ∀ a n c, v = .slice (some a) n c → 0 < n → a.block < w.heap.size := by
  intro a n c e hn
  obtain ⟨a', c', e', hr⟩ := h
  rw [e'] at e
  injection e with e1 e2
  subst e1
  obtain ⟨ad, e3, hc⟩ := hr.2 0 (by omega)
  injection e3 with e3
  subst e3
  have := cell_lt hc
  unfold Addr.add at this
  split at this <;> exact this
theorem ItB.old {w w' : World} {i : IT} {kv vv : Value} {S : Nat → Prop} (h : ItB w i kv vv) (hk : Keeps S w w') (hS : ∀ k, S k → w.heap.size ≤ k) : ItB w' i kv vv := ⟨h.k.old hk hS, h.v.old hk hS⟩
theorem ItB.keepL {w w' : World} {i : IT} {kv vv : Value} {S : Nat → Prop} (h : ItB w i kv vv) (hk : Keeps S w w') (h1 : ∀ a n c, kv = .slice (some a) n c → 0 < n → ¬ S a.block) (h2 : ∀ a n c, vv = .slice (some a) n c → 0 < n → ¬ S a.block) : ItB w' i kv vv := ⟨h.k.keep hk h1, h.v.keep hk h2⟩
theorem IT.In.ok_or {i : IT} {W : World} {kv vv : Value} (h : i.In W kv vv) : i.Bad ∨ i.Ok := by
  by_cases c1 : i.key.length < 1
  · exact .inl (.inl c1)
  · by_cases c2 : 250 < i.key.length
    · exact .inl (.inr (.inl c2))
    · by_cases c3 : 512 < i.val.length
      · exact .inl (.inr (.inr (.inl c3)))
      · by_cases c4 : i.sq = 0
        · exact .inl (.inr (.inr (.inr c4)))
        · have := h.sq
          exact .inr ⟨by omega, by omega, by omega, h.kb, h.vb, by omega⟩
/-- Keys of what was put out and what is held differ. -/
theorem Reach.keys {cl : Nat} {D0 D : AD} {hs0 hs gone : List HM} (h : Reach cl D0 hs0 gone D hs) (hi : RInv D0 hs0) : (gone ++ hs).Pairwise (fun g h => g.it.key ≠ h.it.key) ∧ ∀ x ∈ hs0, x ∈ gone ∨ x ∈ hs := by
  induction h with
  | start => exact ⟨by simpa using hi.keys, fun x hx => .inr hx⟩
  | next h hf hp ho ih =>
    rename_i gone D xs ys x
    obtain ⟨h1, h2⟩ := ih
    refine ⟨?_, fun q hq => ?_⟩
    · rw [List.append_assoc]
      have : (gone ++ ([x] ++ (xs ++ ys))).Perm (gone ++ (xs ++ x :: ys)) := List.Perm.append_left _ (by simpa using (List.perm_middle (l₁ := xs) (a := x) (l₂ := ys)).symm)
      exact (this.pairwise_iff (fun hab => Ne.symm hab)).2 h1
    · rcases h2 q hq with hq | hq
      · exact .inl (List.mem_append_left _ hq)
      · rcases mem_mid.1 hq with rfl | hq
        · exact .inl (List.mem_append_right _ (List.mem_singleton.2 rfl))
        · exact .inr hq
/-- At the head of the loop over the items. -/
structure KpR (w4 : World) (L : RL) (N Bm : Nat) (l : List ITV) (D : AD) (hs : List HM) (f : Lit → Option Value) (wr : World) : Prop where
  ra : RAt wr L D hs
  n : D.n = N
  mp : MapV 9 wr Bm hs.length f
  src : ∀ h ∈ hs, ∃ o ∈ l, o.it = h.it ∧ f (atK h) = some (o.it.agg o.kv o.vv)
  out : ∀ k v, f k = some v → ∃ h ∈ hs, atK h = k
  keeps : Keeps (fun k => L.own k ∨ k = Bm) w4 wr
theorem KpR.quiet {w4 wr w' : World} {L : RL} {N Bm : Nat} {l : List ITV} {D : AD} {hs : List HM} {f : Lit → Option Value} (h : KpR w4 L N Bm l D hs f wr) (hk : Keeps (fun _ => False) wr w') : KpR w4 L N Bm l D hs f w' := ⟨h.ra.quiet hk, h.n, h.mp.keep hk id, h.src, h.out, h.keeps.trans (hk.mono fun _ _ h => h.elim)⟩
theorem atK_inj {g h : HM} (hg : g.it.Ok) (hh : h.it.Ok) (e : atK g = atK h) : g.it.key = h.it.key := keyL_inj hg.kb hh.kb e
/-- The map's block alone is turned. -/
theorem RAt.keepM {w w' : World} {L : RL} {D : AD} {hs : List HM} {k Bm m : Nat} {f : Lit → Option Value} (h : RAt w L D hs) (hm : MapV k w Bm m f) (hk : Keeps (fun q => q = Bm) w w') (h1 : L.ma ≠ Bm) (h2 : L.mt ≠ Bm) : RAt w' L D hs := by
  obtain ⟨fa, a1, a2⟩ := h.at'
  obtain ⟨ft, a3, a4⟩ := h.th
  obtain ⟨hkb, hl⟩ := h.li.blks
  have nb : ∀ {g t : Nat} {cs : List Value}, Blk w g t cs → ¬ (g = Bm) := fun hb e => (hm.ne_blk hb) e.symm
  have no : ∀ {base e size n : Nat} {v : Value} {xs : List Value}, w.ownsRow base e size v n xs → ∀ g, v.ownBlock = some g → ¬ (g = Bm) := fun ho g hg e => map_ne_own hm ho (e ▸ hg)
  refine ⟨hk.blk h.obj (nb h.obj), ⟨fa, a1.keep hk h1, a2⟩, ⟨ft, a3.keep hk h2, a4⟩, ar_keep h.ar hk (nb h.ar.obj) (no h.ar.row _ rfl), ?_, h.lN, h.ln, h.inv, fun x hx => (h.rd x hx).keep hk (no (h.rd x hx).k) (no (h.rd x hx).v), h.mm⟩
  refine li_keep h.li hk (nb hkb) fun b hb => ?_
  obtain ⟨cs, hc⟩ := hl b hb
  exact nb hc
/-- What was put out is struck from the map, one behind the other. -/
structure InR (w5 : World) (Bm : Nat) (f : Lit → Option Value) (gone : List HM) (m j : Nat) (fj : Lit → Option Value) (wr : World) : Prop where
  mp : MapV 9 wr Bm (m - j) fj
  kept : ∀ k, (∀ q ∈ gone.take j, atK q ≠ k) → fj k = f k
  cut : ∀ q ∈ gone.take j, fj (atK q) = none
  keeps : Keeps (fun k => k = Bm) w5 wr
theorem take_snoc {α : Type} {l : List α} {j : Nat} {y : α} (h : l[j]? = some y) : l.take (j + 1) = l.take j ++ [y] := by
  rw [List.take_add_one, h]
  rfl
theorem InR.step {w5 wr w' : World} {Bm m j : Nat} {f fj : Lit → Option Value} {gone : List HM} {y : HM} (h : InR w5 Bm f gone m j fj wr) (hy : gone[j]? = some y) (hsome : (fj (atK y)).isSome = true) (hm : MapV 9 w' Bm (m - j - 1) (mdel fj (atK y))) (hk : Keeps (fun k => k = Bm) wr w') : InR w5 Bm f gone m (j + 1) (mdel fj (atK y)) w' := by
  refine ⟨by rw [show m - (j + 1) = m - j - 1 by omega]; exact hm, fun k hk' => ?_, fun q hq => ?_, h.keeps.trans hk⟩
  · rw [take_snoc hy] at hk'
    rw [mdel_ne _ (fun e => hk' y (by simp) e.symm)]
    exact h.kept k fun q hq => hk' q (List.mem_append_left _ hq)
  · rw [take_snoc hy] at hq
    by_cases e : atK q = atK y
    · rw [e, mdel_same]
    · rw [mdel_ne _ e]
      rcases List.mem_append.1 hq with hq | hq
      · exact h.cut q hq
      · rw [List.mem_singleton.1 hq] at e
        exact absurd rfl e
theorem itemCells_at : ∀ {l : List HM} {j : Nat} {y : HM} {i : Nat} {u : Value}, l[j]? = some y → (y.it.cells y.kv y.vv)[i]? = some u → (itemCells l)[j * 6 + i]? = some u
  | [], j, y, i, u, h, _ => by simp at h
  | x :: r, 0, y, i, u, h, hu => by
    simp at h
    subst h
    have hi := (List.getElem?_eq_some_iff.1 hu).1
    unfold itemCells
    rw [List.flatMap_cons, Nat.zero_mul, Nat.zero_add, List.getElem?_append_left hi]
    exact hu
  | x :: r, j + 1, y, i, u, h, hu => by
    have ih := itemCells_at (l := r) (j := j) (by simpa using h) hu
    unfold itemCells at ih ⊢
    have h6 : (x.it.cells x.kv x.vv).length = 6 := rfl
    rw [List.flatMap_cons, List.getElem?_append_right (by rw [h6]; omega), h6, show (j + 1) * 6 + i - 6 = j * 6 + i by omega]
    exact ih
theorem pair_take {α : Type} {R : α → α → Prop} {l : List α} {j : Nat} {y : α} (h : l.Pairwise R) (hy : l[j]? = some y) : ∀ q ∈ l.take j, R q y := by
  obtain ⟨hj, rfl⟩ := List.getElem?_eq_some_iff.1 hy
  intro q hq
  rw [← List.take_append_drop j l, List.drop_eq_getElem_cons hj] at h
  exact (List.pairwise_append.1 h).2.2 q hq _ (List.mem_cons_self ..)
/-- The item is in the map: the head of the loop again. -/
theorem KpR.next {w4 wr w5 wq w6 : World} {L : RL} {N Bm : Nat} {l : List ITV} {D D1 D2 D3 : AD} {hs hs1 hs2 gone : List HM} {f fg : Lit → Option Value} {o : ITV} {x : HM} {cl : Nat} (h : KpR w4 L N Bm l D hs f wr) (ho : o ∈ l) (hok : o.it.Ok)
    (hless : Less D hs o.it.key D1 hs1) (hre : Reach cl D1 hs1 gone D2 hs2) (hgs : GiveS D2 cl ((x.ch : Nat) : Int) 0 D3) (hxi : x.it = o.it) (hin : InR w5 Bm f gone hs.length gone.length fg wq)
    (hra : RAt w6 L D3 (x :: hs2)) (hmp : MapV 9 w6 Bm (if (fg (keyL o.it.key)).isSome then hs.length - gone.length else hs.length - gone.length + 1) (mput fg (keyL o.it.key) (o.it.agg o.kv o.vv))) (hke : Keeps (fun k => L.own k ∨ k = Bm) w4 w6) :
    KpR w4 L N Bm l D3 (x :: hs2) (mput fg (keyL o.it.key) (o.it.agg o.kv o.vv)) w6 := by
  have hi1 : RInv D1 hs1 := by
    rcases hless with ⟨_, rfl, rfl⟩ | ⟨xs, x0, ys, rfl, _, rfl, rfl⟩
    · exact h.ra.inv
    · exact h.ra.inv.out
  have hne1 : ∀ q ∈ hs1, q.it.key ≠ o.it.key := by
    rcases hless with ⟨hn, rfl, rfl⟩ | ⟨xs, x0, ys, rfl, hk, rfl, rfl⟩
    · exact hn
    · rw [← hk]; exact h.ra.inv.keyne
  have hgood1 : ∀ q ∈ hs1, q.it.Ok := fun q hq => (hi1.good q hq).1
  have hlenl := hre.sub.2.2.2
  obtain ⟨hkeys, hcov⟩ := hre.keys hi1
  have hka : ∀ q ∈ hs1, atK q ≠ keyL o.it.key := fun q hq e => hne1 q hq (keyL_inj (hgood1 q hq).kb hok.kb e)
  have hgk : ∀ q ∈ gone, atK q ≠ keyL o.it.key := fun q hq => hka q (hre.sub.2.1 q hq)
  have hfgk : fg (keyL o.it.key) = f (keyL o.it.key) := hin.kept _ fun q hq => hgk q (List.mem_of_mem_take hq)
  have hcnt : (if (fg (keyL o.it.key)).isSome then hs.length - gone.length else hs.length - gone.length + 1) = (x :: hs2).length := by
    rw [hfgk, List.length_cons]
    rcases hless with ⟨hn, rfl, rfl⟩ | ⟨xs, x0, ys, rfl, hk, rfl, rfl⟩
    · have hnone : f (keyL o.it.key) = none := by
        cases hf : f (keyL o.it.key) with
        | none => rfl
        | some v =>
          obtain ⟨q, hq, e⟩ := h.out _ _ hf
          exact absurd e (hka q hq)
      rw [hnone]
      simp only [Option.isSome_none, Bool.false_eq_true, if_false]
      omega
    · obtain ⟨o0, _, _, hs0⟩ := h.src x0 (by simp)
      have e0 : atK x0 = keyL o.it.key := by unfold atK; rw [hk]
      rw [e0] at hs0
      rw [hs0]
      simp only [Option.isSome_some, if_true]
      simp at hlenl ⊢
      omega
  rw [hcnt] at hmp
  have hxa : atK x = keyL o.it.key := by unfold atK; rw [hxi]
  have hsub2 : ∀ q ∈ hs2, q ∈ hs := fun q hq => hless.sub q (hre.sub.1 q hq)
  refine ⟨hra, ?_, hmp, fun q hq => ?_, fun k v hv => ?_, hke⟩
  · rw [give_n hgs, hre.sub.2.2.1, ← h.n]
    rcases hless with ⟨_, rfl, _⟩ | ⟨xs, x0, ys, _, _, rfl, _⟩
    · rfl
    · rfl
  · rcases List.mem_cons.1 hq with rfl | hq
    · exact ⟨o, ho, hxi.symm, by rw [hxa, mput_same]⟩
    · obtain ⟨oq, hoq, e1, e2⟩ := h.src q (hsub2 q hq)
      refine ⟨oq, hoq, e1, ?_⟩
      rw [mput_ne _ _ (hka q (hre.sub.1 q hq)), hin.kept, e2]
      intro r hr e
      have hr' := List.mem_of_mem_take hr
      have := (List.pairwise_append.1 hkeys).2.2 r hr' q hq
      exact this (atK_inj (hgood1 r (hre.sub.2.1 r hr')) (hgood1 q (hre.sub.1 q hq)) e)
  · by_cases e : k = keyL o.it.key
    · exact ⟨x, List.mem_cons_self .., hxa.trans e.symm⟩
    · rw [mput_ne _ _ e] at hv
      by_cases hg : ∃ q ∈ gone, atK q = k
      · obtain ⟨q, hq, rfl⟩ := hg
        rw [hin.cut q (by rw [List.take_length]; exact hq)] at hv
        cases hv
      · rw [hin.kept k (fun q hq ek => hg ⟨q, List.mem_of_mem_take hq, ek⟩)] at hv
        obtain ⟨q, hq, rfl⟩ := h.out k v hv
        have hq1 : q ∈ hs1 := by
          rcases hless with ⟨_, _, rfl⟩ | ⟨xs, x0, ys, rfl, hk, _, rfl⟩
          · exact hq
          · rcases mem_mid.1 hq with rfl | hq
            · exact absurd (show atK q = keyL o.it.key by unfold atK; rw [hk]) e
            · exact hq
        rcases hcov q hq1 with hq2 | hq2
        · exact absurd ⟨q, hq2, rfl⟩ hg
        · exact ⟨q, List.mem_cons_of_mem _ hq2, rfl⟩
theorem keyOf_str_inv {key : Value} {kl : Lit} (h : keyOf Tryd.prog 9 key = some kl) : ∃ s, key = .string s := by
  rw [keyOf_string Tryd.underlying9] at h
  cases key <;> first | exact ⟨_, rfl⟩ | (simp [mapKey, Tryd.underlying9] at h)
theorem keyOf_str_eq {s : ByteArray} {kl : Lit} (h : keyOf Tryd.prog 9 (.string s) = some kl) : kl = .string s.data.toList := by
  rw [keyOf_string Tryd.underlying9] at h
  simp [mapKey, Tryd.underlying9] at h
  exact h.2.symm
theorem str_of_key {s : ByteArray} {k : List Int} (h : Lit.string s.data.toList = keyL k) : s = strOfNums k := by
  unfold keyL at h
  injection h with h
  cases s
  simp [strOfNums] at h ⊢
  exact Array.ext' (by simpa using h)
theorem ranges_keep {w w' : World} {k : TypeId} {b r n cnt : Nat} {D : DataW Value} {left : Lit → Bool} {S : Nat → Prop} (h : w.ranges Tryd.prog k heldR b r n D left cnt) (hk : Keeps S w w') (h1 : ¬ S b) (h2 : ¬ S r) : w'.ranges Tryd.prog k heldR b r n D left cnt := by
  obtain ⟨es, clock, since, seen, c0, hb, F, hs, hD, hr, rest⟩ := h
  exact ⟨es, clock, since, seen, c0, (hk.block _ (Array.getElem?_eq_some_iff.1 hb).1 h1).trans hb, F, hs, hD, (hk.block _ (Array.getElem?_eq_some_iff.1 hr).1 h2).trans hr, rest⟩
/-- At the head of the range over the map. -/
structure RgR (wk : World) (L : RL) (Bm r m : Nat) (Dm : DataW Value) (D : AD) (hs : List HM) (f : Lit → Option Value) (left : Lit → Bool) (cnt : Nat) (hs' : List HM) (wr : World) : Prop where
  ra : RAt wr L D hs'
  mem : ∀ q, q ∈ hs' ↔ q ∈ hs
  rg : wr.ranges Tryd.prog 9 heldR Bm r m Dm left cnt
  sub : ∀ kl, left kl = true → (f kl).isSome = true
  keeps : Keeps L.own wk wr
/-- The range's own block alone is turned. -/
theorem iter_keep {w w' : World} {L : RL} {D : AD} {hs : List HM} {k : TypeId} {b r n cnt : Nat} {Dm : DataW Value} {left : Lit → Bool} (h : RAt w L D hs) (hr : w.ranges Tryd.prog k heldR b r n Dm left cnt) (hk : Keeps (fun q => q = r) w w') : RAt w' L D hs := by
  obtain ⟨_, _, _, _, _, _, _, _, _, hri, _⟩ := hr
  obtain ⟨fa, a1, a2⟩ := h.at'
  obtain ⟨ft, a3, a4⟩ := h.th
  obtain ⟨hkb, hl⟩ := h.li.blks
  have nb : ∀ {g t : Nat} {cs : List Value}, Blk w g t cs → ¬ (g = r) := fun hb e => by
    subst e
    unfold Blk at hb
    rw [hb] at hri
    cases hri
  have no : ∀ {base e size n : Nat} {v : Value} {xs : List Value}, w.ownsRow base e size v n xs → ∀ g, v.ownBlock = some g → ¬ (g = r) := fun ho g hg e => by
    obtain ⟨_, _, cur, hc⟩ := own_heap ho hg
    subst e
    rw [hc] at hri
    cases hri
  have nm : ∀ {k' m : Nat} {b' : Nat} {f : Lit → Option Value}, MapV k' w b' m f → ¬ (b' = r) := fun hm e => by
    obtain ⟨D', ⟨es, clock, hb2, _⟩, _⟩ := hm
    subst e
    rw [hb2] at hri
    cases hri
  refine ⟨hk.blk h.obj (nb h.obj), ⟨fa, a1.keep hk (nm a1), a2⟩, ⟨ft, a3.keep hk (nm a3), a4⟩, ar_keep h.ar hk (nb h.ar.obj) (no h.ar.row _ rfl), ?_, h.lN, h.ln, h.inv, fun x hx => (h.rd x hx).keep hk (no (h.rd x hx).k) (no (h.rd x hx).v), h.mm⟩
  refine li_keep h.li hk (nb hkb) fun b hb => ?_
  obtain ⟨cs, hc⟩ := hl b hb
  exact nb hc
def PagC (w1 : World) (s5 : Value) (wx : World) : Prop := ∃ N : Nat, 1 ≤ N ∧ N ≤ 6 ∧ s5 = .int .i64 (N : Int) ∧ wx = w1
set_option maxRecDepth 100000 in
set_option maxHeartbeats 4000000 in
theorem keeps_law (pages : Int) (v : Value) (a : Option Addr) (n : Nat) (l : List ITV) (w : World) (hwf : (Lit.int .i64 pages).wf = true) (hr : ItsIn w v a n l) (hT : Tab w) :
    Calls Tryd.prog 9 #[.int .i64 pages, v] w fun e w' => e = .returned (.bool true) ∧ Keeps (fun _ => False) w w' := by
  have HWK := Lib.hid (rwakes w hT hT.lt)
  have HT := Lib.hid hT
  obtain ⟨c, rfl, hnc, hcm⟩ := hr.form
  have HR := Lib.hid hr
  have hsz : -9223372036854775808 ≤ pages ∧ pages ≤ 9223372036854775807 := by simpa [Lit.wf, IntKind.min, IntKind.max, IntKind.signed, IntKind.bits] using hwf
  have HSZ := Lib.hid hsz
  clear hr hT hwf hsz
  go_enter Tryd.func9, Tryd.ntmps9
  go_wp2_with fail
  refine HWK.out.mono ?_
  rintro e w1 ⟨rfl, hk1⟩
  have HK1 := Lib.hid hk1
  clear hk1 HWK
  go_upto_region 3 with fail
  go_cut [5] (fun s5 wx => PagC w1 s5 wx)
  case first =>
    have hsz := HSZ.out
    by_cases h0 : 0 ≤ pages
    · have e1 : pages.tmod 6 = ((pages.toNat % 6 : Nat) : Int) := by
        rw [Int.tmod_eq_emod_of_nonneg h0]; omega
      obtain ⟨m, hm⟩ : ∃ m, m = pages.toNat % 6 := ⟨_, rfl⟩
      have hm5 : m ≤ 5 := by omega
      rw [← hm] at e1
      clear hm
      go_wp2_with fail
      go_meet
      exact ⟨m + 1, by omega, by omega, by go_num, rfl⟩
    · have h0' : ¬ (0 < pages) := by omega
      go_wp2_with fail
      go_meet
      exact ⟨1, by omega, by omega, rfl, rfl⟩
  case rest =>
    obtain ⟨N, hN1, hN6, rfl, hwc⟩ := hcut
    obtain rfl := hwc.symm
    have HN := Lib.hid (rnew_ok N hN1 (by omega) w1)
    unfold RNewP RL.ptr at HN
    have hmm := @run_makeMap Tryd.prog
    go_wp2_with fail
    refine HN.out.mono ?_
    rintro e w2 ⟨L, rfl, hr2, hlo, hk2⟩
    have HR2 := Lib.hid hr2
    have HLO := Lib.hid hlo
    have HK2 := Lib.hid (HK1.out.trans hk2)
    clear hr2 hlo hk2 HN
    go_upto_region 8 with fail
    obtain ⟨w4, hw4⟩ : ∃ w4, w4 = w2.alloc (.map #[] 0) := ⟨_, rfl⟩
    have hk4 : Keeps (fun _ => False) w2 w4 := by rw [hw4]; exact (Keeps.refl _ _).alloc _
    have hs4 : w4.heap.size = w2.heap.size + 1 := by rw [hw4]; simp
    have hm4 : MapV 9 w4 w2.heap.size 0 (fun _ => none) := by rw [hw4]; exact MapV.made 9 w2
    rw [← hw4]
    have HOW : Hid (∀ k, L.own k → k < w2.heap.size) := Lib.hid HR2.out.lt.2.2.2
    have HP0 : Hid (KpR w4 L N w2.heap.size l (AD.fresh N) [] (fun _ => none) w4) := Lib.hid ⟨HR2.out.quiet hk4, rfl, hm4, (fun h hh => by cases hh), (fun k v h => by cases h), Keeps.refl _ _⟩
    have HK4 := Lib.hid (HK2.out.trans hk4)
    have HARG : Hid (∀ W, Keeps (fun k => L.own k ∨ k = w2.heap.size) w4 W → Keeps (fun k => w1.heap.size ≤ k) w W) := Lib.hid (fun W hk => (HK4.out.mono (S' := fun k => w1.heap.size ≤ k) fun _ _ h => h.elim).trans (hk.mono fun k _ h => by
      rcases h with h | rfl
      · exact HLO.out k h
      · have h1 := HK2.out.size
        have h2 := HK1.out.size
        have h3 := HR2.out.lt.1
        have h4 := HLO.out _ (.inl rfl : L.own L.B)
        omega))
    clear hk4 hm4 hw4
    go_upto_block 0 with fail
    go_cut [] (fun wx => ∃ D hs f, KpR w4 L N w2.heap.size l D hs f wx)
    case first =>
      go_wp2_with fail
      go_loopw [37] (fun s37 wr => ∃ (t : Nat) (D : AD) (hs : List HM) (f : Lit → Option Value), t ≤ n ∧ t ≤ 60 ∧ s37 = .int .i64 (t : Int) ∧ KpR w4 L N w2.heap.size l D hs f wr) (fun s37 _ => 61 - (intOf s37).toNat)
      case atStart => exact ⟨0, _, _, _, by omega, by omega, rfl, HP0.out⟩
      case round =>
        obtain ⟨t, D, hs, f, ht, ht60, rfl, hK⟩ := hrel
        have HK := Lib.hid hK
        clear hK
        by_cases hlt : t < n
        · have hlt' : (t : Int) < (n : Int) := by omega
          obtain ⟨o, ho⟩ : ∃ o, l[t]? = some o := ⟨_, List.getElem?_eq_getElem (by rw [HR.out.len]; exact hlt)⟩
          have hom : o ∈ l := List.mem_of_getElem? ho
          have hoin := HR.out.good o hom
          obtain ⟨b, off, ha, hbl, hcell⟩ := HR.out.cell t o ho
          subst ha
          have HKW : Hid (Keeps (fun k => w1.heap.size ≤ k) w wr) := Lib.hid (HARG.out wr HK.out.keeps)
          have hcr : ∀ j u, (o.it.cells o.kv o.vv)[j]? = some u → wr.cell? ⟨b, off + t * 6 + j, none⟩ = some u := fun j u hj => by
            have h1 := HK1.out.size
            rw [HKW.out.cell (p := ⟨b, off + t * 6 + j, none⟩) hbl (by show ¬ (w1.heap.size ≤ b); omega)]
            exact hcell j u hj
          obtain ⟨ka, kc, hka, _⟩ := hoin.b.k
          obtain ⟨va, vc, hva, _⟩ := hoin.b.v
          have x0 := hcr 0 _ rfl
          have x1 := hcr 1 _ rfl
          have x2 := hcr 2 _ rfl
          have x3 := hcr 3 _ rfl
          have x4 := hcr 4 _ rfl
          have x5 := hcr 5 _ rfl
          rw [hka] at x0
          rw [hva] at x1
          simp only [Nat.add_zero] at x0
          have HOM := Lib.hid hom
          have HOI := Lib.hid hoin
          have HKA := Lib.hid hka
          have HVA := Lib.hid hva
          have hsz1 := HK1.out.size
          clear hcell hcr hom hoin hka hva
          by_cases h60 : t = 60
          · have h60' : ((t : Int) == 60) = true := by simp; omega
            clear h60
            go_wp2_with fail
            go_meet
            exact ⟨_, _, _, HK.out.quiet ((Keeps.refl _ _).alloc _)⟩
          · have h60' : ((t : Int) == 60) = false := by simp; omega
            go_upto_region 12 with fail
            obtain ⟨W1, hW1⟩ : ∃ W1, W1 = wr.alloc (.cells #[.slice ka o.it.key.length kc, .slice va o.it.val.length vc, .int .u32 o.it.fg, .int .u32 o.it.ex, .int .u64 o.it.sq, .bool o.it.dt] 64) := ⟨_, rfl⟩
            have hkW1 : Keeps (fun _ => False) wr W1 := by rw [hW1]; exact (Keeps.refl _ _).alloc _
            have hbx1 : Blk W1 wr.heap.size 64 [.slice ka o.it.key.length kc, .slice va o.it.val.length vc, .int .u32 o.it.fg, .int .u32 o.it.ex, .int .u64 o.it.sq, .bool o.it.dt] := by rw [hW1]; exact Blk.new wr 64 _
            have HKW1 := Lib.hid hkW1
            have HBX := Lib.hid hbx1
            have hib : ItB W1 o.it o.kv o.vv := HOI.out.b.old (HKW.out.trans (hkW1.mono fun _ _ h => h.elim)) (fun k hk => by
              have h1 := HK1.out.size
              have hk : w1.heap.size ≤ k := hk
              omega)
            have HIB := Lib.hid hib
            have y0 := hbx1.cell (i := 0) rfl
            have y1 := hbx1.cell (i := 1) rfl
            have y2 := hbx1.cell (i := 2) rfl
            have y3 := hbx1.cell (i := 3) rfl
            have y4 := hbx1.cell (i := 4) rfl
            have y5 := hbx1.cell (i := 5) rfl
            rw [← hW1]
            have hnext : t + 1 ≤ n := by omega
            rcases HOI.out.ok_or with hbad | hok
            · have HPB := Lib.hid (put_bad L D hs o.it o.kv o.vv W1 (HK.out.ra.quiet hkW1) hib hbad)
              unfold PutBad IT.agg RL.ptr at HPB
              rw [HKA.out, HVA.out] at HPB
              clear hbad hib hkW1 hbx1 hW1 x0 x1 x2 x3 x4 x5
              go_wp2_with fail
              refine HPB.out.mono ?_
              rintro e w5 ⟨rfl, hk5⟩
              have HKF := Lib.hid (HK.out.quiet (HKW1.out.trans hk5))
              clear hk5 HPB y0 y1 y2 y3 y4 y5
              go_wp2_with fail
              go_roundw
              case rel => exact ⟨t + 1, _, _, _, hnext, by omega, by go_num, HKF.out⟩
              case measure => simp [intOf]; omega
            · have HOK := Lib.hid hok
              have HPT := Lib.hid (put_any_item L D hs o.it o.kv o.vv W1 (HK.out.ra.quiet hkW1) (HT.out.keep (HKW.out.trans (hkW1.mono fun _ _ h => h.elim)) (fun h => by
                have h1 := HK1.out.size
                have h2 := HT.out.lt
                have h : w1.heap.size ≤ 0 := h
                omega)) hok hib (fun k hk e => by
                have h0 := HLO.out k hk
                have h1 := HK1.out.size
                have h2 := HT.out.lt
                omega) (fun a n c e hn ho => by
                have h0 := HLO.out _ ho
                have h1 := HK1.out.size
                have h2 := HOI.out.b.k.lt a n c e hn
                omega) (fun a n c e hn ho => by
                have h0 := HLO.out _ ho
                have h1 := HK1.out.size
                have h2 := HOI.out.b.v.lt a n c e hn
                omega))
              unfold IT.agg RL.ptr at HPT
              rw [HKA.out, HVA.out] at HPT
              clear hok hib hkW1 hbx1 hW1 x0 x1 x2 x3 x4 x5
              go_wp2_with fail
              refine HPT.out.mono ?_
              rintro e w5 ⟨D1, hs1, s8, rfl, hless, hdone, hkp⟩
              obtain ⟨D2, hs2, gone, x, D3, hre, hgs, hxi, hxc, hra, hrow, hrd⟩ := hdone
              obtain ⟨sa, sc, hs8⟩ := own_form hrow
              subst hs8
              have HLS := Lib.hid hless
              have HKP := Lib.hid hkp
              have HRE := Lib.hid hre
              have HGS := Lib.hid hgs
              have HXI := Lib.hid hxi
              have HRA := Lib.hid hra
              have HROW := Lib.hid hrow
              have HRD := Lib.hid hrd
              obtain ⟨gn, hgn⟩ : ∃ gn, gn = gone.length := ⟨_, rfl⟩
              have HGN := Lib.hid hgn
              rw [← hgn] 
              have hgn9 : gn ≤ 10000 := by
                have h1 := hre.sub.2.2.2
                have h2 := HK.out.ra.len
                have h3 : hs1.length ≤ hs.length := by
                  rcases hless with ⟨_, _, rfl⟩ | ⟨xs, x, ys, rfl, _, _, rfl⟩
                  · exact Nat.le_refl _
                  · simp
                omega
              have hBl : ¬ L.own w2.heap.size := fun ho => by
                have := HOW.out _ ho
                omega
              have HIN : Hid (InR w5 w2.heap.size f gone hs.length 0 f w5) := Lib.hid ⟨(HK.out.mp.keep HKW1.out id).keep hkp hBl, fun _ _ => rfl, (fun q hq => by simp at hq), Keeps.refl _ _⟩
              clear hless hkp hre hgs hxi hxc hra hrow hrd hgn HPT y0 y1 y2 y3 y4 y5
              go_upto_region 16 with fail
              obtain ⟨wo, rfl⟩ : ∃ wo : World, wo = wr := ⟨_, rfl⟩
              have hwW : w2.heap.size < W1.heap.size := by
                have h1 := HK.out.keeps.size
                have h2 := HKW1.out.size
                omega
              have hi1 : RInv D1 hs1 := by
                rcases HLS.out with ⟨_, rfl, rfl⟩ | ⟨xs, x0, ys, rfl, _, rfl, rfl⟩
                · exact HK.out.ra.inv
                · exact HK.out.ra.inv.out
              have HI1 := Lib.hid hi1
              have HNE1 : Hid (∀ q ∈ hs1, q.it.key ≠ o.it.key) := Lib.hid (by
                rcases HLS.out with ⟨hn, rfl, rfl⟩ | ⟨xs, x0, ys, rfl, hk, rfl, rfl⟩
                · exact hn
                · rw [← hk]; exact HK.out.ra.inv.keyne)
              clear hi1
              go_wp2_with fail
              go_loopw [56] (fun s56 wr => ∃ (j : Nat) (fj : Lit → Option Value), j ≤ gn ∧ s56 = .int .i64 (j : Int) ∧ InR w5 w2.heap.size f gone hs.length j fj wr) (fun s56 _ => gn - (intOf s56).toNat)
              case atStart => exact ⟨0, _, by omega, rfl, HIN.out⟩
              case round =>
                obtain ⟨j, fj, hj, rfl, hI⟩ := hrel
                have HI := Lib.hid hI
                clear hI
                by_cases hjl : j < gn
                · have hjl' : (j : Int) < (gn : Int) := by omega
                  obtain ⟨y, hy⟩ : ∃ y, gone[j]? = some y := ⟨_, List.getElem?_eq_getElem (by rw [← HGN.out]; exact hjl)⟩
                  have hyg : y ∈ gone := List.mem_of_getElem? hy
                  have hy1 : y ∈ hs1 := HRE.out.sub.2.1 y hyg
                  have hyh : y ∈ hs := HLS.out.sub y hy1
                  have hyok := (HI1.out.good y hy1).1
                  obtain ⟨oy, hoy, hoe, hof⟩ := HK.out.src y hyh
                  have hfj : fj (atK y) = some (oy.it.agg oy.kv oy.vv) := by
                    rw [HI.out.kept _ (fun q hq e => pair_take (List.pairwise_append.1 (HRE.out.keys HI1.out).1).1 hy q hq (atK_inj (HI1.out.good q (HRE.out.sub.2.1 q (List.mem_of_mem_take hq))).1 hyok e))]
                    exact hof
                  rw [hoe] at hfj
                  obtain ⟨g, cap, hg⟩ := own_formS HROW.out (by rw [← HGN.out]; omega)
                  injection hg with hg _ hg'
                  subst hg hg'
                  have hgb := own_heap HROW.out (g := g) rfl
                  have hgne : ¬ (g = w2.heap.size) := by omega
                  have hrow : ∀ i u, (y.it.cells y.kv y.vv)[i]? = some u → wr.cell? ⟨g, j * 6 + i, none⟩ = some u := fun i u hu => by
                    have h0 := HROW.out.cells (g := g) rfl _ u (itemCells_at hy hu)
                    rw [add0] at h0
                    rw [HI.out.keeps.cell (p := ⟨g, j * 6 + i, none⟩) hgb.2.1 hgne]
                    exact h0
                  have hrdy : Reads wr y.it y.kv y.vv := (HRD.out y hyg).1.keep HI.out.keeps (fun q hq e => map_ne_own HIN.out.mp (HRD.out y hyg).1.k (e ▸ hq)) (fun q hq e => map_ne_own HIN.out.mp (HRD.out y hyg).1.v (e ▸ hq))
                  have hoyin := HR.out.good oy hoy
                  have hwwr : Keeps (fun k => w1.heap.size ≤ k) w wr := (HKW.out.trans (HKW1.out.mono fun _ _ h => h.elim)).trans ((HKP.out.mono (S' := fun k => w1.heap.size ≤ k) fun k _ h => HLO.out k h).trans (HI.out.keeps.mono fun k _ h => by
                    have h : k = w2.heap.size := h
                    have h1 := HK2.out.size
                    have h3 := HOW.out _ (.inl rfl : L.own L.B)
                    have h4 := HLO.out _ (.inl rfl : L.own L.B)
                    omega))
                  have hib2 : ItB wr oy.it oy.kv oy.vv := hoyin.b.old hwwr (fun k hk => by
                    have h1 := HK1.out.size
                    have hk : w1.heap.size ≤ k := hk
                    omega)
                  rw [hoe] at hib2
                  have HIB2 := Lib.hid hib2
                  have HRY := Lib.hid hrdy
                  have HYOK := Lib.hid hyok
                  obtain ⟨yk, yc, hyk, _⟩ := own_bytes hrdy.k
                  obtain ⟨yv, yd, hyv, _⟩ := own_bytes hrdy.v
                  obtain ⟨⟨zk, zc, hzk, _⟩, ⟨zv, zd, hzv, _⟩⟩ := hib2
                  have x0 := hrow 0 _ rfl
                  have x1 := hrow 1 _ rfl
                  have x2 := hrow 2 _ rfl
                  have x3 := hrow 3 _ rfl
                  have x4 := hrow 4 _ rfl
                  have x5 := hrow 5 _ rfl
                  rw [hyk] at x0
                  rw [hyv] at x1
                  simp only [Nat.add_zero] at x0
                  have HFJ := Lib.hid hfj
                  have HCV : Hid (∀ W, Keeps (fun _ => False) wr W → (convert 56 9 (.slice yk y.it.key.length yc)).run Tryd.prog W = .ok (.string (strOfNums y.it.key)) W) := Lib.hid (fun W hk => by rw [← hyk]; exact conv_slb ((SlB.of_own HRY.out.k).quiet hk))
                  have HLK : Hid (∀ W, Keeps (fun _ => False) wr W → (Instr.lookup 67 (.map (some w2.heap.size)) (.string (strOfNums y.it.key)) true).run Tryd.prog W = .ok (.tuple #[.agg #[.slice zk y.it.key.length zc, .slice zv y.it.val.length zd, .int .u32 y.it.fg, .int .u32 y.it.ex, .int .u64 y.it.sq, .bool y.it.dt], .bool true]) W) := Lib.hid (fun W hk => by
                    have l1 := (HI.out.mp.keep hk id).look_ok strK Tryd.underlying67 (z64 W) (key9 (k := y.it.key) (by have := HYOK.out.k2; omega))
                    rw [show fj (keyL y.it.key) = some (y.it.agg oy.kv oy.vv) from HFJ.out] at l1
                    rw [l1]
                    unfold IT.agg
                    rw [hzk, hzv]
                    rfl)
                  have HEQ : Hid (∀ W, Keeps (fun _ => False) wr W → Calls Tryd.prog 35 #[.slice yv y.it.val.length yd, .slice zv y.it.val.length zd] W (BoolP true W)) := Lib.hid (fun W hk => by
                    have h := equal_any y.vv oy.vv y.it.val y.it.val W ((SlB.of_own HRY.out.v).quiet hk) (HIB2.out.v.quiet hk) (by have := HYOK.out.v2; omega) (by have := HYOK.out.v2; omega)
                    rw [decide_eq_true rfl, hyv, hzv] at h
                    exact h)
                  have HCX : Hid (∀ W, Keeps (fun k => k = w2.heap.size) w5 W → W.cell? ⟨wo.heap.size, 0, none⟩ = some (.slice ka o.it.key.length kc) ∧ (convert 56 9 (.slice ka o.it.key.length kc)).run Tryd.prog W = .ok (.string (strOfNums o.it.key)) W) := Lib.hid (fun W hk => by
                    have hbw : ¬ L.own wo.heap.size := fun ho => by
                      have h1 := HOW.out _ ho
                      have h2 := HK.out.keeps.size
                      omega
                    have h1 := (HKP.out.blk HBX.out hbw)
                    have h2 := hk.blk h1 (fun e => by
                      have e : wo.heap.size = w2.heap.size := e
                      have h2 := HK.out.keeps.size
                      omega)
                    refine ⟨h2.cell (i := 0) rfl, ?_⟩
                    rw [← HKA.out]
                    refine conv_slb ((HIB.out.k.keep HKP.out (fun a n c e hn ho => ?_)).keep hk (fun a n c e hn ho => ?_))
                    · have h0 := HLO.out _ ho
                      have h1 := HK1.out.size
                      have h2 := HOI.out.b.k.lt a n c e hn
                      omega
                    · have ho : a.block = w2.heap.size := ho
                      have h1 := HK1.out.size
                      have h3 := HOI.out.b.k.lt a n c e hn
                      have h4 := HK2.out.size
                      omega)
                  have HNK : Hid (((strOfNums y.it.key).toList == (strOfNums o.it.key).toList) = false) := Lib.hid (by
                    rw [ByteArray.toList_eq, ByteArray.toList_eq, beq_eq_false_iff_ne]
                    intro e
                    exact HNE1.out y hy1 (keyL_inj HYOK.out.kb HOK.out.kb (by unfold keyL; rw [e])))
                  have HY := Lib.hid hy
                  clear hy hyg hy1 hyh hyok hoy hoe hof hfj hgb hgne hrow hrdy hoyin hwwr hyk hyv hzk hzv
                  go_upto_region 19 with fail
                  obtain ⟨W6, hW6⟩ : ∃ W6, W6 = wr.alloc (.cells #[.slice yk y.it.key.length yc, .slice yv y.it.val.length yd, .int .u32 y.it.fg, .int .u32 y.it.ex, .int .u64 y.it.sq, .bool y.it.dt] 64) := ⟨_, rfl⟩
                  have hk6 : Keeps (fun _ => False) wr W6 := by rw [hW6]; exact (Keeps.refl _ _).alloc _
                  have hb6 : Blk W6 wr.heap.size 64 [.slice yk y.it.key.length yc, .slice yv y.it.val.length yd, .int .u32 y.it.fg, .int .u32 y.it.ex, .int .u64 y.it.sq, .bool y.it.dt] := by rw [hW6]; exact Blk.new wr 64 _
                  have p0 := hb6.cell (i := 0) rfl
                  have cv6 := HCV.out W6 hk6
                  have lk6 := HLK.out W6 hk6
                  rw [← hW6]
                  clear hW6 x0 x1 x2 x3 x4 x5
                  have HB6 := Lib.hid hb6
                  have HK6 := Lib.hid hk6
                  clear hb6 hk6
                  go_upto_region 20 with fail
                  obtain ⟨W7, hW7⟩ : ∃ W7, W7 = W6.alloc (.cells #[.slice zk y.it.key.length zc, .slice zv y.it.val.length zd, .int .u32 y.it.fg, .int .u32 y.it.ex, .int .u64 y.it.sq, .bool y.it.dt] 64) := ⟨_, rfl⟩
                  have hk7 : Keeps (fun _ => False) W6 W7 := by rw [hW7]; exact (Keeps.refl _ _).alloc _
                  have hb7 : Blk W7 W6.heap.size 64 [.slice zk y.it.key.length zc, .slice zv y.it.val.length zd, .int .u32 y.it.fg, .int .u32 y.it.ex, .int .u64 y.it.sq, .bool y.it.dt] := by rw [hW7]; exact Blk.new W6 64 _
                  have hb67 := hk7.blk HB6.out id
                  have q1 := hb67.cell (i := 1) rfl
                  have r1 := hb7.cell (i := 1) rfl
                  have HE7 := Lib.hid (HEQ.out W7 (HK6.out.trans hk7))
                  rw [← hW7]
                  have HB7 := Lib.hid hb7
                  have HB67 := Lib.hid hb67
                  have HK7 := Lib.hid (HK6.out.trans hk7)
                  unfold BoolP at HE7
                  clear hW7 p0 cv6 lk6 hb7 hb67 hk7
                  go_wp2_with fail
                  refine HE7.out.mono ?_
                  rintro e w8 ⟨rfl, hk8⟩
                  have HK8 := Lib.hid (HK7.out.trans hk8)
                  have hb8 := hk8.blk HB67.out id
                  have hc8 := hk8.blk HB7.out id
                  have q0 := hb8.cell (i := 0) rfl
                  have q4 := hb8.cell (i := 4) rfl
                  have r4 := hc8.cell (i := 4) rfl
                  have cv8 := HCV.out w8 HK8.out
                  obtain ⟨z0, cx8⟩ := HCX.out w8 (HI.out.keeps.trans (HK8.out.mono fun _ _ h => h.elim))
                  have hnk := HNK.out
                  clear hk8 q1 r1 HE7 hb8 hc8
                  go_upto_region 22 with fail
                  clear q4 r4 z0 cx8 hnk
                  go_wp2_with (at_delete; refine wpList_mdel _ rfl _ _ 67 9 rfl 64 strK Tryd.underlying67 w2.heap.size (hs.length - j) fj rfl (HI.out.mp.keep HK8.out id) _ (keyL y.it.key) rfl (key9 (by have := HYOK.out.k2; omega)) ?_; intro w9 hm9 hk9)
                  have HSO : Hid ((fj (atK y)).isSome = true) := Lib.hid (by rw [HFJ.out]; rfl)
                  rw [show (fj (keyL y.it.key)).isSome = true from HSO.out, if_pos rfl] at hm9
                  have HST := Lib.hid (HI.out.step HY.out HSO.out hm9 ((HK8.out.mono fun _ _ h => h.elim).trans hk9))
                  have hj1 : j + 1 ≤ gn := by omega
                  clear hm9 hk9 q0 cv8
                  go_wp2_with fail
                  go_roundw
                  case rel => exact ⟨j + 1, _, hj1, by go_num, HST.out⟩
                  case measure => simp [intOf]; omega
                · have hjl' : ¬ ((j : Int) < (gn : Int)) := by omega
                  obtain rfl : j = gn := by omega
                  rw [HGN.out] at HI
                  have hBma : L.ma ≠ w2.heap.size := fun e => by
                    have := HOW.out _ (.inr (.inl rfl) : L.own L.ma)
                    omega
                  have hBmt : L.mt ≠ w2.heap.size := fun e => by
                    have := HOW.out _ (.inr (.inr (.inl rfl)) : L.own L.mt)
                    omega
                  have hbw : ¬ L.own wo.heap.size := fun ho => by
                    have h1 := HOW.out _ ho
                    have h2 := HK.out.keeps.size
                    omega
                  have hbx := HI.out.keeps.blk (HKP.out.blk HBX.out hbw) (fun e => by
                    have e : wo.heap.size = w2.heap.size := e
                    have h2 := HK.out.keeps.size
                    omega)
                  have hcvx : (convert 56 9 (.slice ka o.it.key.length kc)).run Tryd.prog wr = .ok (.string (strOfNums o.it.key)) wr := by
                    rw [← HKA.out]
                    refine conv_slb ((HIB.out.k.keep HKP.out (fun a n c e hn ho => ?_)).keep HI.out.keeps (fun a n c e hn ho => ?_))
                    · have h0 := HLO.out _ ho
                      have h1 := HK1.out.size
                      have h2 := HOI.out.b.k.lt a n c e hn
                      omega
                    · have ho : a.block = w2.heap.size := ho
                      have h1 := HK1.out.size
                      have h3 := HOI.out.b.k.lt a n c e hn
                      have h4 := HK2.out.size
                      omega
                  have hlen : hs.length - gone.length < maxLen := by
                    have := HK.out.ra.len
                    unfold maxLen
                    omega
                  obtain ⟨w10, hrun, hm10, hk10⟩ := HI.out.mp.put strK Tryd.underlying67 hlen (key9 (k := o.it.key) (by have := HOK.out.k2; omega)) (o.it.agg o.kv o.vv)
                  have hra10 := (HRA.out.keepM HIN.out.mp HI.out.keeps hBma hBmt).keepM HI.out.mp hk10 hBma hBmt
                  have hke10 : Keeps (fun k => L.own k ∨ k = w2.heap.size) w4 w10 := (((HK.out.keeps.trans (HKW1.out.mono fun _ _ h => h.elim)).trans (HKP.out.mono fun _ _ h => .inl h)).trans (HI.out.keeps.mono fun _ _ h => .inr h)).trans (hk10.mono fun _ _ h => .inr h)
                  have HNX := Lib.hid (HK.out.next HOM.out HOK.out HLS.out HRE.out HGS.out HXI.out HI.out hra10 hm10 hke10)
                  have hb10 := hk10.blk hbx (fun e => by
                    have e : wo.heap.size = w2.heap.size := e
                    have h2 := HK.out.keeps.size
                    omega)
                  have HCG := Lib.hid (charge_all L D3 (x :: hs2) w10 hra10)
                  have HLN := Lib.hid (len_any' L D3 (x :: hs2) w10 hra10)
                  have hfit := hra10.inv.fits
                  rw [HNX.out.n] at hfit
                  have hml := fun ty => HNX.out.mp.len Tryd.underlying67 ty
                  unfold IT.agg at hrun
                  rw [HKA.out, HVA.out] at hrun
                  unfold RL.ptr at HCG HLN
                  have z0 := hbx.cell (i := 0) rfl
                  have z1 := hbx.cell (i := 1) rfl
                  have z2 := hbx.cell (i := 2) rfl
                  have z3 := hbx.cell (i := 3) rfl
                  have z4 := hbx.cell (i := 4) rfl
                  have z5 := hbx.cell (i := 5) rfl
                  obtain ⟨C, hC⟩ : ∃ C, C = sumC (x :: hs2) := ⟨_, rfl⟩
                  rw [← hC] at HCG hfit
                  have hcmp : ¬ ((1024 : Int) * (N : Int) < (C : Int)) := by omega
                  have hml' := hml 3
                  clear hml hm10 hk10 hra10 hke10 hbx hb10 hC hlen
                  go_upto_region 25 with fail
                  obtain ⟨M, hM⟩ : ∃ M, M = (x :: hs2).length := ⟨_, rfl⟩
                  rw [← hM] at HLN hml'
                  clear hM z0 z1 z2 z3 z4 z5 hrun hcvx
                  go_wp2_with fail
                  refine HCG.out.mono ?_
                  rintro e w' ⟨rfl, hw⟩
                  rw [hw]
                  clear hw
                  go_wp2_with fail
                  refine HLN.out.mono ?_
                  rintro e w'' ⟨rfl, hw⟩
                  rw [hw]
                  clear hw
                  go_wp2_with fail
                  go_roundw
                  case rel => exact ⟨t + 1, _, _, _, hnext, by omega, by go_num, HNX.out⟩
                  case measure => simp [intOf]; omega
        · have hlt' : ¬ ((t : Int) < (n : Int)) := by omega
          go_wp2_with fail
          go_meet
          exact ⟨_, _, _, HK.out⟩
    case rest =>
      obtain ⟨D, hs, f, hK⟩ := hcut
      obtain ⟨wk, rfl⟩ : ∃ wk, wk = wc := ⟨_, rfl⟩
      obtain ⟨Dm, ho, htd, hsz, hhas, hat⟩ := hK.mp
      have HK := Lib.hid hK
      have HAT := Lib.hid hat
      have hwk : w2.heap.size < wk.heap.size := hK.mp.lt
      have hR0 : ∀ w6, w6.ranges Tryd.prog 9 heldR w2.heap.size wk.heap.size hs.length Dm (Maps.has Dm) (Maps.size Dm) → wk.grownBy w6 none → RgR wk L w2.heap.size wk.heap.size hs.length Dm D hs f (Maps.has Dm) (Maps.size Dm) hs w6 := fun w6 hrg hg => by
        have hk : Keeps (fun _ => False) wk w6 := (Keeps.of_grown hg).mono fun k _ e => by cases e
        exact ⟨hK.ra.quiet hk, fun q => Iff.rfl, hrg, fun kl h => by rw [← hhas]; exact h, hk.mono fun _ _ h => h.elim⟩
      have HR0 := Lib.hid hR0
      have HOWN := Lib.hid ho
      clear hK hat ho htd hsz hhas hR0
      go_wp2_with (at_range; refine wpList_range_own _ rfl _ 67 rfl 9 64 strK Tryd.underlying67 heldR w2.heap.size _ Dm rfl HOWN.out ?_)
      intro w6 hrg hg0 hsz6
      have HRG0 := Lib.hid (HR0.out w6 hrg hg0)
      clear hrg hg0
      go_wp2_with fail
      go_loopw [] (fun wx => ∃ (left : Lit → Bool) (cnt : Nat) (hs' : List HM), RgR wk L w2.heap.size wk.heap.size hs.length Dm D hs f left cnt hs' wx) (fun wx => wx.rangeLeft w2.heap.size wk.heap.size)
      case atStart => exact ⟨_, _, _, HRG0.out⟩
      case round =>
        obtain ⟨left, cnt, hs', hrel⟩ := hrel
        have HRR := Lib.hid hrel
        have HRG := Lib.hid hrel.rg
        clear hrel
        go_wp2_with (at_next; refine wpList_next_ranges _ rfl _ rfl 9 strK heldR Value.string (fun v : Value => v) (fun key kl h => keyOf_str_inv h) (fun v _ _ => ⟨v, rfl⟩) w2.heap.size _ hs.length Dm left cnt rfl HRG.out ?_ ?_)
        · intro hc0 hl0
          clear hc0 hl0
          go_wp2_with fail
          go_ret
          refine ⟨rfl, (HARG.out _ HK.out.keeps).trans (HRR.out.keeps.mono (S' := fun k => w1.heap.size ≤ k) fun k _ h => HLO.out k h) |>.mono fun k hk h => ?_⟩
          have h1 := HK1.out.size
          have h : w1.heap.size ≤ k := h
          omega
        · intro x cv kl y1 y2 w3 cnt2 hkey hleft hy hat2 hrg3 hlt hg3 hsz3 hent
          have hks := keyOf_str_eq hkey
          have hcf : f kl = some cv := by
            have hs1 := HRR.out.sub kl hleft
            unfold heldR at hy
            injection hy with hy
            injection hy with hy _
            cases hf : f kl with
            | none => rw [hf] at hs1; cases hs1
            | some v =>
              have h1 := HAT.out kl v
              rw [hat2 (.held v), hf] at h1
              have h2 : y1 = .held v := h1
              rw [← hy] at h2
              injection h2 with h2
              rw [h2]
          obtain ⟨h, hh, hak⟩ := HK.out.out kl cv hcf
          obtain ⟨o, hol, hoe, hof⟩ := HK.out.src h hh
          rw [hak, hcf] at hof
          have hcv : cv = o.it.agg o.kv o.vv := Option.some.inj hof
          have hxs : x = strOfNums h.it.key := str_of_key (by rw [← hks, ← hak]; rfl)
          obtain ⟨xs, ys, hxy⟩ := List.append_of_mem ((HRR.out.mem h).2 hh)
          subst hxs
          have hkr : Keeps (fun q => q = wk.heap.size) wr w3 := (Keeps.of_grown hg3).mono fun k _ e => (Option.some.inj e).symm
          have hwkr : Keeps L.own wk w3 := ((HRR.out.keeps.mono (S' := fun q => L.own q ∨ wk.heap.size ≤ q) fun _ _ h => .inl h).trans (hkr.mono fun q _ e => .inr (by have e : q = wk.heap.size := e; omega))).mono fun q hq h => h.elim id fun h => by omega
          have hgood := (HRR.out.ra.inv.good h ((HRR.out.mem h).2 hh)).1
          have hra3 : RAt w3 L D (xs ++ h :: ys) := by
            rw [← hxy]
            have h0 := HRR.out.ra
            have hlt : ∀ q, L.own q → q < wk.heap.size := fun q hq => Nat.lt_trans (HOW.out q hq) hwk
            exact iter_keep h0 HRG.out hkr
          have hib : ItB w3 o.it o.kv o.vv := (HR.out.good o hol).b.old ((HARG.out _ HK.out.keeps).trans (hwkr.mono (S' := fun k => w1.heap.size ≤ k) fun k _ h => HLO.out k h)) (fun k hk => by
            have h1 := HK1.out.size
            have hk : w1.heap.size ≤ k := hk
            omega)
          rw [hoe] at hib hcv
          have HIB := Lib.hid hib
          obtain ⟨⟨zk, zc, hzk, _⟩, ⟨zv, zd, hzv, _⟩⟩ := hib
          unfold IT.agg at hcv
          rw [hzk, hzv] at hcv
          subst hcv
          have HZV := Lib.hid hzv
          have HGD := Lib.hid hgood
          have HRA3 := Lib.hid hra3
          have HWK := Lib.hid hwkr
          have HRG3 := Lib.hid hrg3
          have HXY := Lib.hid hxy
          have HLT := Lib.hid hlt
          have HLEQ := Lib.hid (And.intro HRG.out.left_eq hrg3.left_eq)
          have HHH := Lib.hid hh
          have HOL := Lib.hid hol
          clear hkey hleft hy hat2 hrg3 hlt hg3 hsz3 hks hcf hh hak hol hoe hof hxy hkr hwkr hgood hra3 hzk hzv
          go_upto_region 31 with fail
          obtain ⟨W4, hW4⟩ : ∃ W4, W4 = w3.alloc (.cells #[.slice zk h.it.key.length zc, .slice zv h.it.val.length zd, .int .u32 h.it.fg, .int .u32 h.it.ex, .int .u64 h.it.sq, .bool h.it.dt] 64) := ⟨_, rfl⟩
          have hk4 : Keeps (fun _ => False) w3 W4 := by rw [hW4]; exact (Keeps.refl _ _).alloc _
          have hb4 : Blk W4 w3.heap.size 64 [.slice zk h.it.key.length zc, .slice zv h.it.val.length zd, .int .u32 h.it.fg, .int .u32 h.it.ex, .int .u64 h.it.sq, .bool h.it.dt] := by rw [hW4]; exact Blk.new w3 64 _
          have hs34 : w3.heap.size < W4.heap.size := hb4.lt
          rw [← hW4]
          obtain ⟨jc, w5, hcv, hsl, hk5, hs5⟩ := conv_new h.it.key HGD.out.kb W4
          have HG := Lib.hid (get_there L D xs ys h _ w5 (HRA3.out.quiet (hk4.trans hk5)) hsl)
          have HK5 := Lib.hid (hk4.trans hk5)
          have HB5 := Lib.hid (hk5.blk hb4 id)
          unfold GetP IT.agg RL.ptr at HG
          clear hk4 hb4 hsl hk5 hW4
          go_wp2_with fail
          refine HG.out.mono ?_
          rintro e w7 ⟨kv, vv, rfl, hrd7, hra7, hk7⟩
          obtain ⟨qa, qc, rfl, _⟩ := own_bytes hrd7.k
          obtain ⟨pa, pc, rfl, _⟩ := own_bytes hrd7.v
          have hno : ∀ q, wk.heap.size ≤ q → ¬ L.own q := fun q hq ho => by
            have := HOW.out q ho
            omega
          have hwk3 := HWK.out.size
          have hb7 := hk7.blk HB5.out (hno _ hwk3)
          have hk57 : Keeps L.own w3 w7 := (HK5.out.mono fun _ _ h => h.elim).trans hk7
          have HIB7 : Hid (ItB w7 h.it o.kv o.vv) := Lib.hid (HIB.out.keepL hk57 (fun a n c e hn ho => by
            have h0 := HLO.out _ ho
            have h1 := HK1.out.size
            have h2 := (HR.out.good o HOL.out).b.k.lt a n c e hn
            omega) (fun a n c e hn ho => by
            have h0 := HLO.out _ ho
            have h1 := HK1.out.size
            have h2 := (HR.out.good o HOL.out).b.v.lt a n c e hn
            omega))
          have HRA7 := Lib.hid hra7
          have HRD7 := Lib.hid hrd7
          have HB7 := Lib.hid hb7
          have HK57 := Lib.hid hk57
          clear hrd7 hra7 hk7 hb7 hk57 hcv hno HG
          go_upto_region 32 with fail
          obtain ⟨W8, hW8⟩ : ∃ W8, W8 = w7.alloc (.cells #[.slice qa h.it.key.length qc, .slice pa h.it.val.length pc, .int .u32 h.it.fg, .int .u32 h.it.ex, .int .u64 h.it.sq, .bool h.it.dt] 64) := ⟨_, rfl⟩
          have hk8 : Keeps (fun _ => False) w7 W8 := by rw [hW8]; exact (Keeps.refl _ _).alloc _
          have hb8 : Blk W8 w7.heap.size 64 [.slice qa h.it.key.length qc, .slice pa h.it.val.length pc, .int .u32 h.it.fg, .int .u32 h.it.ex, .int .u64 h.it.sq, .bool h.it.dt] := by rw [hW8]; exact Blk.new w7 64 _
          have hc8 := hk8.blk HB7.out id
          rw [← hW8]
          have heq := equal_any o.vv (.slice pa h.it.val.length pc) h.it.val h.it.val W8 (HIB7.out.v.quiet hk8) ((SlB.of_own HRD7.out.v).quiet hk8) (by have := HGD.out.v2; omega) (by have := HGD.out.v2; omega)
          rw [decide_eq_true rfl, HZV.out] at heq
          have HEQ := Lib.hid heq
          unfold BoolP at HEQ
          have q1 := hc8.cell (i := 1) rfl
          have r1 := hb8.cell (i := 1) rfl
          have HC8 := Lib.hid hc8
          have HB8 := Lib.hid hb8
          have HK8 := Lib.hid hk8
          clear hW8 hk8 hb8 hc8 heq
          go_wp2_with fail
          refine HEQ.out.mono ?_
          rintro e w9 ⟨rfl, hk9⟩
          have hc9 := hk9.blk HC8.out id
          have hb9 := hk9.blk HB8.out id
          have q2 := hc9.cell (i := 2) rfl
          have q3 := hc9.cell (i := 3) rfl
          have q4 := hc9.cell (i := 4) rfl
          have q5 := hc9.cell (i := 5) rfl
          have r2 := hb9.cell (i := 2) rfl
          have r3 := hb9.cell (i := 3) rfl
          have r4 := hb9.cell (i := 4) rfl
          have r5 := hb9.cell (i := 5) rfl
          have hk39 : Keeps L.own w3 w9 := HK57.out.trans ((HK8.out.trans hk9).mono fun _ _ h => h.elim)
          have hrg9 := ranges_keep HRG3.out hk39 (fun ho => by
            have := HOW.out _ ho
            omega) (fun ho => by
            have := HOW.out _ ho
            omega)
          have HNEW : Hid (RgR wk L w2.heap.size wk.heap.size hs.length Dm D hs f (fun z => left z && !z.sameKey kl) cnt2 (h :: (xs ++ ys)) w9) := Lib.hid ⟨HRA7.out.quiet (HK8.out.trans hk9), fun q => by
              rw [← HRR.out.mem q, HXY.out, mem_mid, List.mem_cons], hrg9, fun z hz => HRR.out.sub z (by simp at hz; exact hz.1), HWK.out.trans hk39⟩
          clear q1 r1 hk9 hc9 hb9 hk39 hrg9 HEQ
          go_wp2_with fail
          go_roundw
          case rel => exact ⟨_, _, _, HNEW.out⟩
          case measure =>
            rw [HNEW.out.rg.left_eq, HLEQ.out.1]
            exact HLT.out
theorem ramKeeps.walk (pages : Int) (v : Value) (a : Option Addr) (n : Nat) (l : List ITV) (W : World) (hwf : (Lit.int .i64 pages).wf = true) (hr : ItsIn W v a n l) (hT : Tab W) : Calls Tryd.prog 9 #[.int .i64 pages, v] W fun e w' => e = .returned (.bool true) ∧ Below W.heap.size W w' := by
  refine (keeps_law pages v a n l W hwf hr hT).mono ?_
  rintro e w' ⟨rfl, hk⟩
  exact ⟨rfl, hk.below (fun _ h => h.elim) (Nat.le_refl _)⟩
end Go.Proofs.YthnagihgjenimaaDoor
