/- RamOldest, walked. -/
import Derived.Test.YthnagihgjenimaaDoorRamL
import Derived.Test.YthnagihgjenimaaDoorRamS
import Derived.Deep.OwnRows
import Derived.Lib.ConvBytes
import Derived.Deep.RegionLaw
namespace Go.Proofs.YthnagihgjenimaaDoor
open Go.RowKit
set_option linter.unusedVariables false
set_option linter.unusedSimpArgs false
theorem infoB5 : (Tryd.prog.info? 5).map (fun i => (i.zero, i.size, i.bytes)) = some (some (.int .u8 0), 1, 1) := by kernel_rfl
theorem made_zb (n : Nat) : madeCells #[.int .u8 0] n = (nb (List.replicate n 0)).toArray := by
  apply Array.ext'
  rw [toList_madeCells_one]
  simp [nb]
theorem make_zb (n : Nat) (hn : n ≤ 65600) (w : World) : (Instr.makeSlice 56 (.int .i64 (n : Int)) (.int .i64 (n : Int))).run Tryd.prog w = .ok (.slice (some ⟨w.heap.size, 0, none⟩) n n) (w.alloc (.cells (nb (List.replicate n 0)).toArray 5)) := by
  rw [← made_zb]
  exact run_make_row' 56 5 (.int .u8 0) 1 Tryd.underlying56 infoB5 rfl .i64 .i64 n (by omega) (by omega) w
theorem blk_slb {w : World} {g c : Nat} {xs : List Int} (h : Blk w g 5 (nb xs)) : SlB w (.slice (some ⟨g, 0, none⟩) xs.length c) xs :=
  ⟨_, c, rfl, rfl, fun i hi => ⟨_, rfl, by
    rw [add0, h.cell (i := i) (v := .int .u8 xs[i]) (by simp [nb, hi])]
    simp [hi]⟩⟩
/-- []byte(s) -/
theorem conv_new (xs : List Int) (hb : Bytes xs) (w : World) : ∃ c w', (convert 9 56 (.string (strOfNums xs))).run Tryd.prog w = .ok (.slice (some ⟨w.heap.size, 0, none⟩) xs.length c) w' ∧ SlB w' (.slice (some ⟨w.heap.size, 0, none⟩) xs.length c) xs ∧ Keeps (fun _ => False) w w' ∧ w.heap.size < w'.heap.size := by
  have hsz : (strOfNums xs).size = xs.length := by
    have := congrArg List.length (strOfNums_data xs)
    simpa using this
  have h := _root_.Go.Lib.run_convert_string_bytes (P := Tryd.prog) w 9 56 5 (strOfNums xs) Tryd.underlying9 Tryd.underlying56 Tryd.underlying5
  rw [hsz] at h
  refine ⟨_, _, h, ⟨_, _, rfl, rfl, fun i hi => ⟨_, rfl, ?_⟩⟩, ?_, by rw [_root_.Go.Lib.bytesWorld_size]; omega⟩
  · rw [add0, _root_.Go.Lib.bytesWorld_cell w 5 _ i (by rw [hsz]; exact hi), strOfNums_data]
    have hx := hb _ (List.getElem_mem hi)
    simp [hi]
    omega
  · have h0 : Keeps (fun _ => False) w (w.drew.alloc (.cells (_root_.Go.Lib.bytesCells w 5 (strOfNums xs)) 5)) := ((Keeps.refl (fun _ => False) w).drew).alloc _
    refine ⟨?_, ?_, ?_, by rw [_root_.Go.Lib.bytesWorld_size]; omega, fun k hk _ => _root_.Go.Lib.bytesWorld_at_old w 5 _ k hk⟩
    · unfold _root_.Go.Lib.bytesWorld World.freeze; split <;> exact h0.os
    · unfold _root_.Go.Lib.bytesWorld World.freeze; split <;> exact h0.tape
    · unfold _root_.Go.Lib.bytesWorld World.freeze; split <;> exact h0.output
/-- A row that is none of memory's grows. -/
theorem RAt.grow {w w' : World} {L : RL} {D : AD} {hs : List HM} {base e size n : Nat} {v : Value} {xs : List Value} (h : RAt w L D hs) (ho : w.ownsRow base e size v n xs) (hg : w.grownBy w' v.ownBlock) (h1 : e ≠ 115) (h2 : e ≠ 98) (h3 : e ≠ 101) (h4 : e ≠ 130) (h5 : e ≠ 3) (h6 : e ≠ 5) : RAt w' L D hs := by
  have K := Keeps.of_grown hg
  obtain ⟨f, a1, a2⟩ := h.at'
  obtain ⟨f', a3, a4⟩ := h.th
  obtain ⟨hk, hl⟩ := h.li.blks
  refine ⟨K.blk h.obj (own_ne_blk h.obj ho h1), ⟨f, a1.keep K (map_ne_own a1 ho), a2⟩, ⟨f', a3.keep K (map_ne_own a3 ho), a4⟩, ar_keep h.ar K (own_ne_blk h.ar.obj ho h2) (own_ne_own ho h.ar.row h3 _ · rfl), ?_, h.lN, h.ln, h.inv, fun x hx => ?_, h.mm⟩
  · refine li_keep h.li K (own_ne_blk hk ho h4) fun b hb => ?_
    obtain ⟨cs, hc⟩ := hl b hb
    exact own_ne_blk hc ho h5
  · exact (h.rd x hx).keep K (fun g hg e => own_ne_own (h.rd x hx).k ho (Ne.symm h6) g hg e) (fun g hg e => own_ne_own (h.rd x hx).v ho (Ne.symm h6) g hg e)
theorem own_form {w : World} {base e size n : Nat} {v : Value} {xs : List Value} (h : w.ownsRow base e size v n xs) : ∃ a c, v = .slice a n c := by
  rcases h.2 with ⟨rfl, rfl⟩ | ⟨g, cap, cur, rfl, _⟩
  · exact ⟨_, _, rfl⟩
  · exact ⟨_, _, rfl⟩
theorem own_formS {w : World} {base e size n : Nat} {v : Value} {xs : List Value} (h : w.ownsRow base e size v n xs) (hn : 0 < n) : ∃ g c, v = .slice (some ⟨g, 0, none⟩) n c := by
  rcases h.2 with ⟨rfl, rfl⟩ | ⟨g, cap, cur, rfl, _⟩
  · omega
  · exact ⟨_, _, rfl⟩
theorem infoS9 : (Tryd.prog.info? 9).map (fun i => (i.zero, i.size, i.bytes)) = some (some (.string ByteArray.empty), 1, 16) := by kernel_rfl
/-- The key of round i. -/
def keyI (i : Nat) : List Int := [97 + ((i % 26 : Nat) : Int), 97 + ((i / 26 : Nat) : Int)]
theorem keyI_inj {i j : Nat} (h : keyI i = keyI j) : i = j := by
  unfold keyI at h
  injection h with h1 h
  injection h with h2
  omega
theorem keyI_bytes {i : Nat} (h : i < 200) : Bytes (keyI i) := fun z hz => by
  unfold keyI at hz
  simp at hz
  omega
theorem conv_key (i : Nat) (h : i < 200) (w : World) : ∃ c w', (convert 9 56 (.string (strOfNums (keyI i)))).run Tryd.prog w = .ok (.slice (some ⟨w.heap.size, 0, none⟩) 2 c) w' ∧ SlB w' (.slice (some ⟨w.heap.size, 0, none⟩) 2 c) (keyI i) ∧ Keeps (fun _ => False) w w' ∧ w.heap.size < w'.heap.size := conv_new (keyI i) (keyI_bytes h) w
def strs (hs : List HM) : List Value := hs.reverse.map fun x => Value.string (strOfNums x.it.key)
theorem strs_cons (x : HM) (hs : List HM) : strs (x :: hs) = strs hs ++ [.string (strOfNums x.it.key)] := by simp [strs]
theorem strs_len (hs : List HM) : (strs hs).length = hs.length := by simp [strs]
theorem strs_one (hs : List HM) : ∀ u ∈ strs hs, u.oneCell' = true := by
  intro u hu
  obtain ⟨x, _, rfl⟩ := List.mem_map.1 hu
  rfl
theorem strs_mid (xs : List HM) (x : HM) (ys : List HM) : strs (xs ++ x :: ys) = strs ys ++ .string (strOfNums x.it.key) :: strs xs := by simp [strs]
theorem strs_app (xs ys : List HM) : strs (xs ++ ys) = strs ys ++ strs xs := by simp [strs]
theorem split_at {α : Type} : ∀ (l : List α) (k : Nat), k < l.length → ∃ xs x ys, l = xs ++ x :: ys ∧ ys.length = k
  | [], k, h => absurd h (by simp)
  | a :: r, k, h => by
    by_cases e : k = r.length
    · exact ⟨[], a, r, rfl, e.symm⟩
    · obtain ⟨xs, x, ys, rfl, hl⟩ := split_at r k (by simp at h; omega)
      exact ⟨a :: xs, x, ys, rfl, hl⟩
/-- At the head of the loop. -/
structure OldR (L : RL) (w3 : World) (cl m : Nat) (t : Nat) (hs : List HM) (v : Value) (D : AD) (wr : World) : Prop where
  ra : RAt wr L D hs
  n2 : D.n = 2
  len : hs.length = t
  cls : ∀ x ∈ hs, x.cl = cl
  keys : ∀ x ∈ hs, ∃ j, j < t ∧ x.it.key = keyI j
  row : wr.ownsRow w3.heap.size 9 1 v t (strs hs)
  keeps : Keeps L.own w3 wr
theorem OldR.room {L : RL} {w3 wr : World} {cl m t : Nat} {hs : List HM} {v : Value} {D : AD} (h : OldR L w3 cl m t hs v D wr) : t ≤ 64 := by
  have h1 := pigeon (32 * D.n) (hs.map HM.ch) (List.pairwise_map.2 (h.ra.inv.chs.imp fun e => e)) (fun c hc => by
    obtain ⟨x, hx, rfl⟩ := List.mem_map.1 hc
    exact h.ra.chlt x hx)
  rw [List.length_map, h.len, h.n2] at h1
  omega
/-- A row of strings that grows, all else as in W0. -/
structure Acc (W0 : World) (B : Nat) (w : World) (v : Value) (n : Nat) (xs : List Value) : Prop where
  own : w.ownsRow B 9 1 v n xs
  keeps : Keeps (fun q => B ≤ q) W0 w
  base : B ≤ w.heap.size
theorem Acc.alloc {W0 w : World} {B n : Nat} {v : Value} {xs : List Value} (h : Acc W0 B w v n xs) (o : Obj) : Acc W0 B (w.alloc o) v n xs := ⟨h.own.alloc o, h.keeps.alloc o, by have := h.base; simp; omega⟩
theorem Acc.drew {W0 w : World} {B n : Nat} {v : Value} {xs : List Value} (h : Acc W0 B w v n xs) : Acc W0 B w.drew v n xs := ⟨h.own, h.keeps.drew, h.base⟩
theorem Acc.made {W0 w : World} {B g : Nat} (hk : Keeps (fun q => B ≤ q) W0 w) (hB : B ≤ w.heap.size) (hg : g = w.heap.size) : Acc W0 B (w.alloc (.cells #[] 9)) (.slice (some ⟨g, 0, none⟩) 0 0) 0 [] := by
  subst hg
  exact ⟨own_base (own_none w 9 1) hB, hk.alloc _, by simp; omega⟩
theorem new_cell (w : World) (u : Value) (g : Nat) (hg : g = w.heap.size) : (w.alloc (.cells #[u] 9)).cell? ⟨g, 0, none⟩ = some u := by
  subst hg
  have := cell_one_new w u 9 0 u rfl
  rwa [add0] at this
theorem old_cell {w : World} {p : Addr} {u : Value} (h : w.cell? p = some u) (o : Obj) : (w.alloc o).cell? p = some u := by
  rw [((Keeps.refl (fun _ => False) w).alloc o).cell (cell_lt h) id]
  exact h
theorem one_cells {w : World} {g : Nat} {x : Value} (h : w.cell? ⟨g, 0, none⟩ = some x) : ∀ j u, [x][j]? = some u → w.cell? ((⟨g, 0, none⟩ : Addr).add j) = some u := by
  intro j u hj
  match j, hj with
  | 0, hj =>
    simp at hj
    subst hj
    rw [add0]
    exact h
theorem Acc.ne {W0 w : World} {B n : Nat} {v : Value} {xs : List Value} (h : Acc W0 B w v n xs) : v.ownBlock ≠ some w.heap.size := fun e => by
  have := (own_heap h.own e).2.1
  omega
theorem step_acc {ops : Array Oper} {o : Oper} {a : Act} {w : World} {K : Act → World → Prop} {Q : Exit → Act → World → Prop} {E : Prop} {W0 : World} {B : Nat} (hgd : o.guard = none) (s x : Operand)
    (ho : o.op = .call { callee := .builtin .append, args := #[s, x], argTypes := #[57, 57] })
    (v : Value) (n : Nat) (xs : List Value) (hs : a.eval s = v) (hacc : Acc W0 B w v n xs)
    (ad : Addr) (m c : Nat) (news : List Value) (hx : a.eval x = .slice (some ad) m c) (hl : news.length = m) (hnews : Keeps (fun q => B ≤ q) W0 w → ∀ j u, news[j]? = some u → w.cell? (ad.add j) = some u) (h1 : ∀ u ∈ news, u.oneCell' = true)
    (h63 : n + m ≤ 1000000)
    (h : ∀ v' w', Acc W0 B w' v' (n + m) (xs ++ news) → (∀ A u, w.cell? ⟨A, 0, none⟩ = some u → v.ownBlock ≠ some A → (w'.cell? ⟨A, 0, none⟩ = some u ∧ v'.ownBlock ≠ some A)) → K (a.put o.dst v') w') :
    if Region.wanted o (yielded ops a.tmps) = true then Oper.wp Tryd.prog o a w K Q else E := by
  have hw : Region.wanted o (yielded ops a.tmps) = true := by simp [Region.wanted, hgd]
  rw [if_pos hw]
  obtain ⟨i9, hi1, hz0, hz1, hz2⟩ := info_parts infoS9
  obtain ⟨v', w', hr, h2, h3, _, h5⟩ := run_append_own_at (P := Tryd.prog) w B 57 o.type 9 i9 (.string ByteArray.empty) 1 16 Tryd.underlying57 hi1 hz0 hz1 hz2 rfl (by omega) v n xs hacc.own ad m c news (by omega) (hnews hacc.keeps) h1 (by unfold maxLen; omega) (by omega) hacc.base
  unfold Oper.wp execOp
  simp only [ho, resolve, invoke, builtin, Sem.run_bind, Sem.run_pure, Result.andThen_ok, List.map_toArray, List.map_cons, List.map_nil, hs, hx, hr]
  refine h v' w' ⟨h2, hacc.keeps.trans ((Keeps.of_grown h3).mono fun k _ e => (own_heap hacc.own e).1), Nat.le_trans hacc.base h3.size⟩ fun A u hc hne => ⟨?_, ?_⟩
  · rw [(Keeps.of_grown h3).cell (cell_lt hc) hne]
    exact hc
  · rcases h5 with e | e
    · rw [e]; exact hne
    · rw [e]
      intro e2
      injection e2 with e2
      have := cell_lt hc
      simp at this
      omega
def ValC (W : World) (s7 : Value) (wx : World) : Prop := ∃ m, m ≤ 499 ∧ s7 = .slice (some ⟨W.heap.size, 0, none⟩) m m ∧ Blk wx W.heap.size 5 (nb (List.replicate m 0)) ∧ Keeps (fun _ => False) W wx ∧ W.heap.size < wx.heap.size
def KeyC (t : Nat) (wr : World) (s10 : Value) (wx : World) : Prop := s10 = .string (strOfNums (keyI t)) ∧ Keeps (fun _ => False) wr wx
set_option maxRecDepth 100000 in
set_option maxHeartbeats 4000000 in
theorem old_law (size : Int) (a : Option Addr) (n c : Nat) (us : List Int) (w : World) (hwf : (Lit.int .i64 size).wf = true) (hr : Row .i64 w a n us) (hus : ∀ x ∈ us, (Lit.int .i64 x).wf = true) (hn : n ≤ 140737488351232) (hT : Tab w) :
    Calls Tryd.prog 8 #[.int .i64 size, .slice a n c] w fun e w' => e = .returned (.bool true) ∧ Keeps (fun _ => False) w w' := by
  have HWK := Lib.hid (rwakes w hT hT.lt)
  have HT := Lib.hid hT
  have HR := Lib.hid hr
  have HUS := Lib.hid hus
  have hsz : -9223372036854775808 ≤ size ∧ size ≤ 9223372036854775807 := by simpa [Lit.wf, IntKind.min, IntKind.max, IntKind.signed, IntKind.bits] using hwf
  have HSZ := Lib.hid hsz
  clear hr hus hT hwf hsz
  go_enter Tryd.func8, Tryd.ntmps8
  go_wp2_with fail
  refine HWK.out.mono ?_
  rintro e w1 ⟨rfl, hk1⟩
  have HK1 := Lib.hid hk1
  have HN := Lib.hid (rnew_ok 2 (by omega) (by omega) w1)
  unfold RNewP RL.ptr at HN
  clear hk1 HWK
  go_wp2_with fail
  refine HN.out.mono ?_
  rintro e w2 ⟨L, rfl, hr2, hlo, hk2⟩
  have HR2 := Lib.hid hr2
  have HLO := Lib.hid hlo
  have HK2 := Lib.hid (HK1.out.trans hk2)
  clear hr2 hlo hk2 HN
  go_upto_region 6 with fail
  go_cut [7] (fun s7 wx => ValC w2 s7 wx)
  case first =>
    have hsz := HSZ.out
    by_cases h0 : 0 ≤ size
    · have e1 : size.tmod 500 = ((size.toNat % 500 : Nat) : Int) := by
        rw [Int.tmod_eq_emod_of_nonneg h0]; omega
      obtain ⟨m, hm⟩ : ∃ m, m = size.toNat % 500 := ⟨_, rfl⟩
      have hm5 : m ≤ 499 := by omega
      rw [← hm] at e1
      have hmk' := make_zb m (by omega) w2
      clear hm
      go_wp2_with fail
      go_meet
      exact ⟨m, hm5, rfl, Blk.new w2 5 _, (Keeps.refl _ _).alloc _, by simp⟩
    · have hmk' : (Instr.makeSlice 56 (.int .i64 0) (.int .i64 0)).run Tryd.prog w2 = .ok (.slice (some ⟨w2.heap.size, 0, none⟩) 0 0) (w2.alloc (.cells #[] 5)) := make_zb 0 (by omega) w2
      have h0' : ¬ (0 < size) := by omega
      go_wp2_with fail
      go_meet
      exact ⟨0, by omega, rfl, Blk.new w2 5 _, (Keeps.refl _ _).alloc _, by simp⟩
  case rest =>
    obtain ⟨m, hm5, rfl, hbv, hk3, hs3⟩ := hcut
    obtain ⟨w3, rfl⟩ : ∃ w3, w3 = wc := ⟨_, rfl⟩
    obtain ⟨cl, hcl⟩ : ∃ cl, cl = cls ((26 + m : Nat) : Int) := ⟨_, rfl⟩
    have HCL := Lib.hid hcl
    have HBV := Lib.hid hbv
    have HK3 := Lib.hid (HK2.out.trans hk3)
    have HOW2 : Hid (∀ k, L.own k → k < w2.heap.size) := Lib.hid HR2.out.lt.2.2.2
    have HS3 := Lib.hid hs3
    have HO0 : Hid (OldR L w3 cl m 0 [] (.slice none 0 0) (AD.fresh 2) w3) := Lib.hid ⟨HR2.out.quiet hk3, rfl, rfl, (fun x hx => by cases hx), (fun x hx => by cases hx), World.ownsRow_nil _ _ _ _, Keeps.refl _ _⟩
    clear hcl hbv hk3 hs3
    go_wp2_with fail
    go_loopw [8, 28] (fun s8 s28 wr => ∃ (t : Nat) (hs : List HM) (D : AD), t ≤ 200 ∧ s28 = .int .i64 (t : Int) ∧ OldR L w3 cl m t hs s8 D wr) (fun _ s28 _ => 200 - (intOf s28).toNat)
    case atStart => exact ⟨0, [], _, by omega, rfl, HO0.out⟩
    case round =>
      obtain ⟨t, hs, D, ht, rfl, hO⟩ := hrel
      have ht64 := hO.room
      have HO := Lib.hid hO
      obtain ⟨oa, oc, hov⟩ := own_form hO.row
      clear hO ht
      subst hov
      have hlt : (t : Int) < 200 := by omega
      go_upto_region 11 with fail
      go_cut [10] (fun s10 wx => KeyC t wr s10 wx)
      case first =>
        obtain ⟨q, hq⟩ : ∃ q, q = t % 26 := ⟨_, rfl⟩
        obtain ⟨p, hp⟩ : ∃ p, p = t / 26 := ⟨_, rfl⟩
        have hq1 : (t : Int).tmod 26 = (q : Int) := by rw [Int.tmod_eq_emod_of_nonneg (by omega)]; omega
        have hp1 : (t : Int).tdiv 26 = (p : Int) := by rw [Int.tdiv_eq_ediv_of_nonneg (by omega)]; omega
        have hq2 : q ≤ 25 := by omega
        have hp2 : p ≤ 7 := by omega
        have hkk : keyI t = [97 + (q : Int), 97 + (p : Int)] := by unfold keyI; rw [← hq, ← hp]
        have HKK := Lib.hid hkk
        have wq : (97 + (q : Int)) % 256 = 97 + (q : Int) := by omega
        have wp : (97 + (p : Int)) % 256 = 97 + (p : Int) := by omega
        have cvk : (convert 56 9 (.slice (some ⟨wr.heap.size, 0, none⟩) 2 2)).run Tryd.prog (wr.alloc (.cells #[.int .u8 (97 + (q : Int)), .int .u8 (97 + (p : Int))] 5)) = .ok (.string (strOfNums [97 + (q : Int), 97 + (p : Int)])) (wr.alloc (.cells #[.int .u8 (97 + (q : Int)), .int .u8 (97 + (p : Int))] 5)) :=
          conv_slb (blk_slb (xs := [97 + (q : Int), 97 + (p : Int)]) (Blk.new wr 5 _))
        clear hkk hq hp
        go_wp2_with fail
        go_meet
        exact ⟨by rw [HKK.out], (Keeps.refl _ _).alloc _⟩
      case rest =>
        obtain ⟨rfl, hk12⟩ := hcut
        obtain ⟨w12, rfl⟩ : ∃ w12, w12 = wc := ⟨_, rfl⟩
        obtain ⟨kc, w13, hcv, hsl, hk13, hs13⟩ := conv_key t (by omega) w12
        have hw32 : w3.heap.size ≤ w12.heap.size := Nat.le_trans HO.out.keeps.size hk12.size
        have hnw2 : ¬ L.own w2.heap.size := fun ho => by have := HOW2.out _ ho; omega
        have hk3' : Keeps L.own w3 w13 := (HO.out.keeps.trans (hk12.mono fun _ _ h => h.elim)).trans (hk13.mono fun _ _ h => h.elim)
        have hvsl : SlB w13 (.slice (some ⟨w2.heap.size, 0, none⟩) m m) (List.replicate m 0) := by
          have := blk_slb (c := m) (hk3'.blk HBV.out hnw2)
          rwa [List.length_replicate] at this
        have hzb : Bytes (List.replicate m (0 : Int)) := fun z hz => by rw [List.eq_of_mem_replicate hz]; omega
        have hok : (⟨keyI t, List.replicate m 0, 0, 0, 1, false⟩ : IT).Ok := ⟨by show 1 ≤ (keyI t).length; unfold keyI; simp, by show (keyI t).length ≤ 250; unfold keyI; simp, by show (List.replicate m (0 : Int)).length ≤ 512; rw [List.length_replicate]; omega, keyI_bytes (by omega), hzb, by show (1 : Int) ≤ 1; omega⟩
        have hTab : Tab w13 := HT.out.keep ((HK3.out.mono (S' := L.own) fun _ _ h => h.elim).trans hk3') (fun ho => by
          have h1 := HLO.out 0 ho
          have h2 := HT.out.lt
          have h3 := HK1.out.size
          omega)
        have HP := Lib.hid (put_any_item L D hs ⟨keyI t, List.replicate m 0, 0, 0, 1, false⟩ (.slice (some ⟨w12.heap.size, 0, none⟩) 2 kc) (.slice (some ⟨w2.heap.size, 0, none⟩) m m) w13 ((HO.out.ra.quiet hk12).quiet hk13) hTab hok ⟨hsl, hvsl⟩
          (fun k ho e => by
            have h1 := HLO.out k ho
            have h2 := HT.out.lt
            have h3 := HK1.out.size
            omega)
          (fun a n c e ho => by
            injection e with e
            injection e with e
            subst e
            have h1 : w12.heap.size < w2.heap.size := HOW2.out _ ho
            have h2 := HS3.out
            omega)
          (fun a n c e ho => by
            injection e with e
            injection e with e
            subst e
            exact hnw2 ho))
        have HK13 := Lib.hid hk3'
        have HKW := Lib.hid (hk12.trans hk13)
        have hchg : (⟨keyI t, List.replicate m 0, 0, 0, 1, false⟩ : IT).chg = 26 + m := by
          show 24 + 2 + (List.replicate m (0 : Int)).length = _
          rw [List.length_replicate]
        rw [hchg, ← HCL.out] at HP
        unfold IT.agg RL.ptr at HP
        dsimp only at HP
        clear hk12 hk13 hsl hvsl hzb hok hTab hk3' hchg
        go_wp2_with fail
        refine HP.out.mono ?_
        rintro e w14 ⟨D1, hs1, s8, rfl, hless, hdone, hkp⟩
        have hless' : D1 = D ∧ hs1 = hs := by
          rcases hless with ⟨_, rfl, rfl⟩ | ⟨xs, x, ys, e, hxk, _⟩
          · exact ⟨rfl, rfl⟩
          · obtain ⟨j, hj, hkj⟩ := HO.out.keys x (by rw [e]; simp)
            have := keyI_inj (hkj.symm.trans hxk)
            omega
        obtain ⟨rfl, rfl⟩ := hless'
        obtain ⟨D2, hs2, gone, x, D3, hre, hgs, hxi, hxc, hra, hrow, hrd⟩ := hdone
        have hone := hre.one hgs HO.out.ra.inv HO.out.cls
        have HRA := Lib.hid hra
        have HKP : Hid (Keeps L.own w3 w14) := Lib.hid (HK13.out.trans hkp)
        have hoff9 : ∀ g, (Value.slice oa t oc).ownBlock = some g → ¬ L.own g := fun g hg ho => by
          have h1 := (own_heap HO.out.row hg).1
          have h2 := HOW2.out g ho
          have h3 := HS3.out
          omega
        have HRW : Hid (w14.ownsRow w3.heap.size 9 1 (.slice oa t oc) t (strs hs1)) := Lib.hid (hkp.own' (HKW.out.own' HO.out.row (fun _ _ => id)) hoff9)
        obtain ⟨sa, sc, hs8⟩ := own_form hrow
        subst hs8
        have HXI := Lib.hid hxi
        have HXC := Lib.hid hxc
        have HGS := Lib.hid hgs
        have HROW := Lib.hid hrow
        have HRD := Lib.hid hrd
        clear hless hre hgs hxi hxc hra hrow hrd hkp hcv
        rcases hone with ⟨rfl, rfl, rfl⟩ | ⟨y, rfl, hy⟩
        · simp only [List.length_nil]
          have hxk : x.it.key = keyI t := by rw [HXI.out]
          have hn3 : D3.n = 2 := by
            have := HRA.out.ar.n2
            exact (give_n HGS.out).trans HO.out.n2
          have HX1 : Hid ((∀ q ∈ x :: hs2, q.cl = cl) ∧ (∀ q ∈ x :: hs2, ∃ j, j < t + 1 ∧ q.it.key = keyI j) ∧ (x :: hs2).length = t + 1 ∧ D3.n = 2) := Lib.hid ⟨fun q hq => by
              rcases List.mem_cons.1 hq with rfl | hq
              · exact HXC.out
              · exact HO.out.cls q hq, fun q hq => by
              rcases List.mem_cons.1 hq with rfl | hq
              · exact ⟨t, by omega, hxk⟩
              · obtain ⟨j, hj, e⟩ := HO.out.keys q hq
                exact ⟨j, by omega, e⟩, by rw [List.length_cons, HO.out.len], hn3⟩
          have HST : Hid (strs (x :: hs2) = strs hs2 ++ [.string (strOfNums (keyI t))]) := Lib.hid (by rw [strs_cons, hxk])
          clear hxk hn3
          obtain ⟨i9, hi1, hz0, hz1, hz2⟩ := info_parts infoS9
          go_upto_region 17 with fail
          have hbs : w3.heap.size ≤ w14.heap.size := HKP.out.size
          go_wp2_with (at_builtin; refine wpList_append_own _ rfl _ _ 57 rfl w3.heap.size 9 i9 (.string ByteArray.empty) 1 16 Tryd.underlying57 hi1 hz0 hz1 hz2 rfl (by decide) _ _ _ rfl (HRW.out.alloc _) ⟨w14.heap.size, 0, none⟩ 1 1 [.string (strOfNums (keyI t))] rfl rfl (cell_one_new _ _ _) (by simp [Value.oneCell']) (by unfold maxLen; omega) (by omega) (by simp; omega) ?_)
          intro v2 w15 hown2 hgrow2 _
          have hown3 : w15.ownsRow w3.heap.size 9 1 v2 (t + 1) (strs (x :: hs2)) := by rw [HST.out]; exact hown2
          have hk15 : Keeps L.own w3 w15 := ((((HKP.out.alloc (.cells #[.string (strOfNums (keyI t))] 9)).mono (S' := fun k => L.own k ∨ w3.heap.size ≤ k) fun _ _ h => .inl h).trans ((Keeps.of_grown hgrow2).mono fun k _ e => .inr (own_heap HRW.out e).1))).mono fun k hk h => h.elim id fun h => by omega
          have HO15 : Hid (OldR L w3 cl m (t + 1) (x :: hs2) v2 D3 w15) := Lib.hid ⟨(HRA.out.quiet ((Keeps.refl _ _).alloc _)).grow (HRW.out.alloc _) hgrow2 (by decide) (by decide) (by decide) (by decide) (by decide) (by decide), HX1.out.2.2.2, HX1.out.2.2.1, HX1.out.1, HX1.out.2.1, hown3, hk15⟩
          obtain ⟨va, vc, hv2⟩ := own_form hown3
          subst hv2
          have hs15 : w14.heap.size + 1 ≤ w15.heap.size := by have := hgrow2.size; simpa using this
          clear hown2 hgrow2 hown3 hk15 HST HX1 hi1 hz0 hz1 hz2 hbs hoff9
          by_cases hun : t < n
          · have hun' : (t : Int) < (n : Int) := by omega
            obtain ⟨ad, rfl, hcu⟩ := HR.out.2 t hun
            obtain ⟨u, hu⟩ : ∃ u, u = us.getD t 0 := ⟨_, rfl⟩
            rw [← hu] at hcu
            have hub : -9223372036854775808 ≤ u ∧ u ≤ 9223372036854775807 := by
              have h1 := HUS.out u (by
                rw [hu]
                have : t < us.length := by have := HR.out.1; omega
                rw [List.getD_eq_getElem?_getD, List.getElem?_eq_getElem this]
                exact List.getElem_mem this)
              simpa [Lit.wf, IntKind.min, IntKind.max, IntKind.signed, IntKind.bits] using h1
            have hcu15 : w15.cell? (ad.add t) = some (.int .i64 u) := by
              have hkw : Keeps (fun k => w1.heap.size ≤ k) w w15 := ((HK3.out.mono (S' := fun k => w1.heap.size ≤ k) fun _ _ h => h.elim).trans (HO15.out.keeps.mono fun k _ ho => HLO.out k ho))
              have h1 := cell_lt hcu
              have h2 := HK1.out.size
              rw [hkw.cell h1 (by omega)]
              exact hcu
            clear hu hcu
            go_upto_region 19 with fail
            go_cut [13] (fun s13 wx => ∃ k : Nat, k < t + 1 ∧ s13 = .int .i64 (k : Int) ∧ wx = w15)
            case first =>
              by_cases h0 : 0 ≤ u
              · have e1 : u.tmod ((t : Int) + 1) = ((u.toNat % (t + 1) : Nat) : Int) := by
                  rw [Int.tmod_eq_emod_of_nonneg h0, Int.natCast_emod, Int.toNat_of_nonneg h0]; push_cast; rfl
                obtain ⟨k, hk⟩ : ∃ k, k = u.toNat % (t + 1) := ⟨_, rfl⟩
                have hk5 : k < t + 1 := by rw [hk]; exact Nat.mod_lt _ (by omega)
                rw [← hk] at e1
                clear hk
                go_wp2_with fail
                go_meet
                exact ⟨k, hk5, rfl, rfl⟩
              · have h0' : ¬ (0 < u) := by omega
                have e1 : (0 : Int).tmod ((t : Int) + 1) = 0 := Int.zero_tmod _
                go_wp2_with fail
                go_meet
                exact ⟨0, by omega, rfl, rfl⟩
            case rest =>
              obtain ⟨k, hk1, rfl, hwc⟩ := hcut
              obtain rfl := hwc.symm
              obtain ⟨xs, y, ys, hxy, hyl⟩ := split_at (x :: hs2) k (by rw [HO15.out.len]; exact hk1)
              have HXY := Lib.hid hxy
              have HYL := Lib.hid hyl
              obtain ⟨g, cap, hg⟩ := own_formS HO15.out.row (by omega)
              injection hg with hg _ hg'
              subst hg hg'
              obtain ⟨j, hj, hyk⟩ := HO15.out.keys y (by rw [hxy]; simp)
              have hcy : ∀ W, Keeps L.own w15 W → W.cell? ⟨g, k, none⟩ = some (.string (strOfNums (keyI j))) := fun W hk => by
                have h0 := HO15.out.row.cells (g := g) rfl k (.string (strOfNums (keyI j))) (by rw [hxy, strs_mid, ← hyk]; simp [strs_len, hyl])
                rw [add0] at h0
                have hgb := own_heap HO15.out.row (g := g) rfl
                rw [hk.cell (p := ⟨g, k, none⟩) hgb.2.1 (fun ho => by
                  have h1 := HOW2.out g ho
                  have h2 := HS3.out
                  omega)]
                exact h0
              have HCY := Lib.hid hcy
              have c0 := hcy w15 (Keeps.refl _ _)
              obtain ⟨jc, w16, hcv, hsl, hk16, hs16⟩ := conv_key j (by omega) w15
              have hra15 := HO15.out.ra
              rw [hxy] at hra15
              have HG := Lib.hid (get_there L D3 xs ys y (.slice (some ⟨w15.heap.size, 0, none⟩) 2 jc) w16 (hra15.quiet hk16) (by rw [hyk]; exact hsl))
              have HK16 := Lib.hid hk16
              unfold GetP IT.agg RL.ptr at HG
              have hk1' : (k : Int) < (t : Int) + 1 := by omega
              have HYK := Lib.hid hyk
              clear hxy hyl hyk hcy hk16 hsl hra15
              go_upto_region 20 with fail
              go_wp2_with fail
              refine HG.out.mono ?_
              rintro e w17 ⟨kv, vv, rfl, hrd17, hra17, hk17⟩
              obtain ⟨qa, qc, rfl, _⟩ := own_bytes hrd17.k
              obtain ⟨pa, pc, rfl, _⟩ := own_bytes hrd17.v
              have HRA17 := Lib.hid hra17
              have HK17 : Hid (Keeps L.own w15 w17) := Lib.hid ((HK16.out.mono fun _ _ h => h.elim).trans hk17)
              clear hrd17 hra17 hk17 hcv c0 HG
              go_upto_region 23 with fail
              obtain ⟨W18, hW18⟩ : ∃ W18, W18 = w17.alloc (.cells #[.slice qa y.it.key.length qc, .slice pa y.it.val.length pc, .int .u32 y.it.fg, .int .u32 y.it.ex, .int .u64 y.it.sq, .bool y.it.dt] 64) := ⟨_, rfl⟩
              have hk18 : Keeps L.own w15 W18 := by rw [hW18]; exact HK17.out.alloc _
              rw [← hW18]
              have hrow18 : W18.ownsRow w3.heap.size 9 1 (.slice (some ⟨g, 0, none⟩) (t + 1) vc) (t + 1) (strs (x :: hs2)) := hk18.own' HO15.out.row (fun q hq ho => by
                have h0 := (own_heap HO15.out.row hq).1
                have h1 := HOW2.out q ho
                have h2 := HS3.out
                omega)
              have hgb := own_heap hrow18 (g := g) rfl
              have HNY : Hid (∀ W, Keeps (fun q => W18.heap.size ≤ q) W18 W → ∀ j u, (strs ys)[j]? = some u → W.cell? ((⟨g, 0, none⟩ : Addr).add j) = some u) := Lib.hid (fun W hk j u hu => by
                have hj : j < (strs ys).length := (List.getElem?_eq_some_iff.1 hu).1
                have h0 := hrow18.cells (g := g) rfl j u (by rw [HXY.out, strs_mid, List.getElem?_append_left hj]; exact hu)
                rw [hk.cell (p := (⟨g, 0, none⟩ : Addr).add j) (by rw [add0]; exact hgb.2.1) (by rw [add0]; show ¬ (W18.heap.size ≤ g); omega)]
                exact h0)
              have HNX : Hid (∀ W, Keeps (fun q => W18.heap.size ≤ q) W18 W → ∀ j u, (strs xs)[j]? = some u → W.cell? ((⟨g, k + 1, none⟩ : Addr).add j) = some u) := Lib.hid (fun W hk j u hu => by
                have h0 := hrow18.cells (g := g) rfl (k + 1 + j) u (by rw [HXY.out, strs_mid, List.getElem?_append_right (by rw [strs_len, HYL.out]; omega), strs_len, HYL.out, show k + 1 + j - k = j + 1 by omega]; exact hu)
                rw [add0] at h0
                have e : (⟨g, k + 1, none⟩ : Addr).add j = ⟨g, k + 1 + j, none⟩ := by unfold Addr.add; split <;> simp_all
                rw [e, hk.cell (p := ⟨g, k + 1 + j, none⟩) hgb.2.1 (by show ¬ (W18.heap.size ≤ g); omega)]
                exact h0)
              have HCK : Hid (∀ W, Keeps (fun q => W18.heap.size ≤ q) W18 W → W.cell? ⟨g, k, none⟩ = some (.string (strOfNums (keyI j)))) := Lib.hid (fun W hk => by
                have h1 := HCY.out W18 hk18
                rw [hk.cell (p := ⟨g, k, none⟩) hgb.2.1 (by show ¬ (W18.heap.size ≤ g); omega)]
                exact h1)
              have hcap := own_cap hrow18
              have hlx : xs.length = t - k := by
                have h1 := HO15.out.len
                rw [HXY.out] at h1
                have h2 := HYL.out
                simp at h1
                omega
              have HLX := Lib.hid hlx
              have e1 : IntKind.i64.wrap ((k : Int) + 1) = (k : Int) + 1 := IntWalk.i64_in _ (by omega)
              have e2 : ((k : Int) + 1).toNat = k + 1 := by omega
              have e3 : 0 ≤ (k : Int) + 1 := by omega
              have c0 := HCK.out W18 (Keeps.refl _ _)
              have hra18 : RAt W18 L D3 (y :: (xs ++ ys)) := by rw [hW18]; exact HRA17.out.quiet ((Keeps.refl _ _).alloc _)
              have HFIN : Hid (∀ wC v5 n' l', Acc W18 W18.heap.size wC v5 n' l' → n' = t + 1 → l' = strs ys ++ strs xs ++ [Value.string (strOfNums (keyI j))] → OldR L w3 cl m (t + 1) (y :: (xs ++ ys)) v5 D3 wC) := Lib.hid (fun wC v5 n' l' hC en el => by
                subst en el
                have hmem : ∀ q, q ∈ y :: (xs ++ ys) → q ∈ x :: hs2 := fun q hq => by rw [HXY.out, mem_mid]; exact List.mem_cons.1 hq
                have h3 : w3.heap.size ≤ W18.heap.size := Nat.le_trans HO15.out.keeps.size hk18.size
                refine ⟨hra18.above hra18 (fun q h => h) hC.keeps (fun q h => h), HO15.out.n2, ?_, fun q hq => HO15.out.cls q (hmem q hq), fun q hq => HO15.out.keys q (hmem q hq), ?_, ((HO15.out.keeps.trans hk18).mono (S' := fun q => L.own q ∨ W18.heap.size ≤ q) fun _ _ h => .inl h).trans (hC.keeps.mono fun _ _ h => .inr h) |>.mono fun q hq h => h.elim id fun h => by omega⟩
                · have h1 := HO15.out.len
                  rw [HXY.out] at h1
                  simp at h1 ⊢
                  omega
                · rw [strs_cons, strs_app, HYK.out]
                  exact own_base hC.own h3)
              clear hk18 hW18 hrow18 hlx hra18
              have hkt0 : k ≤ t := by omega
              have hkv : k ≤ vc := by omega
              have hkt : k + 1 ≤ t + 1 := by omega
              have htv : t + 1 ≤ vc := by omega
              have hkv1 : k + 1 ≤ vc := by omega
              have HN0 : Hid (vc = k + 1 → ∀ (W : World) j u, (strs xs)[j]? = some u → W.cell? ((⟨g, 0, none⟩ : Addr).add j) = some u) := Lib.hid (fun e W j u hu => by
                have h0 := (List.getElem?_eq_some_iff.1 hu).1
                rw [strs_len, HLX.out] at h0
                omega)
              obtain ⟨st, hsv⟩ : ∃ st, st = strOfNums (keyI j) := ⟨_, rfl⟩
              have HSV := Lib.hid hsv
              have HA1 : Hid (Acc W18 W18.heap.size (W18.alloc (.cells #[] 9)).drew (.slice (some ⟨W18.heap.size, 0, none⟩) 0 0) 0 []) := Lib.hid (Acc.made (Keeps.refl _ _) (Nat.le_refl _) rfl).drew
              have HA3 : Hid (Acc W18 W18.heap.size ((W18.alloc (.cells #[] 9)).alloc (.cells #[(Value.string st)] 9)).drew (.slice (some ⟨W18.heap.size, 0, none⟩) 0 0) 0 [] ∧ ((W18.alloc (.cells #[] 9)).alloc (.cells #[(Value.string st)] 9)).drew.cell? ⟨W18.heap.size + 1, 0, none⟩ = some (Value.string st) ∧ (Value.slice (some ⟨W18.heap.size, 0, none⟩) 0 0).ownBlock ≠ some (W18.heap.size + 1)) :=
                Lib.hid ⟨((Acc.made (Keeps.refl _ _) (Nat.le_refl _) rfl).alloc _).drew, new_cell (W18.alloc (.cells #[] 9)) (Value.string st) _ (by simp), by simp [Value.ownBlock]⟩
              have HA4 : Hid (Acc W18 W18.heap.size ((W18.alloc (.cells #[(Value.string st)] 9)).alloc (.cells #[] 9)).drew (.slice (some ⟨W18.heap.size + 1, 0, none⟩) 0 0) 0 [] ∧ ((W18.alloc (.cells #[(Value.string st)] 9)).alloc (.cells #[] 9)).drew.cell? ⟨W18.heap.size, 0, none⟩ = some (Value.string st) ∧ (Value.slice (some ⟨W18.heap.size + 1, 0, none⟩) 0 0).ownBlock ≠ some W18.heap.size) :=
                Lib.hid ⟨(Acc.made ((Keeps.refl _ _).alloc _) (by simp) (by simp)).drew, old_cell (new_cell W18 (Value.string st) _ rfl) (.cells #[] 9), by simp [Value.ownBlock]⟩
              have HYS : Hid ((strs ys).length = k) := Lib.hid (by rw [strs_len]; exact HYL.out)
              have HXS : Hid ((strs xs).length = t - k) := Lib.hid (by rw [strs_len]; exact HLX.out)
              have HBD : Hid (0 + k ≤ 1000000 ∧ 0 + k + (t - k) ≤ 1000000 ∧ 0 + k + (t - k) + 1 ≤ 1000000) := Lib.hid (by omega)
              have HSO : Hid (∀ u ∈ [(Value.string st)], u.oneCell' = true) := Lib.hid (by rw [hsv]; simp [Value.oneCell'])
              rw [← hsv] at c0
              have HCS : Hid (∀ W, Keeps (fun q => W18.heap.size ≤ q) W18 W → W.cell? ⟨g, k, none⟩ = some (Value.string st)) := Lib.hid (by rw [hsv]; exact HCK.out)
              clear hsv
              by_cases hvc : vc = k + 1
              · obtain rfl : k = t := by omega
                subst hvc
                have HVC : Hid (k + 1 = k + 1) := Lib.hid rfl
                have HX0 : Hid ((strs xs).length = 0) := Lib.hid (by rw [HXS.out]; omega)
                have HBD0 : Hid (0 + k ≤ 1000000 ∧ 0 + k + 0 ≤ 1000000 ∧ 0 + k + 0 + 1 ≤ 1000000) := Lib.hid (by omega)
                have e4 : (k : Int) ≤ (k : Int) + 1 := by omega
                have e5 : ¬ ((k : Int) + 1 < (k : Int)) := by omega
                clear hkt0 hkv hkt htv hkv1
                go_region_law (first
                  | (refine step_acc rfl (.tmp 97) (.tmp 100) rfl _ 0 [] rfl HA1.out ⟨g, 0, none⟩ k _ (strs ys) rfl HYS.out (HNY.out _) (strs_one _) HBD.out.1 ?_; intro v1 wA hA hkA; have cA := HCS.out wA hA.keeps; clear hkA)
                  | (refine step_acc rfl (.tmp 97) (.tmp 100) rfl _ 0 [] rfl HA3.out.1 ⟨g, 0, none⟩ k _ (strs ys) rfl HYS.out (HNY.out _) (strs_one _) HBD.out.1 ?_; intro v1 wA hA hkA; have cA := HCS.out wA hA.keeps; obtain ⟨hc1, hn1⟩ := hkA _ _ HA3.out.2.1 HA3.out.2.2; clear hkA)
                  | (refine step_acc rfl (.tmp 97) (.tmp 100) rfl _ 0 [] rfl HA4.out.1 ⟨g, 0, none⟩ k _ (strs ys) rfl HYS.out (HNY.out _) (strs_one _) HBD.out.1 ?_; intro v1 wA hA hkA; have cA := HCS.out wA hA.keeps; obtain ⟨hc1, hn1⟩ := hkA _ _ HA4.out.2.1 HA4.out.2.2; clear hkA)
                  | (refine step_acc rfl (.tmp 101) (.tmp 105) rfl v1 _ _ rfl hA ⟨g, 0, none⟩ (0) _ (strs xs) rfl HX0.out (fun _ => HN0.out HVC.out _) (strs_one _) HBD0.out.2.1 ?_; intro v4 wB hB hkB; have cB := HCS.out wB hB.keeps; obtain ⟨hc2, hn2⟩ := hkB _ _ hc1 hn1; clear hkB)
                  | (refine step_acc rfl (.tmp 101) (.tmp 105) rfl v1 _ _ rfl (hA.alloc (.cells #[(Value.string st)] 9)) ⟨g, 0, none⟩ (0) _ (strs xs) rfl HX0.out (fun _ => HN0.out HVC.out _) (strs_one _) HBD0.out.2.1 ?_; intro v4 wB hB hkB; have cB := HCS.out wB hB.keeps; obtain ⟨hc2, hn2⟩ := hkB wA.heap.size (Value.string st) (new_cell wA (Value.string st) _ rfl) hA.ne; clear hkB)
                  | (refine step_acc rfl (.tmp 101) (.tmp 105) rfl v1 _ _ rfl hA ⟨g, 0, none⟩ (0) _ (strs xs) rfl HX0.out (fun _ => HN0.out HVC.out _) (strs_one _) HBD0.out.2.1 ?_; intro v4 wB hB hkB; have cB := HCS.out wB hB.keeps; clear hkB)
                  | (refine step_acc rfl (.tmp 106) (.tmp 111) rfl v4 _ _ rfl hB _ 1 _ [(Value.string st)] rfl rfl (fun _ => one_cells hc2) HSO.out HBD0.out.2.2 ?_; intro v5 wC hC hkC; clear hkC)
                  | (refine step_acc rfl (.tmp 106) (.tmp 111) rfl v4 _ _ rfl (hB.alloc (.cells #[(Value.string st)] 9)) _ 1 _ [(Value.string st)] rfl rfl (fun _ => cell_one_new wB (Value.string st) 9) HSO.out HBD0.out.2.2 ?_; intro v5 wC hC hkC; clear hkC))
                all_goals
                  have HN2 := Lib.hid (HFIN.out _ _ _ _ hC (by omega) (by rw [List.nil_append, HSV.out]))
                  clear hC hB hA cA cB
                  go_wp2_with fail
                  go_roundw
                  case rel => exact ⟨_, _, D3, by omega, by go_num, HN2.out⟩
                  case measure => simp [intOf]; omega
              · have HVC := Lib.hid hvc
                go_region_law (first
                  | (refine step_acc rfl (.tmp 97) (.tmp 100) rfl _ 0 [] rfl HA1.out ⟨g, 0, none⟩ k _ (strs ys) rfl HYS.out (HNY.out _) (strs_one _) HBD.out.1 ?_; intro v1 wA hA hkA; have cA := HCS.out wA hA.keeps; clear hkA)
                  | (refine step_acc rfl (.tmp 97) (.tmp 100) rfl _ 0 [] rfl HA3.out.1 ⟨g, 0, none⟩ k _ (strs ys) rfl HYS.out (HNY.out _) (strs_one _) HBD.out.1 ?_; intro v1 wA hA hkA; have cA := HCS.out wA hA.keeps; obtain ⟨hc1, hn1⟩ := hkA _ _ HA3.out.2.1 HA3.out.2.2; clear hkA)
                  | (refine step_acc rfl (.tmp 97) (.tmp 100) rfl _ 0 [] rfl HA4.out.1 ⟨g, 0, none⟩ k _ (strs ys) rfl HYS.out (HNY.out _) (strs_one _) HBD.out.1 ?_; intro v1 wA hA hkA; have cA := HCS.out wA hA.keeps; obtain ⟨hc1, hn1⟩ := hkA _ _ HA4.out.2.1 HA4.out.2.2; clear hkA)
                  | (refine step_acc rfl (.tmp 101) (.tmp 105) rfl v1 _ _ rfl hA ⟨g, k + 1, none⟩ (t - k) _ (strs xs) rfl HXS.out (HNX.out _) (strs_one _) HBD.out.2.1 ?_; intro v4 wB hB hkB; have cB := HCS.out wB hB.keeps; obtain ⟨hc2, hn2⟩ := hkB _ _ hc1 hn1; clear hkB)
                  | (refine step_acc rfl (.tmp 101) (.tmp 105) rfl v1 _ _ rfl (hA.alloc (.cells #[(Value.string st)] 9)) ⟨g, k + 1, none⟩ (t - k) _ (strs xs) rfl HXS.out (HNX.out _) (strs_one _) HBD.out.2.1 ?_; intro v4 wB hB hkB; have cB := HCS.out wB hB.keeps; obtain ⟨hc2, hn2⟩ := hkB wA.heap.size (Value.string st) (new_cell wA (Value.string st) _ rfl) hA.ne; clear hkB)
                  | (refine step_acc rfl (.tmp 101) (.tmp 105) rfl v1 _ _ rfl hA ⟨g, k + 1, none⟩ (t - k) _ (strs xs) rfl HXS.out (HNX.out _) (strs_one _) HBD.out.2.1 ?_; intro v4 wB hB hkB; have cB := HCS.out wB hB.keeps; clear hkB)
                  | (refine step_acc rfl (.tmp 106) (.tmp 111) rfl v4 _ _ rfl hB _ 1 _ [(Value.string st)] rfl rfl (fun _ => one_cells hc2) HSO.out HBD.out.2.2 ?_; intro v5 wC hC hkC; clear hkC)
                  | (refine step_acc rfl (.tmp 106) (.tmp 111) rfl v4 _ _ rfl (hB.alloc (.cells #[(Value.string st)] 9)) _ 1 _ [(Value.string st)] rfl rfl (fun _ => cell_one_new wB (Value.string st) 9) HSO.out HBD.out.2.2 ?_; intro v5 wC hC hkC; clear hkC))
                all_goals
                  have HN2 := Lib.hid (HFIN.out _ _ _ _ hC (by omega) (by rw [List.nil_append, HSV.out]))
                  clear hC hB hA cA cB
                  go_wp2_with fail
                  go_roundw
                  case rel => exact ⟨_, _, D3, by omega, by go_num, HN2.out⟩
                  case measure => simp [intOf]; omega
          · have hun' : ¬ ((t : Int) < (n : Int)) := by omega
            go_wp2_with fail
            go_roundw
            case rel => exact ⟨t + 1, x :: hs2, D3, by omega, by go_num, HO15.out⟩
            case measure => simp [intOf]; omega
        · obtain ⟨g, cap, hg⟩ : ∃ g cap, Value.slice sa 1 sc = .slice (some ⟨g, 0, none⟩) 1 cap := own_formS HROW.out (by simp)
          injection hg with hg _ hg'
          subst hg hg'
          have ht1 : 0 < t := by
            have := HO.out.len
            rw [hy] at this
            simp at this
            omega
          obtain ⟨go, ocap, hgo⟩ := own_formS HRW.out ht1
          injection hgo with hgo _ hgo'
          subst hgo hgo'
          have hrd := (HRD.out y (by simp)).1
          obtain ⟨ya, yc, hya, _⟩ := own_bytes hrd.k
          have c0 : w14.cell? ⟨g, 0, none⟩ = some y.kv := by
            have := HROW.out.cells (g := g) rfl 0 y.kv (by simp [itemCells, IT.cells])
            rwa [add0] at this
          have c1 : w14.cell? ⟨go, 0, none⟩ = some (.string (strOfNums y.it.key)) := by
            have := HRW.out.cells (g := go) rfl 0 (.string (strOfNums y.it.key)) (by rw [hy, strs_app]; simp [strs])
            rwa [add0] at this
          have cvn : ∀ k, (convert 56 9 y.kv).run Tryd.prog (w14.drewN k) = .ok (.string (strOfNums y.it.key)) (w14.drewN k) := fun k => conv_slb ((SlB.of_own hrd.k).quiet ((Keeps.refl _ _).drewN k))
          rw [hya] at c0 cvn
          have HKF : Hid (Keeps (fun _ => False) w w14) := Lib.hid ((HK3.out.mono (S' := L.own) (fun _ _ h => h.elim)).trans HKP.out |>.mono fun k hk ho => by
            have h1 := HLO.out k ho
            have h3 := HK1.out.size
            omega)
          simp only [List.length_cons, List.length_nil, Nat.zero_add]
          clear hrd hya hy
          go_upto_region 16 with fail
          go_quiet (fail)
          go_wp2_with fail
          go_ret
          exact ⟨by simp, HKF.out.drewN _⟩
theorem ramOldest.walk (size : Int) (a : Option Addr) (n c : Nat) (us : List Int) (W : World) (hwf : (Lit.int .i64 size).wf = true) (hr : Row .i64 W a n us) (hus : ∀ x ∈ us, (Lit.int .i64 x).wf = true) (hn : n ≤ 140737488351232) (hc : n ≤ c) (hT : Tab W) : Calls Tryd.prog 8 #[.int .i64 size, .slice a n c] W fun e w' => e = .returned (.bool true) ∧ Below W.heap.size W w' := by
  refine (old_law size a n c us W hwf hr hus hn hT).mono ?_
  rintro e w' ⟨rfl, hk⟩
  exact ⟨rfl, hk.below (fun _ h => h.elim) (Nat.le_refl _)⟩
end Go.Proofs.YthnagihgjenimaaDoor
