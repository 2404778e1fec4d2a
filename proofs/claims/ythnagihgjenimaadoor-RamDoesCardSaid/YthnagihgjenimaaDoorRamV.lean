/- ram: Put. -/
import Derived.Test.YthnagihgjenimaaDoorRamR
import Derived.Deep.RegionHeld3
namespace Go.Proofs.YthnagihgjenimaaDoor
open Go.RowKit
set_option linter.unusedVariables false
set_option linter.unusedSimpArgs false
/-- The memory without a key. -/
def Less (D : AD) (hs : List HM) (k : List Int) (D' : AD) (hs' : List HM) : Prop :=
  ((∀ x ∈ hs, x.it.key ≠ k) ∧ D' = D ∧ hs' = hs) ∨ ∃ xs x ys, hs = xs ++ x :: ys ∧ x.it.key = k ∧ D' = D.less x.ch ∧ hs' = xs ++ ys
def OutAny (L : RL) (D : AD) (hs : List HM) (k : List Int) (w : World) (e : Ending) (w' : World) : Prop :=
  ∃ v bo D' hs', e = .returned (.tuple #[v, .bool bo]) ∧ Less D hs k D' hs' ∧ RAt w' L D' hs' ∧ (∀ x ∈ hs', x.it.key ≠ k) ∧ Keeps L.own w w'
theorem out_any_key (L : RL) (D : AD) (hs : List HM) (k : List Int) (w : World) (h : RAt w L D hs) (hkl : k.length ≤ 140737488351232) (hkb : Bytes k) : Calls Tryd.prog 62 #[L.ptr, .string (strOfNums k)] w (OutAny L D hs k w) := by
  by_cases hn : ∀ x ∈ hs, x.it.key ≠ k
  · refine (out_gone L D hs k w h hkl hkb hn).mono ?_
    rintro e w' ⟨⟨v, rfl⟩, hk⟩
    exact ⟨v, false, D, hs, rfl, .inl ⟨hn, rfl, rfl⟩, h.quiet hk, hn, hk.mono fun _ _ h => h.elim⟩
  · obtain ⟨x, hx, hxk⟩ : ∃ x ∈ hs, x.it.key = k := Classical.byContradiction fun hc => hn fun x hx e => hc ⟨x, hx, e⟩
    obtain ⟨xs, ys, rfl⟩ := List.append_of_mem hx
    subst hxk
    refine (out_there L D xs ys x w h).mono ?_
    rintro e w' ⟨rfl, hr, _, hk⟩
    exact ⟨_, true, _, _, rfl, .inr ⟨xs, x, ys, rfl, rfl, rfl, rfl⟩, hr, h.inv.keyne, hk⟩
/-- A slice's row is no block of memory's own. -/
def OffS (L : RL) (v : Value) : Prop := ∀ a n c, v = .slice (some a) n c → 0 < n → ¬ L.own a.block
theorem SlB.keep {w w' : World} {v : Value} {xs : List Int} {S : Nat → Prop} (h : SlB w v xs) (hk : Keeps S w w') (hs : ∀ a n c, v = .slice (some a) n c → 0 < n → ¬ S a.block) : SlB w' v xs := by
  obtain ⟨a, c, rfl, hr⟩ := h
  refine ⟨a, c, rfl, hr.1, fun i hi => ?_⟩
  obtain ⟨ad, rfl, hc⟩ := hr.2 i hi
  refine ⟨ad, rfl, ?_⟩
  have hb : (ad.add i).block = ad.block := by unfold Addr.add; split <;> rfl
  rw [hk.cell (p := ad.add i) (cell_lt hc) (by rw [hb]; exact hs ad _ _ rfl (by omega))]
  exact hc
/-- Behind put(own(x)). -/
def PutC (L : RL) (f g : Lit → Option Value) (m : Nat) (key : List Int) (ch : Nat) (i : IT) (w6 wx : World) : Prop :=
  ∃ kv vv wq, Keeps (fun _ => False) w6 wq ∧ Reads wq i kv vv ∧ MapV 9 wx L.ma (m + 1) (mput f (keyL key) (.int .i64 (ch : Int))) ∧ MapV 3 wx L.mt (m + 1) (mput g (chL ch) (i.agg kv vv)) ∧ Keeps (fun b => b = L.ma ∨ b = L.mt) wq wx
def slen8 : Value → Nat
  | .slice _ n _ => n
  | _ => 0
theorem slen8_own {w : World} {base size n : Nat} {e : TypeId} {v : Value} {xs : List Value} (h : w.ownsRow base e size v n xs) : slen8 v = n := by
  rcases h.2 with ⟨rfl, h0⟩ | ⟨g, cap, cur, rfl, _⟩
  · exact h0.symm
  · rfl
theorem Less.sub {D D' : AD} {hs hs' : List HM} {k : List Int} (h : Less D hs k D' hs') : ∀ x ∈ hs', x ∈ hs := by
  rcases h with ⟨_, _, rfl⟩ | ⟨xs, x, ys, rfl, _, _, rfl⟩
  · exact fun x h => h
  · exact fun q hq => mem_mid.2 (.inr hq)
def GiveC (L : RL) (D : AD) (cl : Nat) (w3 : World) (s9 s10 : Value) (wx : World) : Prop :=
  ∃ r q D2 w4, s9 = .int .i64 r ∧ s10 = .int .i64 q ∧ GiveS D cl r q D2 ∧ Keeps (fun _ => False) w3 w4 ∧ Keeps (fun k => k = L.al.G) w4 wx ∧ ArAt wx L.al D2
/-- Behind Put: what was put out, what is held. -/
def PutDone (W0 : World) (L : RL) (cl : Nat) (D1 : AD) (hs1 : List HM) (i : IT) (s8 : Value) (w' : World) : Prop :=
  ∃ D2 hs2 gone x D3, Reach cl D1 hs1 gone D2 hs2 ∧ GiveS D2 cl ((x.ch : Nat) : Int) 0 D3 ∧ x.it = i ∧ x.cl = cl ∧ RAt w' L D3 (x :: hs2) ∧ w'.ownsRow W0.heap.size 64 6 s8 gone.length (itemCells gone) ∧ ∀ x ∈ gone, Reads w' x.it x.kv x.vv ∧ Off L x.kv ∧ Off L x.vv
theorem PutDone.base {W0 w w' : World} {L : RL} {cl : Nat} {D1 : AD} {hs1 : List HM} {i : IT} {s8 : Value} (h : PutDone W0 L cl D1 hs1 i s8 w') (hb : w.heap.size ≤ W0.heap.size) : PutDone w L cl D1 hs1 i s8 w' := by
  obtain ⟨D2, hs2, gone, x, D3, h1, h2, h3, h4, h5, h6, h7⟩ := h
  exact ⟨D2, hs2, gone, x, D3, h1, h2, h3, h4, h5, own_base h6 hb, h7⟩
theorem info64 : (Tryd.prog.info? 64).map (fun i => (i.zero.map (·.cells), i.size, i.bytes)) = some (some zItem.toArray, 6, 72) := by kernel_rfl
theorem info64' : ∃ i z, Tryd.prog.info? 64 = some i ∧ i.zero = some z ∧ z.cells = zItem.toArray ∧ i.size = 6 ∧ i.bytes = 72 := by
  have h := info64
  cases hi : Tryd.prog.info? 64 with
  | none => rw [hi] at h; cases h
  | some it =>
    rw [hi] at h
    cases hz : it.zero with
    | none => simp [hz] at h
    | some z =>
      simp [hz] at h
      exact ⟨it, z, rfl, hz, h⟩
/-- A row of items that grows is no item's. -/
theorem Reads.grown {w w' : World} {i : IT} {kv vv v : Value} {base n : Nat} {xs : List Value} (h : Reads w i kv vv) (ho : w.ownsRow base 64 6 v n xs) (hk : w.grownBy w' v.ownBlock) : Reads w' i kv vv :=
  h.keep (Keeps.of_grown hk) (fun g hg e => own_ne_own h.k ho (by decide) g hg e) (fun g hg e => own_ne_own h.v ho (by decide) g hg e)
theorem give_n {D D' : AD} {k : Nat} {r q : Int} (h : GiveS D k r q D') : D'.n = D.n := by
  cases h <;> rfl
theorem mid_off {w : World} {L : RL} {D D' : AD} {hs : List HM} (h : RMid w L D D' hs) {base n : Nat} {v : Value} {xs : List Value} (ho : w.ownsRow base 5 1 v n xs) : Off L v := by
  obtain ⟨f, h1, h2⟩ := h.at'
  obtain ⟨f', h3, h4⟩ := h.th
  rintro g hg (rfl | rfl | rfl | rfl | hk)
  · exact own_ne_blk h.obj ho (by decide) hg
  · exact map_ne_own h1 ho hg
  · exact map_ne_own h3 ho hg
  · exact own_ne_own ho h.ar.row (by decide) _ hg rfl
  · obtain ⟨cs, hc⟩ := h.li.blks.2 g hk
    exact own_ne_blk hc ho (by decide) hg
set_option maxRecDepth 100000 in
set_option maxHeartbeats 4000000 in
theorem put_any_item (L : RL) (D : AD) (hs : List HM) (i : IT) (kv vv : Value) (w : World) (h : RAt w L D hs) (hT : Tab w) (hi : i.Ok) (hb : ItB w i kv vv) (hbo : ∀ k, L.own k → k ≠ 0) (ho1 : OffS L kv) (ho2 : OffS L vv) :
    Calls Tryd.prog 33 #[L.ptr, i.agg kv vv] w (fun e w' => ∃ D1 hs1 s8, e = .returned (.tuple #[s8, .int .i64 0]) ∧ Less D hs i.key D1 hs1 ∧ PutDone w L (cls (i.chg : Int)) D1 hs1 i s8 w' ∧ Keeps L.own w w') := by
  obtain ⟨W0, hW0⟩ : ∃ W0, W0 = w.alloc (.cells (i.cells kv vv).toArray 64) := ⟨_, rfl⟩
  have k0 : Keeps (fun _ => False) w W0 := by rw [hW0]; exact (Keeps.refl _ _).alloc _
  have hz0 : Blk W0 w.heap.size 64 (i.cells kv vv) := by rw [hW0]; exact Blk.new w 64 _
  have HO := Lib.hid (out_any_key L D hs i.key W0 (h.quiet k0) (by have := hi.k2; omega) hi.kb)
  have hchg := hi.chg
  have HCV : Hid (∀ W, Keeps (fun _ => False) w W → (convert 56 9 kv).run Tryd.prog W = .ok (.string (strOfNums i.key)) W) := Lib.hid (fun W hk => conv_slb (hb.k.quiet hk))
  have HCH : Hid (∀ W, ItB W i kv vv → Calls Tryd.prog 63 #[i.agg kv vv] W (IntP (i.chg : Nat) W)) := Lib.hid (fun W hw => charge_any i kv vv W hw (by have := hi.k2; omega) (by have := hi.v2; omega))
  have HIB := Lib.hid hb
  have hk1 := hi.k1
  have hk2 := hi.k2
  have hv2 := hi.v2
  have hsq := hi.sq
  obtain ⟨⟨a, c, rfl, hra⟩, ⟨b, d, rfl, hrb⟩⟩ := hb
  obtain ⟨C, hC⟩ : ∃ C : Nat, C = i.chg := ⟨_, rfl⟩
  rw [← hC] at HCH hchg
  have HCC := Lib.hid hC
  have HI := Lib.hid hi
  have HH := Lib.hid h
  have HK0 := Lib.hid k0
  have HZ0 := Lib.hid hz0
  have HW0 := Lib.hid hW0
  have HTT := Lib.hid hT
  obtain ⟨key, val, fg, ex, sq, dt⟩ := i
  dsimp only at hk1 hk2 hv2 hsq
  have z0 := hz0.cell (i := 0) (v := .slice a key.length c) rfl
  have z1 := hz0.cell (i := 1) (v := .slice b val.length d) rfl
  have z4 := hz0.cell (i := 4) (v := .int .u64 sq) rfl
  unfold IT.agg IT.cells at *
  dsimp only at HCV HCH HZ0 HW0 HO
  obtain ⟨n, hn⟩ : ∃ n, n = key.length := ⟨_, rfl⟩
  obtain ⟨m, hm⟩ : ∃ m, m = val.length := ⟨_, rfl⟩
  rw [← hn] at HCV HCH HZ0 HW0 hk1 hk2 z0 ⊢
  rw [← hm] at HCH HZ0 HW0 hv2 z1 ⊢
  have HN := Lib.hid hn
  have HMV := Lib.hid hm
  clear h k0 hz0 hW0 hi hra hrb hC hT hn hm
  have e1 : decide ((n : Int) < 1) = false := by simp; omega
  have e2 : decide ((n : Int) > 250) = false := by simp; omega
  have e3 : decide ((m : Int) > 512) = false := by simp; omega
  have e4 : (sq == 0) = false := by rw [beq_eq_false_iff_ne]; omega
  unfold RL.ptr at *
  go_enter Tryd.func33, Tryd.ntmps33
  go_upto_region 1 with fail
  rw [← HW0.out]
  have cv := HCV.out W0 HK0.out
  go_wp2_with fail
  refine HO.out.mono ?_
  rintro e w2 ⟨v, bo, D1, hs1, rfl, hless, hr2, hkn, hk2⟩
  have hown : ∀ k, L.own k → k < w.heap.size := HH.out.lt.2.2.2
  have hbx : ¬ L.own w.heap.size := fun ho => by
    have := hown _ ho
    omega
  have hz2 := hk2.blk HZ0.out hbx
  have HZ2 := Lib.hid hz2
  have HIB2 := Lib.hid (show ItB w2 ⟨key, val, fg, ex, sq, dt⟩ (.slice a n c) (.slice b m d) from by
    rw [HN.out, HMV.out]
    exact ⟨(HIB.out.k.quiet HK0.out).keep hk2 ho1, (HIB.out.v.quiet HK0.out).keep hk2 ho2⟩)
  have HLS := Lib.hid hless
  have HR2 := Lib.hid hr2
  have HKN := Lib.hid hkn
  have HK02 := Lib.hid hk2
  have HKW2 : Hid (Keeps L.own w w2) := Lib.hid ((HK0.out.mono (fun _ _ h => h.elim)).trans hk2)
  have p0 := hz2.cell (i := 0) rfl
  have p1 := hz2.cell (i := 1) rfl
  have p2 := hz2.cell (i := 2) rfl
  have p3 := hz2.cell (i := 3) rfl
  have p4 := hz2.cell (i := 4) rfl
  have p5 := hz2.cell (i := 5) rfl
  clear hz2 hless hr2 hkn hk2 cv z0 z1 z4 e1 e2 e3 e4 HO
  go_wp2_with fail
  refine (HCH.out w2 HIB2.out).mono ?_
  rintro e w3 ⟨rfl, hk3⟩
  have HK3 := Lib.hid hk3
  clear hk3
  go_wp2_with fail
  refine (class_any _ w3).mono ?_
  rintro e w4 ⟨cc, qq, rfl, hcs, hk4⟩
  obtain ⟨rfl, rfl⟩ : cc = (cls (C : Int) : Nat) ∧ qq = 0 := by
    rcases hcs with ⟨h, _⟩ | ⟨_, _, h1, h2⟩ | ⟨h, _⟩
    · omega
    · exact ⟨h1, h2⟩
    · omega
  obtain ⟨cl, hcl⟩ : ∃ cl, cl = cls (C : Int) := ⟨_, rfl⟩
  rw [← hcl]
  have HCL := Lib.hid hcl
  have HR4 := Lib.hid (HR2.out.quiet (HK3.out.trans hk4))
  have HIB4 := Lib.hid (HIB2.out.quiet (HK3.out.trans hk4))
  have HZ4 := Lib.hid ((HK3.out.trans hk4).blk HZ2.out id)
  have HK04 : Hid (Keeps L.own W0 w4) := Lib.hid (HK02.out.trans ((HK3.out.trans hk4).mono fun _ _ h => h.elim))
  have HKW4 : Hid (Keeps L.own w w4) := Lib.hid ((HKW2.out.trans ((HK3.out.trans hk4).mono fun _ _ h => h.elim)))
  have hz4 := HZ4.out
  have hob := HR4.out.obj
  unfold RL.obj AL.ptr at hob
  have b2 := hob.cell (i := 2) rfl
  clear hcs hk4 hcl p0 p1 p2 p3 p4 p5 hob
  have p0 := hz4.cell (i := 0) rfl
  have p1 := hz4.cell (i := 1) rfl
  have p2 := hz4.cell (i := 2) rfl
  have p3 := hz4.cell (i := 3) rfl
  have p4 := hz4.cell (i := 4) rfl
  have p5 := hz4.cell (i := 5) rfl
  clear hz4
  go_upto_region 8 with fail
  have HGV : Hid (∀ W, Keeps (fun _ => False) w4 W → Calls Tryd.prog 19 #[.pointer (some ⟨L.al.B, 0, none⟩), .int .i64 (C : Int)] W fun e w' => ∃ r q D', e = .returned (.tuple #[.int .i64 r, .int .i64 q]) ∧ GiveS D1 cl r q D' ∧ Keeps (fun k => k = L.al.G) W w' ∧ ArAt w' L.al D') := Lib.hid (fun W hk => by
    have hg := give_any L.al D1 W (HR4.out.quiet hk).ar (HTT.out.keep (HKW4.out.trans (hk.mono fun _ _ h => h.elim)) (fun ho => hbo 0 ho rfl)) (C : Int)
    unfold AL.ptr at hg
    refine hg.mono ?_
    rintro e w' ⟨r, q, D', rfl, h1, h2, h3⟩
    refine ⟨r, q, D', rfl, ?_, h1, h2⟩
    rcases h3 with ⟨h, _⟩ | ⟨_, _, h⟩ | ⟨h, _⟩
    · omega
    · rw [HCL.out]; exact h
    · omega)
  have FB : Hid (∀ W, Keeps (fun _ => False) w4 W → W.cell? ⟨L.B, 2, none⟩ = some (.pointer (some ⟨L.al.B, 0, none⟩))) := Lib.hid (fun W hk => by
    have h := (HR4.out.quiet hk).obj
    unfold RL.obj AL.ptr at h
    exact h.cell (i := 2) rfl)
  go_cut [9, 10] (fun s9 s10 wx => GiveC L D1 cl w4 s9 s10 wx)
  case first =>
    go_region_with (first
      | (go_at_call 63; refine (HCH.out _ (HIB4.out.quiet (Keeps.refl _ _).drew)).mono ?_; rintro e w5 ⟨rfl, hk5⟩; have hk5' : Keeps (fun _ => False) w4 w5 := (Keeps.refl (fun _ => False) w4).drew.trans hk5; have d2 := FB.out _ hk5')
      | (go_at_call 19; refine (HGV.out _ hk5').mono ?_; rintro e w6 ⟨r, q, D2, rfl, hgs, hk6, ha6⟩; have HGS : Hid (GiveC L D1 cl w4 (.int .i64 r) (.int .i64 q) w6) := Lib.hid ⟨r, q, D2, w5, rfl, rfl, hgs, hk5', hk6, ha6⟩; clear hgs hk6 ha6))
    all_goals
      go_wp2_with fail
      go_meet
      exact HGS.out
  case rest =>
    obtain ⟨r0, q0, D2, w5, rfl, rfl, hgs, hk5, hk6, ha6⟩ := hcut
    obtain ⟨w6, rfl⟩ : ∃ w6, w6 = wc := ⟨_, rfl⟩
    have HP0 : Hid (PutI W0 L cl key D1 hs1 D1 hs1 [] r0 q0 D2 (.slice none 0 0) w6) := Lib.hid ⟨.start, hgs, (HR4.out.quiet hk5).give hk6 ha6, HR4.out.inv, HK04.out.trans ((hk5.mono fun _ _ h => h.elim).trans (hk6.mono fun k _ e => .inr (.inr (.inr (.inl e))))), World.ownsRow_nil _ _ _ _, fun x hx => by cases hx⟩
    clear hgs hk5 hk6 ha6 HGV FB b2 p0 p1 p2 p3 p4 p5
    go_wp2_with fail
    go_loopw [8, 9, 10] (fun s8 s9 s10 wr => ∃ D hs gone r q Dn, s9 = .int .i64 r ∧ s10 = .int .i64 q ∧ PutI W0 L cl key D1 hs1 D hs gone r q Dn s8 wr) (fun s8 _ _ _ => hs1.length - slen8 s8)
    case atStart => exact ⟨_, _, _, _, _, _, rfl, rfl, HP0.out⟩
    case round =>
      obtain ⟨Dc, hsc, gone, r, q, Dn, rfl, rfl, hP⟩ := hrel
      rcases give_q hP.give with ⟨rfl, hD, hfull⟩ | ⟨rfl, ch, rfl⟩
      · obtain ⟨hra, hfa, hnn⟩ := hP.full rfl
        have HPI := Lib.hid hP
        have HFA := Lib.hid hfa
        have HRA := Lib.hid hra
        have HOL := Lib.hid (oldest_key L Dc hsc cl wr hra (by rw [HCL.out]; exact cls_lt _) hnn)
        unfold RL.ptr at HOL
        clear hP hra hfa hnn
        go_wp2_with fail
        refine HOL.out.mono ?_
        rintro e wa ⟨xs, x, ys, rfl, hpick, hys, rfl, hka⟩
        have HPK := Lib.hid hpick
        have HYS := Lib.hid hys
        have HKA := Lib.hid hka
        have HRX := Lib.hid (HRA.out.rd x (by simp))
        obtain ⟨xa, xc, hxa, _⟩ := own_bytes HRX.out.k
        obtain ⟨ya, yc, hya, _⟩ := own_bytes HRX.out.v
        have HOT := Lib.hid (out_there L Dc xs ys x wa (HRA.out.quiet hka))
        unfold OutP HM.val IT.agg RL.ptr at HOT
        rw [hxa, hya] at HOT
        have HXA := Lib.hid hxa
        have HYA := Lib.hid hya
        clear hpick hys hka hxa hya HOL
        go_wp2_with fail
        refine HOT.out.mono ?_
        rintro e wb ⟨rfl, hrb, hrdb, hkb⟩
        have HRB := Lib.hid hrb
        have HRDB := Lib.hid hrdb
        have HKB := Lib.hid hkb
        clear hrb hrdb hkb HOT
        go_upto_region 14 with fail
        obtain ⟨cs, hcs⟩ : ∃ cs : List Value, cs = [.slice xa x.it.key.length xc, .slice ya x.it.val.length yc, .int .u32 x.it.fg, .int .u32 x.it.ex, .int .u64 x.it.sq, .bool x.it.dt] := ⟨_, rfl⟩
        have hcells : cs = x.it.cells x.kv x.vv := by rw [hcs, HXA.out, HYA.out]; rfl
        have hcl6 : cs.length = 6 := by rw [hcs]; rfl
        obtain ⟨W1, hW1⟩ : ∃ W1, W1 = wb.alloc (.cells #[.slice xa x.it.key.length xc, .slice ya x.it.val.length yc, .int .u32 x.it.fg, .int .u32 x.it.ex, .int .u64 x.it.sq, .bool x.it.dt] 64) := ⟨_, rfl⟩
        have hb1 : Blk W1 wb.heap.size 64 [.slice xa x.it.key.length xc, .slice ya x.it.val.length yc, .int .u32 x.it.fg, .int .u32 x.it.ex, .int .u64 x.it.sq, .bool x.it.dt] := by rw [hW1]; exact Blk.new wb 64 _
        have hk1 : Keeps (fun _ => False) wb W1 := by rw [hW1]; exact (Keeps.refl _ _).alloc _
        obtain ⟨W2, hW2⟩ : ∃ W2, W2 = W1.alloc (.cells #[.slice xa x.it.key.length xc, .slice ya x.it.val.length yc, .int .u32 x.it.fg, .int .u32 x.it.ex, .int .u64 x.it.sq, .bool x.it.dt] 64) := ⟨_, rfl⟩
        have hb2 : Blk W2 W1.heap.size 64 cs := by rw [hW2, hcs]; exact Blk.new W1 64 _
        have hk2 : Keeps (fun _ => False) wb W2 := by rw [hW2]; exact hk1.alloc _
        have HNW : Hid (∀ j u, cs[j]? = some u → W2.cell? ((⟨W1.heap.size, 0, none⟩ : Addr).add j) = some u) := Lib.hid (fun j u hu => by rw [add0]; exact hb2.cell hu)
        have HONE : Hid (∀ u ∈ cs, u.oneCell' = true) := Lib.hid (by rw [hcs]; intro u hu; simp at hu; rcases hu with rfl | rfl | rfl | rfl | rfl | rfl <;> rfl)
        have hrowlt : ∀ g, u8.ownBlock = some g → ¬ L.own g := fun g hg ho => by
          have h1 := (own_heap HPI.out.row hg).1
          have h2 := HH.out.lt.2.2.2 g ho
          have h3 := HK0.out.size
          omega
        have HROW : Hid (W2.ownsRow W0.heap.size 64 6 u8 gone.length (itemCells gone)) := Lib.hid (hk2.own' (HKB.out.own' (HKA.out.own' HPI.out.row (fun _ _ => id)) hrowlt) (fun _ _ => id))
        have hgl : gone.length ≤ 10000 := by
          have h2 := HPI.out.reach.sub.2.2.2
          have h3 := HR4.out.len
          omega
        have hbs : W0.heap.size ≤ W2.heap.size := by
          have h1 := HPI.out.keeps.size
          have h2 := HKA.out.size
          have h3 := HKB.out.size
          have h4 := hk2.size
          omega
        have HCS := Lib.hid hcells
        have HK2 := Lib.hid hk2
        have HRL := Lib.hid hrowlt
        rw [← hW1]
        have x0 := hb1.cell (i := 0) rfl
        have x1 := hb1.cell (i := 1) rfl
        have x2 := hb1.cell (i := 2) rfl
        have x3 := hb1.cell (i := 3) rfl
        have x4 := hb1.cell (i := 4) rfl
        have x5 := hb1.cell (i := 5) rfl
        clear hcells hk2 hrowlt hb2 hb1 hk1 hW1 hcs
        obtain ⟨i0, z0, hi1, hz0, hzc, hz1, hz2⟩ := info64'
        have hzs : z0.cells.size = 6 := by rw [hzc]; rfl
        have HW2 := Lib.hid hW2
        clear hW2
        go_wp2_with (at_builtin; rw [← HW2.out]; refine wpList_append_own _ rfl _ _ 58 rfl W0.heap.size 64 i0 z0 6 72 Tryd.underlying58 hi1 hz0 hz1 hz2 hzs (by decide) _ _ _ rfl HROW.out ⟨W1.heap.size, 0, none⟩ 1 1 cs rfl (by omega) HNW.out HONE.out (by unfold maxLen; omega) (by omega) hbs ?_)
        intro v' w3 hown' hgrow _
        have hsz3 := hgrow.size
        have HR3 : Hid (RAt w3 L (Dc.less x.ch) (xs ++ ys)) := Lib.hid (HH.out.above (HRB.out.quiet HK2.out) (fun q hq => HLS.out.sub q (HPI.out.reach.sub.1 q (mem_mid.2 (.inr hq)))) (Keeps.of_grown hgrow) (fun k e => by
          have h1 := (own_heap HROW.out e).1
          have h3 := HK0.out.size
          omega))
        have HRO3 : Hid (w3.ownsRow W0.heap.size 64 6 v' (gone ++ [x]).length (itemCells (gone ++ [x]))) := Lib.hid (by
          rw [itemCells_snoc, List.length_append, ← HCS.out]
          exact hown')
        have hkab : Keeps L.own wr wb := (HKA.out.mono fun _ _ h => h.elim).trans HKB.out
        have HRD3 : Hid (∀ y ∈ gone ++ [x], Reads w3 y.it y.kv y.vv ∧ Off L y.kv ∧ Off L y.vv) := Lib.hid (fun y hy => by
          rcases List.mem_append.1 hy with hy | hy
          · obtain ⟨h1, h2, h3⟩ := HPI.out.rd y hy
            exact ⟨((h1.keep hkab h2 h3).keep HK2.out (fun _ _ => id) (fun _ _ => id)).grown HROW.out hgrow, h2, h3⟩
          · obtain rfl := List.mem_singleton.1 hy
            refine ⟨?_, HRA.out.off y (by simp)⟩
            have h := (HRDB.out.keep HK2.out (fun _ _ => id) (fun _ _ => id)).grown HROW.out hgrow
            rw [HXA.out, HYA.out]
            exact h)
        have HK3 : Hid (Keeps L.own W0 w3) := Lib.hid ((((HPI.out.keeps.trans hkab).mono (S' := fun k => L.own k ∨ W0.heap.size ≤ k) fun _ _ h => .inl h).trans ((HK2.out.mono fun _ _ h => h.elim).trans ((Keeps.of_grown hgrow).mono fun k _ e => .inr (own_heap HROW.out e).1))).mono fun k hk h => h.elim id fun h => by omega)
        have hwW : w.heap.size < W0.heap.size := HZ0.out.lt
        have HZ3 : Hid (Blk w3 w.heap.size 64 _) := Lib.hid (HK3.out.blk HZ0.out hbx)
        have HI3 : Hid (ItB w3 ⟨key, val, fg, ex, sq, dt⟩ (.slice a n c) (.slice b m d)) := Lib.hid (by
          rw [HN.out, HMV.out]
          exact ⟨(HIB.out.k.quiet HK0.out).keep HK3.out ho1, (HIB.out.v.quiet HK0.out).keep HK3.out ho2⟩)
        have HGV3 : Hid (∀ W, Keeps (fun _ => False) w3 W → Calls Tryd.prog 19 #[.pointer (some ⟨L.al.B, 0, none⟩), .int .i64 (C : Int)] W fun e w' => ∃ r q D', e = .returned (.tuple #[.int .i64 r, .int .i64 q]) ∧ GiveS (Dc.less x.ch) cl r q D' ∧ Keeps (fun k => k = L.al.G) W w' ∧ ArAt w' L.al D') := Lib.hid (fun W hk => by
          have hg := give_any L.al (Dc.less x.ch) W (HR3.out.quiet hk).ar (HTT.out.keep ((HK0.out.mono (fun _ _ h => h.elim)).trans (HK3.out.trans (hk.mono fun _ _ h => h.elim))) (fun ho => hbo 0 ho rfl)) (C : Int)
          unfold AL.ptr at hg
          refine hg.mono ?_
          rintro e w' ⟨r, q, D', rfl, h1, h2, h3⟩
          refine ⟨r, q, D', rfl, ?_, h1, h2⟩
          rcases h3 with ⟨h, _⟩ | ⟨_, _, h⟩ | ⟨h, _⟩
          · omega
          · rw [HCL.out]; exact h
          · omega)
        have hGz : ¬ (w.heap.size = L.al.G) := fun e => hbx (.inr (.inr (.inr (.inl e))))
        have FB3 : Hid (∀ W, Keeps (fun k => k = L.al.G) w3 W → W.cell? ⟨L.B, 2, none⟩ = some (.pointer (some ⟨L.al.B, 0, none⟩)) ∧ W.cell? ⟨w.heap.size, 0, none⟩ = some (.slice a n c) ∧ W.cell? ⟨w.heap.size, 1, none⟩ = some (.slice b m d) ∧ W.cell? ⟨w.heap.size, 2, none⟩ = some (.int .u32 fg) ∧ W.cell? ⟨w.heap.size, 3, none⟩ = some (.int .u32 ex) ∧ W.cell? ⟨w.heap.size, 4, none⟩ = some (.int .u64 sq) ∧ W.cell? ⟨w.heap.size, 5, none⟩ = some (.bool dt)) := Lib.hid (fun W hk => by
          have h := hk.blk HR3.out.obj HR3.out.ne.bg
          have hz := hk.blk HZ3.out hGz
          unfold RL.obj AL.ptr at h
          exact ⟨h.cell (i := 2) rfl, hz.cell (i := 0) rfl, hz.cell (i := 1) rfl, hz.cell (i := 2) rfl, hz.cell (i := 3) rfl, hz.cell (i := 4) rfl, hz.cell (i := 5) rfl⟩)
        have HRE : Hid (Reach cl D1 hs1 (gone ++ [x]) (Dc.less x.ch) (xs ++ ys)) := Lib.hid (HPI.out.reach.next HFA.out HPK.out HYS.out)
        have HIV : Hid (RInv (Dc.less x.ch) (xs ++ ys)) := Lib.hid HPI.out.inv.out
        have HLN : Hid ((xs ++ x :: ys).length = (xs ++ ys).length + 1) := Lib.hid (by simp; omega)
        have HG8 : Hid (gone.length + (xs ++ x :: ys).length = hs1.length) := Lib.hid HPI.out.reach.sub.2.2.2
        have HV8 : Hid (slen8 u8 = gone.length ∧ slen8 v' = gone.length + 1) := Lib.hid ⟨slen8_own HPI.out.row, slen8_own hown'⟩
        clear hown' hgrow hsz3 hkab x0 x1 x2 x3 x4 x5 hi1 hz0 hz1 hz2 hzs hzc hbs hgl hwW
        go_upto_region 15 with fail
        have HFIN : Hid (∀ s9 s10 wc, GiveC L (Dc.less x.ch) cl w3 s9 s10 wc → ∃ r1 q1 D3, s9 = .int .i64 r1 ∧ s10 = .int .i64 q1 ∧ PutI W0 L cl key D1 hs1 (Dc.less x.ch) (xs ++ ys) (gone ++ [x]) r1 q1 D3 v' wc) := Lib.hid (fun s9 s10 wc hcut => by
          obtain ⟨r1, q1, D3, w5, rfl, rfl, hgs, hk5, hk6, ha6⟩ := hcut
          have hk7 : Keeps L.own w3 wc := (hk5.mono fun _ _ h => h.elim).trans (hk6.mono fun k _ e => .inr (.inr (.inr (.inl e))))
          exact ⟨r1, q1, D3, rfl, rfl, HRE.out, hgs, (HR3.out.quiet hk5).give hk6 ha6, HIV.out, HK3.out.trans hk7, hk7.own' HRO3.out (fun g hg ho => by
            have h1 := (own_heap HRO3.out hg).1
            have h2 := HH.out.lt.2.2.2 g ho
            have h3 := HK0.out.size
            omega), fun y hy => ⟨(HRD3.out y hy).1.keep hk7 (HRD3.out y hy).2.1 (HRD3.out y hy).2.2, (HRD3.out y hy).2⟩⟩)
        have hmeas : hs1.length - slen8 v' < hs1.length - slen8 u8 := by
          have h1 := HV8.out
          have h2 := HG8.out
          have h3 := HLN.out
          omega
        have HMEAS := Lib.hid hmeas
        clear hmeas
        go_region_held3 (fun W => W.cell? ⟨L.B, 2, none⟩ = some (.pointer (some ⟨L.al.B, 0, none⟩)) ∧ W.cell? ⟨w.heap.size, 0, none⟩ = some (.slice a n c) ∧ W.cell? ⟨w.heap.size, 1, none⟩ = some (.slice b m d) ∧ W.cell? ⟨w.heap.size, 2, none⟩ = some (.int .u32 fg) ∧ W.cell? ⟨w.heap.size, 3, none⟩ = some (.int .u32 ex) ∧ W.cell? ⟨w.heap.size, 4, none⟩ = some (.int .u64 sq) ∧ W.cell? ⟨w.heap.size, 5, none⟩ = some (.bool dt)) (first | exact FB3.out _ (Keeps.refl _ _).drew | exact FB3.out _ (hk5'.mono fun _ _ h => h.elim) | exact FB3.out _ hk6') (first
          | (go_at_call 63; refine (HCH.out _ (HI3.out.quiet (Keeps.refl _ _).drew)).mono ?_; rintro e w5 ⟨rfl, hk5⟩; have hk5' : Keeps (fun _ => False) w3 w5 := (Keeps.refl (fun _ => False) w3).drew.trans hk5)
          | (go_at_call 19; refine (HGV3.out _ hk5').mono ?_; rintro e w6 ⟨r', q', D2', rfl, hgs, hk6, ha6⟩; have HGS := Lib.hid (HFIN.out (.int .i64 r') (.int .i64 q') w6 ⟨r', q', D2', w5, rfl, rfl, hgs, hk5', hk6, ha6⟩); have hk6' : Keeps (fun k => k = L.al.G) w3 w6 := (hk5'.mono fun _ _ h => h.elim).trans hk6; clear hgs hk6 ha6))
        all_goals
          go_wp2_with fail
          go_roundw
          case rel =>
            obtain ⟨r1, q1, D3, e1, e2, hp⟩ := HGS.out
            exact ⟨_, _, _, _, _, _, e1, e2, hp⟩
          case measure => exact HMEAS.out
      · have HPI := Lib.hid hP
        obtain ⟨f, hm1, hf⟩ := hP.mid.at'
        obtain ⟨g, hm2, hg⟩ := hP.mid.th
        have hob := hP.mid.obj
        unfold RL.obj at hob
        have b0 := hob.cell (i := 0) rfl
        have b1 := hob.cell (i := 1) rfl
        have hkz := hP.keeps.blk HZ0.out hbx
        have p0 := hkz.cell (i := 0) rfl
        have p1 := hkz.cell (i := 1) rfl
        have p2 := hkz.cell (i := 2) rfl
        have p3 := hkz.cell (i := 3) rfl
        have p4 := hkz.cell (i := 4) rfl
        have p5 := hkz.cell (i := 5) rfl
        have hxch : ∀ x ∈ hsc, x.ch ≠ ch := fun x hx e => by
          rcases give_has hP.inv.ok (by rw [HCL.out]; exact cls_lt _) hP.give with ⟨h6, _⟩ | ⟨_, m', hm', _, _, h3, _⟩
          · omega
          · obtain rfl : m' = ch := by omega
            have : Dc.Has x.ch x.cl := (hP.inv.has _ _).2 ⟨x, hx, rfl, rfl⟩
            rw [e] at this
            exact h3 this.find
        have hxk : ∀ x ∈ hsc, x.it.key ≠ key := fun x hx => HKN.out x (hP.reach.sub.1 x hx)
        have hfn : f (keyL key) = none := hf.none fun x hx e => hxk x hx (keyL_inj (hP.inv.good x hx).1.kb HI.out.kb e)
        have hgn : g (chL ch) = none := hg.none fun x hx e => hxch x hx (chL_inj e)
        have HFN := Lib.hid hfn
        have HGN := Lib.hid hgn
        have HXC := Lib.hid hxch
        have HXK := Lib.hid hxk
        have HM1 := Lib.hid hm1
        have HM2 := Lib.hid hm2
        have HF := Lib.hid hf
        have HG := Lib.hid hg
        clear hxch hxk hfn hgn hm1 hm2 hf hg
        clear hP hob hkz
        go_upto_region 16 with fail
        go_cut [] (fun wx => PutC L f g hsc.length key ch ⟨key, val, fg, ex, sq, dt⟩ wr wx)
        case first =>
          have HOW : Hid (∀ W, Keeps (fun _ => False) wr W → Calls Tryd.prog 66 #[.agg #[.slice a n c, .slice b m d, .int .u32 fg, .int .u32 ex, .int .u64 sq, .bool dt]] W (OwnP ⟨key, val, fg, ex, sq, dt⟩ W)) := Lib.hid (fun W hk => by
            have hib : ItB W ⟨key, val, fg, ex, sq, dt⟩ (.slice a n c) (.slice b m d) := by
              rw [HN.out, HMV.out]
              exact ⟨((HIB.out.k.quiet HK0.out).keep HPI.out.keeps ho1).quiet hk, ((HIB.out.v.quiet HK0.out).keep HPI.out.keeps ho2).quiet hk⟩
            exact own_any ⟨key, val, fg, ex, sq, dt⟩ _ _ W hib (by have := HI.out.k2; omega) (by have := HI.out.v2; omega))
          have hnB : ¬ (L.B = L.ma ∨ L.B = L.mt) := fun e => e.elim HR4.out.ne.bm HR4.out.ne.bt
          have hnz : ¬ (w.heap.size = L.ma ∨ w.heap.size = L.mt) := fun e => hbx (e.elim (fun e => .inr (.inl e)) (fun e => .inr (.inr (.inl e))))
          have FC : Hid (∀ W, Keeps (fun k => k = L.ma ∨ k = L.mt) wr W → (W.cell? ⟨L.B, 0, none⟩ = some (.map (some L.ma)) ∧ W.cell? ⟨L.B, 1, none⟩ = some (.map (some L.mt))) ∧ W.cell? ⟨w.heap.size, 0, none⟩ = some (.slice a n c) ∧ W.cell? ⟨w.heap.size, 1, none⟩ = some (.slice b m d) ∧ W.cell? ⟨w.heap.size, 2, none⟩ = some (.int .u32 fg) ∧ W.cell? ⟨w.heap.size, 3, none⟩ = some (.int .u32 ex) ∧ W.cell? ⟨w.heap.size, 4, none⟩ = some (.int .u64 sq) ∧ W.cell? ⟨w.heap.size, 5, none⟩ = some (.bool dt) ∧ (convert 56 9 (.slice a n c)).run Tryd.prog W = .ok (.string (strOfNums key)) W) := Lib.hid (fun W hk => by
            have hb := hk.blk HPI.out.mid.obj hnB
            have hz := hk.blk (HPI.out.keeps.blk HZ0.out hbx) hnz
            refine ⟨⟨hb.cell (i := 0) rfl, hb.cell (i := 1) rfl⟩, hz.cell (i := 0) rfl, hz.cell (i := 1) rfl, hz.cell (i := 2) rfl, hz.cell (i := 3) rfl, hz.cell (i := 4) rfl, hz.cell (i := 5) rfl, conv_slb ?_⟩
            rw [HN.out]
            exact ((HIB.out.k.quiet HK0.out).keep (HPI.out.keeps.trans (hk.mono fun k _ e => e.elim (fun e => .inr (.inl e)) (fun e => .inr (.inr (.inl e))))) ho1))
          have hk250 : key.length ≤ 250 := HI.out.k2
          have hch8 : ch ≤ 1000000 := by
            rcases give_has HPI.out.inv.ok (by rw [HCL.out]; exact cls_lt _) HPI.out.give with ⟨h6, _⟩ | ⟨_, m', hm', _, h2, _⟩
            · omega
            · have := HPI.out.mid.ar.n2
              have := HPI.out.reach.sub.2.2.1
              have := HR4.out.ar.n2
              omega
          have hlen8 : hsc.length ≤ 1000000 := by
            have := HPI.out.reach.sub.2.2.2
            have := HR4.out.len
            omega
          have HPN : Hid (∀ wq ka kc va vc, Keeps (fun _ => False) wr wq → Calls Tryd.prog 65 #[.agg #[.map (some L.ma), .map (some L.mt)], .string (strOfNums key), .int .i64 (ch : Int), .agg #[.slice ka key.length kc, .slice va val.length vc, .int .u32 fg, .int .u32 ex, .int .u64 sq, .bool dt]] wq (PutP L (hsc.length + 1) (mput f (keyL key) (.int .i64 (ch : Int))) (mput g (chL ch) (.agg #[.slice ka key.length kc, .slice va val.length vc, .int .u32 fg, .int .u32 ex, .int .u64 sq, .bool dt])) wq)) := Lib.hid (fun wq ka kc va vc hk =>
            put_new L key ch hsc.length ⟨key, val, fg, ex, sq, dt⟩ ka va key.length kc val.length vc f g wq (HM1.out.keep hk id) (HM2.out.keep hk id) HPI.out.mid.mm (by omega) hch8 hlen8 HFN.out HGN.out)
          unfold OwnP IT.agg at HOW
          go_region_held3 (fun W => (W.cell? ⟨L.B, 0, none⟩ = some (.map (some L.ma)) ∧ W.cell? ⟨L.B, 1, none⟩ = some (.map (some L.mt))) ∧ W.cell? ⟨w.heap.size, 0, none⟩ = some (.slice a n c) ∧ W.cell? ⟨w.heap.size, 1, none⟩ = some (.slice b m d) ∧ W.cell? ⟨w.heap.size, 2, none⟩ = some (.int .u32 fg) ∧ W.cell? ⟨w.heap.size, 3, none⟩ = some (.int .u32 ex) ∧ W.cell? ⟨w.heap.size, 4, none⟩ = some (.int .u64 sq) ∧ W.cell? ⟨w.heap.size, 5, none⟩ = some (.bool dt) ∧ (convert 56 9 (.slice a n c)).run Tryd.prog W = .ok (.string (strOfNums key)) W) (first | exact FC.out _ (Keeps.refl _ _).drew | exact FC.out _ (hkq'.mono fun _ _ h => h.elim) | exact FC.out _ hkx') (first
            | (go_at_call 66; refine (HOW.out _ (Keeps.refl _ _).drew).mono ?_; rintro e wq ⟨kv, vv, rfl, ok, ov, hkq⟩; obtain ⟨ka, kc, rfl, _⟩ := own_bytes ok; obtain ⟨va, vc, rfl, _⟩ := own_bytes ov; have hkq' : Keeps (fun _ => False) wr wq := (Keeps.refl (fun _ => False) wr).drew.trans hkq; have OK := Lib.hid ok; have OV := Lib.hid ov; clear ok ov)
            | (go_at_call 65; refine (HPN.out wq _ _ _ _ hkq').mono ?_; rintro e wx ⟨rfl, hx1, hx2, hkx⟩; have HPC : Hid (PutC L f g hsc.length key ch ⟨key, val, fg, ex, sq, dt⟩ wr wx) := Lib.hid ⟨_, _, wq, hkq', ⟨own_base OK.out (Nat.zero_le _), own_base OV.out (Nat.zero_le _)⟩, hx1, hx2, hkx⟩; have hkx' : Keeps (fun k => k = L.ma ∨ k = L.mt) wr wx := (hkq'.mono (fun _ _ h => h.elim)).trans hkx; clear hx1 hx2 hkx))
          all_goals
            go_wp2_with fail
            go_meet
            exact HPC.out
        case rest =>
          obtain ⟨kv, vv, wq, hkq, hrdx, hm1, hm2, hkx⟩ := hcut
          obtain ⟨wx, rfl⟩ : ∃ wx, wx = wc := ⟨_, rfl⟩
          have hne := HR4.out.ne
          have hmidq := HPI.out.mid.quiet hkq
          have hlx := li_keep hmidq.li hkx (fun e => e.elim hne.km hne.kt) (fun k ho e => by
            rcases e with rfl | rfl
            · exact hne.lm ho
            · exact hne.lt ho)
          have hchN : ch < L.lk.N := by
            rw [HPI.out.mid.lN]
            rcases give_has HPI.out.inv.ok (by rw [HCL.out]; exact cls_lt _) HPI.out.give with ⟨h6, _⟩ | ⟨_, m', hm', _, h2, _⟩
            · omega
            · omega
          have hcl8 : cl < L.lk.n := by rw [HPI.out.mid.ln, HCL.out]; exact cls_lt _
          have HPS := Lib.hid (push_ok L.lk wx _ hlx cl ch hcl8 hchN (fun j hj hin => by
            obtain ⟨xs, x, ys, e, _, h2⟩ := lsOf_mem hin
            exact HXC.out x (by rw [e]; simp) h2))
          have hbx1 := hkx.blk hmidq.obj (fun e => e.elim hne.bm hne.bt)
          have hzx1 := hkx.blk (hkq.blk (HPI.out.keeps.blk HZ0.out hbx) id) (fun e => hbx (e.elim (fun e => .inr (.inl e)) (fun e => .inr (.inr (.inl e)))))
          unfold RL.obj at hbx1
          have c3 := hbx1.cell (i := 3) rfl
          unfold LK.Next at HPS
          unfold LK.ptr at HPS c3
          have HBX := Lib.hid hbx1
          have HZX := Lib.hid hzx1
          have HMQ := Lib.hid hmidq
          have HKQ := Lib.hid hkq
          have HKX := Lib.hid hkx
          have HRX := Lib.hid hrdx
          have HMX1 := Lib.hid hm1
          have HMX2 := Lib.hid hm2
          have HNE := Lib.hid hne
          clear hkq hrdx hm1 hm2 hkx hne hmidq hlx hbx1 hzx1 b0 b1 p0 p1 p2 p3 p4 p5 hchN hcl8
          go_wp2_with fail
          refine HPS.out.mono ?_
          rintro e w8 ⟨rfl, hl8, hk8⟩
          have HB8 := Lib.hid (hk8.blk HBX.out HNE.out.bl)
          have HZ8 := Lib.hid (hk8.blk HZX.out (fun ho => hbx (.inr (.inr (.inr (.inr ho))))))
          have HL8 := Lib.hid hl8
          have HK8 := Lib.hid hk8
          have HKW8 : Hid (Keeps L.own wr w8) := Lib.hid (((HKQ.out.mono (fun _ _ h => h.elim)).trans (HKX.out.mono fun k _ e => e.elim (fun e => .inr (.inl e)) (fun e => .inr (.inr (.inl e))))).trans (hk8.mono fun k _ ho => .inr (.inr (.inr (.inr ho)))))
          have HI8 : Hid (ItB w8 ⟨key, val, fg, ex, sq, dt⟩ (.slice a n c) (.slice b m d)) := Lib.hid (by
            rw [HN.out, HMV.out]
            exact ⟨((HIB.out.k.quiet HK0.out).keep HPI.out.keeps ho1).keep HKW8.out ho1, ((HIB.out.v.quiet HK0.out).keep HPI.out.keeps ho2).keep HKW8.out ho2⟩)
          have hsum : sumC hsc + C ≤ 6500000 := by
            have h1 := sumC_le fun x hx => (HPI.out.inv.good x hx).1
            have h2 := HPI.out.reach.sub.2.2.2
            have h3 := HR4.out.len
            omega
          have hw : IntKind.i64.wrap (((sumC hsc : Nat) : Int) + (C : Int)) = ((sumC hsc : Nat) : Int) + (C : Int) := IntWalk.i64_in _ (by omega)
          clear hl8 hk8 c3 HPS
          go_upto_region 18 with fail
          go_cut [] (fun wx => OutC L w8 (((sumC hsc : Nat) : Int) + (C : Int)) wx)
          case first =>
            have hb := HB8.out
            have c5 := hb.cell (i := 5) rfl
            have f5 := hb.free 5
            have hz := HZ8.out
            have n0 := hz.cell (i := 0) rfl
            have n1 := hz.cell (i := 1) rfl
            have n2 := hz.cell (i := 2) rfl
            have n3 := hz.cell (i := 3) rfl
            have n4 := hz.cell (i := 4) rfl
            have n5 := hz.cell (i := 5) rfl
            have HF5 : Hid (∀ W, Keeps (fun _ => False) w8 W → W.cell? ⟨L.B, 5, none⟩ = some (.int .i64 ((sumC hsc : Nat) : Int)) ∧ W.frozen? ⟨L.B, 5, none⟩ = false) := Lib.hid (fun W hk => by
              have h := hk.blk HB8.out id
              exact ⟨h.cell (i := 5) rfl, h.free 5⟩)
            clear hb hz
            go_region_with (go_at_call 63; refine (HCH.out _ (HI8.out.quiet (Keeps.refl _ _).drew)).mono ?_; rintro e w9 ⟨rfl, hk9⟩; have hk9' : Keeps (fun _ => False) w8 w9 := (Keeps.refl (fun _ => False) w8).drew.trans hk9; obtain ⟨d5, g5⟩ := HF5.out _ hk9')
            all_goals
              go_wp2_with fail
              go_meet
              exact ⟨w9, hk9', rfl⟩
          case rest =>
            obtain ⟨w9, hk9, hwc⟩ := hcut
            have k10 : Keeps (fun k => k = L.B) w8 wc := by rw [hwc]; exact (hk9.mono (S' := fun k => k = L.B) fun _ _ h => h.elim).store (p := ⟨L.B, 5, none⟩) (.inl rfl) _
            obtain ⟨hnD, hiX, hcX⟩ : Dn.n = Dc.n ∧ RInv Dn (⟨⟨key, val, fg, ex, sq, dt⟩, ch, cl, kv, vv⟩ :: hsc) ∧ True := by
              have := HPI.out.inv.put (x := ⟨⟨key, val, fg, ex, sq, dt⟩, ch, cl, kv, vv⟩) HPI.out.give rfl HXK.out HI.out (by rw [← HCC.out]; exact HCL.out)
              exact ⟨give_n HPI.out.give, this.1, trivial⟩
            have hob : Blk wc L.B 115 (L.obj Dn.n (sumC (⟨⟨key, val, fg, ex, sq, dt⟩, ch, cl, kv, vv⟩ :: hsc))) := by
              have h := (hk9.blk HB8.out id).store 5 (.int .i64 (((sumC hsc : Nat) : Int) + (C : Int)))
              rw [← hwc] at h
              have e : ((sumC hsc : Nat) : Int) + (C : Int) = ((sumC (⟨⟨key, val, fg, ex, sq, dt⟩, ch, cl, kv, vv⟩ :: hsc) : Nat) : Int) := by
                rw [sumC_cons]
                have := HCC.out
                push_cast
                omega
              rw [e] at h
              rw [hnD]
              exact h
            have hoffx : ∀ q ∈ (⟨⟨key, val, fg, ex, sq, dt⟩, ch, cl, kv, vv⟩ : HM) :: hsc, Off L q.kv ∧ Off L q.vv := fun q hq => by
              have hr0 := (HPI.out.mid.quiet HKQ.out)
              rcases List.mem_cons.1 hq with rfl | hq
              · exact ⟨mid_off hr0 HRX.out.k, mid_off hr0 HRX.out.v⟩
              · exact ⟨mid_off hr0 (hr0.rd q hq).k, mid_off hr0 (hr0.rd q hq).v⟩
            obtain ⟨hfin, hkfin⟩ := HMQ.out.kept (x := ⟨⟨key, val, fg, ex, sq, dt⟩, ch, cl, kv, vv⟩) HNE.out HF.out HG.out hoffx HMX1.out HMX2.out HKX.out HL8.out HK8.out k10 hob hnD hiX
              (fun q hq e => HXK.out q hq (keyL_inj (HPI.out.inv.good q hq).1.kb HI.out.kb e)) (fun q hq e => HXC.out q hq (chL_inj e)) HRX.out
            have hkall : Keeps L.own wr wc := (HKQ.out.mono (fun _ _ h => h.elim)).trans hkfin
            have HDONE : Hid (PutDone W0 L cl D1 hs1 ⟨key, val, fg, ex, sq, dt⟩ u8 wc) := Lib.hid ⟨Dc, hsc, gone, ⟨⟨key, val, fg, ex, sq, dt⟩, ch, cl, kv, vv⟩, Dn, HPI.out.reach, HPI.out.give, rfl, rfl, hfin, hkall.own' HPI.out.row (fun g hg ho => by
              have h1 := (own_heap HPI.out.row hg).1
              have h2 := HH.out.lt.2.2.2 g ho
              have h3 := HK0.out.size
              omega), fun x hx => ⟨(HPI.out.rd x hx).1.keep hkall (HPI.out.rd x hx).2.1 (HPI.out.rd x hx).2.2, (HPI.out.rd x hx).2⟩⟩
            have HKE : Hid (Keeps L.own w wc) := Lib.hid ((HK0.out.mono (fun _ _ h => h.elim)).trans (HPI.out.keeps.trans hkall))
            clear hwc k10 hk9 hnD hiX hob hoffx hfin hkfin hkall
            go_wp2_with fail
            refine bodyPost_ret (v := .tuple #[u8, .int .i64 0]) (by simp [results, Tryd.f33, go_sem]) rfl ⟨_, _, _, rfl, HLS.out, ?_, HKE.out⟩
            rw [← HCC.out, ← HCL.out]
            exact HDONE.out.base HK0.out.size
end Go.Proofs.YthnagihgjenimaaDoor
