/- SlabApart: no chunk is given twice, all are taken back: the walk. -/
import Derived.Test.YthnagihgjenimaaDoorApartP
namespace Go.Proofs.YthnagihgjenimaaDoor
open Go.RowKit
set_option linter.unusedVariables false
set_option linter.unusedSimpArgs false

/-- What stands behind some rounds of giving. -/
structure ApS (w1 : World) (L : AL) (N b t : Nat) (D : AD) (K : Int → Bool) (M : DataW Unit) (wr : World) : Prop where
  ar : ArAt wr L D
  n : D.n = N
  set : BSet wr b t K M
  all : ∀ x : Int, K x = true ↔ ∃ m : Nat, x = m ∧ D.find (m : Nat) = 0
  keeps : Keeps (fun k => k = L.G ∨ w1.heap.size ≤ k) w1 wr
  lt : ∀ k, L.own k → k < w1.heap.size
  b : w1.heap.size = b

section
variable {w1 wr w2 : World} {L : AL} {N b t : Nat} {D D' : AD} {K : Int → Bool} {M : DataW Unit}
theorem ApS.tab (h : ApS w1 L N b t D K M wr) (hT : Tab w1) (h0 : L.G ≠ 0) : Tab wr :=
  hT.keep h.keeps fun e => by
    rcases e with e | e
    · exact h0 e.symm
    · have := hT.lt; omega
theorem ApS.quiet (h : ApS w1 L N b t D K M wr) (hk : Keeps (fun _ => False) wr w2) : ApS w1 L N b t D K M w2 :=
  ⟨h.ar.quiet hk, h.n, h.set.keep hk id, h.all, h.keeps.trans (hk.mono fun k _ hf => hf.elim), h.lt, h.b⟩
theorem ApS.same (h : ApS w1 L N b t D K M wr) (hk : Keeps (fun k => k = L.G) wr w2) (ha : ArAt w2 L D) : ApS w1 L N b t D K M w2 := by
  have h1 := h.lt L.G (.inr rfl)
  have h2 := h.b
  exact ⟨ha, h.n, h.set.keep hk fun e => by omega, h.all, h.keeps.trans (hk.mono fun k _ e => .inl e), h.lt, h.b⟩
theorem ApS.more (h : ApS w1 L N b t D K M wr) {t' : Nat} (ht : t ≤ t') : ApS w1 L N b t' D K M wr :=
  ⟨h.ar, h.n, ⟨h.set.1.mono ht, h.set.2⟩, h.all, h.keeps, h.lt, h.b⟩
/-- The set behind the give, the store to come. -/
theorem ApS.pre (h : ApS w1 L N b t D K M wr) (hk : Keeps (fun k => k = L.G) wr w2) : BSet w2 b t K M := by
  have h1 := h.lt L.G (.inr rfl)
  have h2 := h.b
  exact h.set.keep hk fun e => by omega
theorem ApS.put (h : ApS w1 L N b t D K M wr) (hk : Keeps (fun k => k = L.G) wr w2) (ha : ArAt w2 L D') (hn : D'.n = D.n) {m k : Nat} (hm : D'.Has m k) (h1 : ∀ x c, D.Has x c → D'.Has x c) (h2 : ∀ x c, D'.Has x c → x = m ∨ D.Has x c)
    {w3 : World} (hs : w3.ownsMap Tryd.prog 3 (plainElem Tryd.prog 4) b (t + 1) (M.put (.int .i64 (m : Int)) (.lit (.bool true)))) (hg : w2.grownBy w3 (some b)) :
    ApS w1 L N b (t + 1) D' (fun z => if z = (m : Int) then true else K z) (M.put (.int .i64 (m : Int)) (.lit (.bool true))) w3 := by
  have g1 := h.lt L.G (.inr rfl)
  have g2 := h.lt L.B (.inl rfl)
  have g3 := h.b
  have hk3 : Keeps (fun k => k = b) w2 w3 := (Keeps.of_grown hg).mono fun k _ e => by injection e with e; exact e.symm
  refine ⟨ha.keep hk3 fun k hk e => ?_, hn.trans h.n, h.set.put hs, fun x => ?_, (h.keeps.trans (hk.mono fun k _ e => .inl e)).trans (hk3.mono fun k _ e => .inr (by omega)), h.lt, h.b⟩
  · have := h.lt k hk
    omega
  · constructor
    · intro hx
      by_cases e : x = (m : Int)
      · exact ⟨m, e, hm.find⟩
      · simp only [if_neg e] at hx
        obtain ⟨y, rfl, hy⟩ := (h.all x).1 hx
        exact ⟨y, rfl, (h1 _ _ (find_has hy)).find⟩
    · rintro ⟨y, rfl, hy⟩
      by_cases e : (y : Int) = (m : Int)
      · simp [e]
      · simp only [if_neg e]
        refine (h.all _).2 ⟨y, rfl, ?_⟩
        rcases h2 _ _ (find_has hy) with e2 | hh
        · omega
        · exact hh.find
end
/-- What stands while all is taken back. -/
structure TkS (w1 : World) (L : AL) (N b r t : Nat) (M : DataW Unit) (left : Lit → Bool) (cnt : Nat) (D : AD) (wr : World) : Prop where
  rg : wr.ranges Tryd.prog 3 (plainElem Tryd.prog 4) b r t M left cnt
  ar : ArAt wr L D
  n : D.n = N
  all : ∀ x : Int, left (.int .i64 x) = true ↔ ∃ m : Nat, x = m ∧ D.find (m : Nat) = 0
  keeps : Keeps (fun k => k = L.G ∨ w1.heap.size ≤ k) w1 wr
  lt : ∀ k, L.own k → k < w1.heap.size
  b : w1.heap.size = b
  r : w1.heap.size ≤ r
theorem ApS.took {w1 wr w2 : World} {L : AL} {N b t : Nat} {D : AD} {K : Int → Bool} {M : DataW Unit} (h : ApS w1 L N b t D K M wr) (hrg : w2.ranges Tryd.prog 3 (plainElem Tryd.prog 4) b wr.heap.size t M (Maps.has M) (Maps.size M)) (hg : wr.grownBy w2 none) :
    ∃ (left : Lit → Bool) (cnt : Nat) (D2 : AD), TkS w1 L N b wr.heap.size t M left cnt D2 w2 := by
  have hk : Keeps (fun _ => False) wr w2 := (Keeps.of_grown hg).mono fun k _ e => by cases e
  refine ⟨_, _, D, hrg, h.ar.quiet hk, h.n, fun x => ?_, h.keeps.trans (hk.mono fun k _ hf => hf.elim), h.lt, h.b, h.keeps.size⟩
  rw [h.set.2.2.1 x]
  exact h.all x
theorem key_shape : ∀ key kl, keyOf Tryd.prog 3 key = some kl → ∃ x, key = Value.int .i64 x := fun key kl h => by
  obtain ⟨x, rfl, _⟩ := Maps.keyOf_int_inv Tryd.underlying3 h
  exact ⟨x, rfl⟩
section
variable {w1 wr w2 w3 : World} {L : AL} {N b r t cnt : Nat} {D D2 : AD} {K : Int → Bool} {M : DataW Unit} {left : Lit → Bool}
theorem TkS.done (h : TkS w1 L N b r t M left cnt D wr) (hl : ∀ kl, left kl = false) : D.free = N := by
  rw [free_all h.ar.good fun m hm => by
    have := (h.all (m : Int)).2 ⟨m, rfl, hm⟩
    rw [hl] at this
    cases this]
  exact h.n
theorem TkS.got (h : TkS w1 L N b r t M left cnt D wr) {x : Int} {kl : Lit} (hkey : keyOf Tryd.prog 3 (.int .i64 x) = some kl) (hl : left kl = true) : ∃ m : Nat, x = m ∧ D.find (m : Nat) = 0 ∧ m < 32 * N := by
  obtain ⟨x', e, rfl, _⟩ := Maps.keyOf_int_inv Tryd.underlying3 hkey
  cases e
  obtain ⟨m, rfl, hm⟩ := (h.all x).1 hl
  refine ⟨m, rfl, hm, ?_⟩
  have := (find_has hm).1
  have := h.n
  omega
/-- The step of the range; both takes. -/
theorem TkS.step (h : TkS w1 L N b r t M left cnt D wr) {m : Nat} {kl : Lit} {cnt2 : Nat} (hkey : keyOf Tryd.prog 3 (.int .i64 (m : Int)) = some kl) (hrg : w2.ranges Tryd.prog 3 (plainElem Tryd.prog 4) b r t M (fun z => left z && !z.sameKey kl) cnt2) (hg : wr.grownBy w2 (some r)) (hm : D.find (m : Nat) = 0) :
    ArAt w2 L D ∧ ∀ w3, Keeps (fun k => k = L.G) w2 w3 → ArAt w3 L (D.less m) → TkS w1 L N b r t M (fun z => left z && !z.sameKey kl) cnt2 (D.less m) w3 := by
  obtain ⟨x', e, rfl, _⟩ := Maps.keyOf_int_inv Tryd.underlying3 hkey
  cases e
  have hr := h.r
  have hbb := h.b
  have hk : Keeps (fun k => k = r) wr w2 := (Keeps.of_grown hg).mono fun k _ e => (Option.some.inj e).symm
  have g1 := h.lt L.G (.inr rfl)
  refine ⟨h.ar.keep hk fun k hk e => by have := h.lt k hk; omega, fun w3 hk3 ha => ⟨hrg.kept hk3.grown (by intro e; injection e with e; omega) (by intro e; injection e with e; omega), ha, h.n, fun x => ?_, (h.keeps.trans (hk.mono fun k _ e => .inr (by omega))).trans (hk3.mono fun k _ e => .inl e), h.lt, h.b, h.r⟩⟩
  have ha := h.all x
  constructor
  · intro hx
    simp only [Bool.and_eq_true, Bool.not_eq_true'] at hx
    obtain ⟨y, rfl, hy⟩ := ha.1 hx.1
    refine ⟨y, rfl, (less_find hm y).2 ⟨?_, hy⟩⟩
    rintro rfl
    have h2 := hx.2
    rw [WideAt.sameKey_self (by trivial)] at h2
    cases h2
  · rintro ⟨y, rfl, hy⟩
    obtain ⟨hne, hy⟩ := (less_find hm y).1 hy
    simp only [Bool.and_eq_true, Bool.not_eq_true']
    refine ⟨ha.2 ⟨y, rfl, hy⟩, Maps.sameKey_ne ?_⟩
    intro e
    injection e with _ e
    omega
end
theorem pages_le (D : AD) (k : Int) : D.pages k ≤ D.n := cnt_le _ _
theorem fresh_sum (N : Nat) : (AD.fresh N).sum = 0 := sumN_zero _ fun i _ => by show pc 0 * szOf 0 = 0; rw [pc_0]; simp
theorem fresh_find (N : Nat) (m : Nat) : (AD.fresh N).find (m : Nat) ≠ 0 := fun h => by
  have := (find_has h).2.1
  rw [show (AD.fresh N).g (m / 32) = 0 from rfl, bitN_zero] at this
  omega
theorem ApS.start {w1 : World} {L : AL} {N : Nat} (h : ArAt w1 L (AD.fresh N)) : ApS w1 L N w1.heap.size 0 (AD.fresh N) (fun _ => false) (.map []) (w1.alloc (.map #[] 0)) :=
  ⟨h.quiet ((Keeps.refl _ _).alloc _), rfl, BSet.made w1, fun x => ⟨fun h => by simp at h, fun ⟨m, _, hm⟩ => absurd hm (fresh_find N m)⟩, (Keeps.refl _ _).alloc _, h.lt, rfl⟩
set_option maxRecDepth 100000 in
set_option maxHeartbeats 1000000 in
theorem apart_law (a : Int) (A : Option Addr) (len cap : Nat) (zs : List Int) (w : World) (ha : (Lit.int .i64 a).wf = true) (hR : Row .i64 w A len zs) (hc : len ≤ 140737488351232) (hnc : len ≤ cap) (hT : Tab w) :
    Calls Tryd.prog 4 #[.int .i64 a, .slice A len cap] w (TrueP w) := by
  have HR := Lib.hid hR
  have HTT := Lib.hid hT
  have hmm := @run_makeMap Tryd.prog
  have HW := Lib.hid (wakes_any w hT)
  clear hT hR
  go_enter Tryd.func4, Tryd.ntmps4
  go_wp2_with fail
  refine HW.out.mono ?_
  rintro e w0 ⟨rfl, hk⟩
  have HK0 := Lib.hid hk
  clear hk
  go_upto_region 3 with fail
  go_cut [5] (fun v wx => ∃ N : Nat, 1 ≤ N ∧ N ≤ 20 ∧ v = .int .i64 N ∧ w0 = wx)
  case first =>
    by_cases h0 : 0 ≤ a
    · have h1 := Int.emod_nonneg a (show (20 : Int) ≠ 0 by omega)
      have h2 := Int.emod_lt_of_pos a (show (0 : Int) < 20 by omega)
      go_wp2_with fail
      go_meet
      exact ⟨(1 + a % 20).toNat, by omega, by omega, by rw [Int.toNat_of_nonneg (by omega)], rfl⟩
    · go_wp2_with fail
      go_meet
      exact ⟨1, by omega, by omega, by rfl, rfl⟩
  case rest =>
    obtain ⟨N, hN1, hN2, rfl, rfl⟩ := hcut
    go_wp2_with fail
    refine (anew_ok N (by omega) (by omega) w0).mono ?_
    rintro e w1 ⟨L, rfl, h1, ho, hk1⟩
    have HK1 := Lib.hid (HK0.out.trans hk1)
    have HW01 := Lib.hid hk1.size
    have hT1 := HTT.out.keep HK1.out id
    have hG0 : L.G ≠ 0 := fun e => by
      have h0 := ho L.G (.inr rfl)
      have := (HTT.out.keep HK0.out id).lt
      omega
    have HA1 := Lib.hid h1
    have HT1 := Lib.hid hT1
    have HG0 := Lib.hid hG0
    have HO := Lib.hid ho
    clear h1 ho hk1 hT1 hG0
    unfold AL.ptr at *
    go_wp2_with fail
    go_loopw [9, 33] (fun s i wr => ∃ (t : Nat) (D : AD) (K : Int → Bool) (M : DataW Unit), t ≤ len ∧ t ≤ 300 ∧ i = .int .i64 t ∧ s = .int .i64 (D.sum : Nat) ∧ ApS w1 L N w1.heap.size t D K M wr) (fun _ i _ => len - (intOf i).toNat)
    case atStart => exact ⟨0, AD.fresh N, fun _ => false, .map [], Nat.zero_le _, Nat.zero_le _, rfl, by rw [fresh_sum]; rfl, ApS.start HA1.out⟩
    case round =>
      obtain ⟨t, D, K, M, ht, ht3, rfl, rfl, hs⟩ := hrel
      have HS := Lib.hid hs
      have hsum := sum_le hs.ar.good
      rw [hs.n] at hsum
      by_cases hgo : t < len ∧ t < 300
      · obtain ⟨htl, ht300⟩ := hgo
        obtain ⟨ad, rfl, hcell⟩ := HR.out.2 t htl
        obtain ⟨z, hz⟩ : ∃ z, z = zs.getD t 0 := ⟨_, rfl⟩
        rw [← hz] at hcell
        have hadl := cell_lt hcell
        have hk1 := HK1.out
        have hlw := hk1.size
        have hcell2 := (hs.keeps.cell (p := ad.add t) (by omega) (by
          have := HO.out L.G (.inr rfl)
          have := HK0.out.size
          rintro (e | e)
          · omega
          · omega)).trans ((hk1.cell hadl id).trans hcell)
        have HG := Lib.hid (give_any L D wr hs.ar (hs.tab HT1.out HG0.out) z)
        have h300 : ((t : Int) == 300) = false := by rw [beq_eq_false_iff_ne]; omega
        have HCL := Lib.hid (fun W => class_any z W)
        have hwb : w1.heap.size < wr.heap.size := hs.set.lt
        obtain ⟨sm, hsm⟩ : ∃ sm, sm = D.sum := ⟨_, rfl⟩
        rw [← hsm] at hsum ⊢
        have HSM := Lib.hid hsm
        clear hs hcell hz hk1 hadl hsm
        unfold AL.ptr at *
        go_wp2_with fail
        refine HG.out.mono ?_
        rintro e w2 ⟨r, q, D', rfl, hk2, ha2, hres⟩
        have HRES := Lib.hid hres
        have HK2 := Lib.hid hk2
        have HA2 := Lib.hid ha2
        have hs2 := hk2.size
        clear hres hk2 ha2 hcell2
        go_wp2_with fail
        refine (HCL.out _).mono ?_
        rintro e w3 ⟨c, f, rfl, hcs, hk3⟩
        have HK3 := Lib.hid hk3
        have hs3 := hk3.size
        clear hk3
        rcases hcs with ⟨hn, rfl, rfl⟩ | ⟨hn0, hn1, rfl, rfl⟩ | ⟨hn, rfl, rfl⟩
        · have hq : q = 2 ∧ D' = D := by rcases HRES.out with h | h | h <;> (first | exact ⟨h.2.2.1, h.2.2.2⟩ | omega)
          obtain ⟨rfl, rfl⟩ := hq
          have HN := Lib.hid (((HS.out.same HK2.out HA2.out).quiet HK3.out).more (Nat.le_succ t))
          clear hn
          go_wp2_with fail
          go_roundw
          case rel => exact ⟨t + 1, D', K, M, by omega, by omega, by go_num, by rw [HSM.out], HN.out⟩
          case measure => simp [intOf]; omega
        · have hgs : GiveS D (cls z) r q D' := by
            rcases HRES.out with h | ⟨_, _, h⟩ | h
            · omega
            · exact h
            · omega
          have hD := HS.out.ar.good
          have HGS := Lib.hid hgs
          rcases give_has hD (cls_lt z) hgs with ⟨rfl, rfl, hnh, hne⟩ | ⟨rfl, m, rfl, hm, hmb, hmf, hh1, hh2, _⟩
          · have hfr := full_free hne
            have hus := full_used hD hnh
            have hN0 := HS.out.same HK2.out HA2.out
            have hN1 := hN0.quiet HK3.out
            have HN1 := Lib.hid hN1
            have HFR := Lib.hid (free_any L D' w3 hN1.ar)
            rw [hfr] at HFR
            have hpl := pages_le D' (cls z : Nat)
            rw [hN1.n] at hpl
            have HUS := Lib.hid (fun W (hk : Keeps (fun _ => False) w3 W) => used_any L D' W (hN1.ar.quiet hk) (cls z : Nat))
            have HPG := Lib.hid (fun W (hk : Keeps (fun _ => False) w3 W) => pages_any L D' W (hN1.ar.quiet hk) (cls z : Nat))
            have HCK := Lib.hid (fun W => chunks_any (cls z : Nat) W)
            have hck : chunkI (cls z : Nat) = chk (cls z) := by unfold chunkI; have := cls_lt z; rw [if_pos (by omega)]; simp
            rw [hck] at HCK
            rw [hus] at HUS
            have hch := chk_le (cls z)
            obtain ⟨p, hp⟩ : ∃ p, p = D'.pages (cls z : Nat) := ⟨_, rfl⟩
            obtain ⟨h, hh⟩ : ∃ h, h = chk (cls z) := ⟨_, rfl⟩
            rw [← hp] at HUS HPG hpl
            rw [← hh] at HUS HCK hch
            have hph : p * h ≤ 20 * 32 := Nat.mul_le_mul (by omega) hch
            have hpc : (p : Int) * (h : Int) = ((p * h : Nat) : Int) := by simp
            have HPC := Lib.hid hpc
            obtain ⟨ph, hphe⟩ : ∃ ph, ph = p * h := ⟨_, rfl⟩
            rw [← hphe] at HUS hph HPC
            clear hfr hus hN0 hN1 hck hp hh hpc hphe hgs hD hnh hne hn0 hn1
            unfold AL.ptr at *
            go_wp2_with fail
            refine HFR.out.mono ?_
            rintro e w4 ⟨rfl, hk4⟩
            have HK4 := Lib.hid hk4
            have hs4 := hk4.size
            clear hk4
            go_wp2_with fail
            refine (HUS.out _ HK4.out).mono ?_
            rintro e w5 ⟨rfl, hk5⟩
            have HK5 := Lib.hid (HK4.out.trans hk5)
            have hs5 := hk5.size
            clear hk5
            go_wp2_with fail
            refine (HPG.out _ HK5.out).mono ?_
            rintro e w6 ⟨rfl, hk6⟩
            have HK6 := Lib.hid (HK5.out.trans hk6)
            have hs6 := hk6.size
            clear hk6
            go_wp2_with fail
            refine (HCK.out _).mono ?_
            rintro e w7 ⟨rfl, hk7⟩
            have HK7 := Lib.hid (HK6.out.trans hk7)
            have hs7 := hk7.size
            have hpc := HPC.out
            clear hk7
            go_wp2_with fail
            go_roundw
            case rel => exact ⟨t + 1, D', K, M, by omega, by omega, by go_num, by rw [HSM.out], (HN1.out.quiet HK7.out).more (Nat.le_succ t)⟩
            case measure => simp [intOf]; omega
          · have hN1 := (HS.out.pre HK2.out).keep HK3.out id
            have hK : K (m : Int) = false := by
              cases hb : K (m : Int) with
              | false => rfl
              | true =>
                obtain ⟨y, e, hy⟩ := (HS.out.all _).1 hb
                have : y = m := by omega
                subst this
                exact absurd hy hmf
            have hDn := HS.out.n
            have hwf : (Lit.int .i64 (m : Int)).wf = true := by
              rw [hDn] at hmb
              simp [Lit.wf, IntKind.min, IntKind.max, IntKind.signed, IntKind.bits]
              omega
            have hlk := hN1.lookup (m : Int) hwf
            rw [hK] at hlk
            have hsz : sizeI (cls z : Nat) = szOf (cls z) := by unfold sizeI; have := cls_lt z; rw [if_pos (by omega)]; simp
            have HSZ := Lib.hid (fun W => size_any (cls z : Nat) W)
            rw [hsz] at HSZ
            have hs5 := give_sum hD hgs
            rw [← HSM.out] at hs5
            have hso := sz_le (cls z)
            obtain ⟨so, hso2⟩ : ∃ so, so = szOf (cls z) := ⟨_, rfl⟩
            rw [← hso2] at HSZ hs5 hso
            have HS5 := Lib.hid hs5
            have HN1 := Lib.hid hN1
            have HM := Lib.hid hm
            have HH1 := Lib.hid hh1
            have HH2 := Lib.hid hh2
            have hDn' : D'.n = D.n := (hD.give (cls_lt z) hgs).2
            have HDN := Lib.hid hDn'
            have HWF := Lib.hid hwf
            clear hN1 hK hDn hwf hsz hs5 hso2 hm hh1 hh2 hDn' hgs hD hn0 hn1 hmf
            go_wp2_with (at_mapUpdate; refine wpList_mapUpdate_own _ rfl _ _ _ 32 rfl 3 4 bset_law Tryd.underlying32 (plainElem Tryd.prog 4) w1.heap.size t M rfl HN1.out.1 (by unfold maxLen; omega) _ _ (.int .i64 (m : Int)) rfl rfl (Maps.keyOf_int_mk Tryd.underlying3 HWF.out) (.lit (.bool true)) [] (plainElem_bool Tryd.underlying4 true) ?_)
            intro w4 hown4 hg4
            have HOWN4 := Lib.hid hown4
            have HG4 := Lib.hid hg4
            clear hown4 hg4
            go_wp2_with fail
            refine (HSZ.out _).mono ?_
            rintro e w5 ⟨rfl, hk5⟩
            have HK5 := Lib.hid hk5
            have hs5 := hk5.size
            clear hk5
            go_wp2_with fail
            go_roundw
            case rel => exact ⟨t + 1, D', _, _, by omega, by omega, by go_num, by rw [HS5.out]; go_num, (HS.out.put (HK2.out.trans (HK3.out.mono fun k _ hf => hf.elim)) (HA2.out.quiet HK3.out) HDN.out HM.out HH1.out HH2.out HOWN4.out HG4.out).quiet HK5.out⟩
            case measure => simp [intOf]; omega
        · have hq : q = 3 ∧ D' = D := by rcases HRES.out with h | h | h <;> (first | exact ⟨h.2.2.1, h.2.2.2⟩ | omega)
          obtain ⟨rfl, rfl⟩ := hq
          have HN := Lib.hid (((HS.out.same HK2.out HA2.out).quiet HK3.out).more (Nat.le_succ t))
          clear hn
          go_wp2_with fail
          go_roundw
          case rel => exact ⟨t + 1, D', K, M, by omega, by omega, by go_num, by rw [HSM.out], HN.out⟩
          case measure => simp [intOf]; omega
      · have hlv : t = len ∨ (t < len ∧ t = 300) := by omega
        have hwb : w1.heap.size < wr.heap.size := hs.set.lt
        have hkk := hs.keeps
        have hcell2 : t < len → ∃ ad z, A = some ad ∧ wr.cell? (ad.add t) = some (.int .i64 z) := fun htl => by
          obtain ⟨ad, hA, hcell⟩ := HR.out.2 t htl
          refine ⟨ad, zs.getD t 0, hA, ?_⟩
          have hadl := cell_lt hcell
          have hk1 := HK1.out
          have hlw := hk1.size
          exact (hkk.cell (p := ad.add t) (by omega) (by
            have := HO.out L.G (.inr rfl)
            have := HK0.out.size
            rintro (e | e)
            · omega
            · omega)).trans ((hk1.cell hadl id).trans hcell)
        have HC2 := Lib.hid hcell2
        obtain ⟨sm, hsm⟩ : ∃ sm, sm = D.sum := ⟨_, rfl⟩
        rw [← hsm] at hsum ⊢
        have hgt : decide (1024 * (N : Int) < (sm : Int)) = false := by simp; omega
        clear hs hgo hkk hcell2 hsm
        have hw01 : w0.heap.size ≤ w1.heap.size := HW01.out
        have hfin : ∀ W, Keeps (fun k => k = L.G ∨ w1.heap.size ≤ k) w1 W → Keeps (fun _ => False) w W := fun W hk => ((HK1.out.mono fun k _ hf => hf.elim).trans hk).mono (AgF HO.out HK0.out.size HK1.out.size)
        have HFIN := Lib.hid hfin
        clear hfin
        rcases hlv with hlv | ⟨htl, hlv⟩
        case' inl =>
          have hlv' : ¬ t < len := by omega
          clear hlv
          go_upto_region 28 with fail
        case' inr =>
          obtain ⟨ad, z, rfl, hcell⟩ := HC2.out htl
          have h300 : ((t : Int) == 300) = true := by simp; omega
          clear hlv
          go_upto_region 28 with fail
        all_goals
          go_wp2_with (at_range; refine wpList_range_own _ rfl _ 32 rfl 3 4 bset_law Tryd.underlying32 (plainElem Tryd.prog 4) w1.heap.size _ M rfl HS.out.set.1 ?_)
          intro w2 hrg hg0 hsz
          have HR2 := Lib.hid (HS.out.took hrg hg0)
          clear hrg hg0
          go_wp2_with fail
          go_loopw [] (fun wx => ∃ (left : Lit → Bool) (cnt : Nat) (D2 : AD), TkS w1 L N w1.heap.size wr.heap.size t M left cnt D2 wx) (fun wx => wx.rangeLeft w1.heap.size wr.heap.size)
          case atStart => exact HR2.out
          case round =>
            obtain ⟨left, cnt, D2, hrel⟩ := hrel
            have HTK := Lib.hid hrel
            have hrg := hrel.rg
            have HRG := Lib.hid hrg
            have hw2 := hrel.keeps.size
            clear hrel hrg
            go_wp2_with (at_next; refine wpList_next_ranges _ rfl _ rfl 3 bset_law (plainElem Tryd.prog 4) (Value.int .i64) (fun v : Value => v) key_shape (fun v _ _ => ⟨v, rfl⟩) w1.heap.size _ t M left cnt rfl HRG.out ?_ ?_)
            · intro hc0 hl0
              have HF := Lib.hid (free_any L D2 _ HTK.out.ar)
              rw [HTK.out.done hl0] at HF
              clear hc0 hl0
              unfold AL.ptr at *
              go_wp2_with fail
              refine HF.out.mono ?_
              rintro e w4 ⟨rfl, hk4⟩
              have HK4 := Lib.hid hk4
              clear hk4
              go_wp2_with fail
              go_ret
              exact ⟨rfl, HFIN.out _ (HTK.out.keeps.trans (HK4.out.mono fun k _ hf => hf.elim))⟩
            · intro x c kl y1 y2 w3 cnt2 hkey hleft hy hat hrg3 hlt hg3 hsz3 hent
              obtain ⟨m, rfl, hm, hm2⟩ := HTK.out.got hkey hleft
              have h3 := HTK.out.step hkey hrg3 hg3 hm
              have HX := Lib.hid h3
              have HLT := Lib.hid hlt
              have HTK1 := Lib.hid (take_any L D2 w3 h3.1 (m : Int) (by omega))
              have HM := Lib.hid hm
              have HFL := Lib.hid (find_less (find_has hm))
              have HRG := Lib.hid hrg3.left_eq
              clear hkey hleft hy hat hrg3 hlt hg3 h3 hm
              unfold AL.ptr at *
              go_wp2_with fail
              refine HTK1.out.mono ?_
              rintro e w4 ⟨rfl, _, ht4⟩
              obtain ⟨hk4, ha4⟩ := ht4 HM.out
              rw [Int.toNat_natCast] at ha4
              have ha4 : ArAt w4 L (D2.less m) := ha4
              have HK4 := Lib.hid hk4
              have HA4 := Lib.hid ha4
              have HTK2 := Lib.hid (take_any L (D2.less m) w4 ha4 (m : Int) (by omega))
              rw [HM.out]
              clear hk4 ha4 ht4
              unfold AL.ptr at *
              go_wp2_with fail
              refine HTK2.out.mono ?_
              rintro e w5 ⟨rfl, ht5, _⟩
              rw [HFL.out]
              rw [HFL.out] at ht5
              obtain rfl := ht5 (by omega)
              have HT5 := Lib.hid (HX.out.2 _ HK4.out HA4.out)
              clear ht5
              go_wp2_with fail
              go_roundw
              case rel => exact ⟨_, _, _, HT5.out⟩
              case measure => rw [HT5.out.rg.left_eq, HTK.out.rg.left_eq]; exact HLT.out
end Go.Proofs.YthnagihgjenimaaDoor
