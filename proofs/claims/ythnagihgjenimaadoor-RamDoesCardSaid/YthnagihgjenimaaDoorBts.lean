/- Merged of: RamM RamA Bts. -/
import Derived.Test.YthnagihgjenimaaDoorApartP
import Derived.Test.YthnagihgjenimaaDoorLNil
import Derived.Test.YthnagihgjenimaaDoorMapV
import Derived.Test.YthnagihgjenimaaDoorNew
import Derived.Test.YthnagihgjenimaaDoorCopyA
/- Items in memory: what is held, in plain words. -/
namespace Go.Proofs.YthnagihgjenimaaDoor
open Go.RowKit
set_option linter.unusedVariables false
/-- An item. -/
structure IT where
  key : List Int
  val : List Int
  fg : Int
  ex : Int
  sq : Int
  dt : Bool
def IT.chg (i : IT) : Nat := 24 + i.key.length + i.val.length
/-- An item that is held: its chunk, its class, its slices. -/
structure HM where
  it : IT
  ch : Nat
  cl : Nat
  kv : Value
  vv : Value
def sumC (hs : List HM) : Nat := (hs.map fun h => h.it.chg).sum
/-- The lists: by classes, the newest first. -/
def lsOf (hs : List HM) (c : Nat) : List Nat := (hs.filter fun h => h.cl == c).map HM.ch
theorem lsOf_nil : lsOf [] = fun _ => [] := rfl
theorem lsOf_cons (x : HM) (hs : List HM) : lsOf (x :: hs) = upd (lsOf hs) x.cl (x.ch :: lsOf hs x.cl) := by
  funext c
  unfold upd lsOf
  by_cases e : c = x.cl
  · subst e; simp
  · have : (x.cl == c) = false := by simpa using fun h => e h.symm
    simp [this, e]
theorem lsOf_app (xs ys : List HM) (c : Nat) : lsOf (xs ++ ys) c = lsOf xs c ++ lsOf ys c := by simp [lsOf]
theorem lsOf_mid (xs : List HM) (x : HM) (ys : List HM) : lsOf (xs ++ x :: ys) x.cl = lsOf xs x.cl ++ x.ch :: lsOf ys x.cl := by
  rw [lsOf_app, lsOf_cons, upd_same]
theorem lsOf_out (xs : List HM) (x : HM) (ys : List HM) : lsOf (xs ++ ys) = upd (lsOf (xs ++ x :: ys)) x.cl (lsOf xs x.cl ++ lsOf ys x.cl) := by
  funext c
  by_cases e : c = x.cl
  · subst e; rw [upd_same, lsOf_app]
  · rw [upd_ne _ _ e, lsOf_app, lsOf_app, lsOf_cons, upd_ne _ _ e]
theorem lsOf_touch (xs : List HM) (x : HM) (ys : List HM) : lsOf (x :: (xs ++ ys)) = upd (lsOf (xs ++ x :: ys)) x.cl (x.ch :: (lsOf xs x.cl ++ lsOf ys x.cl)) := by
  rw [lsOf_cons, lsOf_out xs x ys, upd_upd, upd_same]
theorem lsOf_mem {hs : List HM} {c n : Nat} (h : n ∈ lsOf hs c) : ∃ xs x ys, hs = xs ++ x :: ys ∧ x.cl = c ∧ x.ch = n := by
  unfold lsOf at h
  obtain ⟨x, hx, rfl⟩ := List.mem_map.1 h
  obtain ⟨h1, h2⟩ := List.mem_filter.1 hx
  obtain ⟨xs, ys, rfl⟩ := List.append_of_mem h1
  exact ⟨xs, x, ys, rfl, by simpa using h2, rfl⟩
/-- The oldest of a class. -/
theorem lsOf_last : ∀ {hs : List HM} {c n : Nat}, (lsOf hs c).getLast? = some n → ∃ xs x ys, hs = xs ++ x :: ys ∧ x.cl = c ∧ x.ch = n ∧ lsOf ys c = []
  | [], c, n, h => by simp [lsOf] at h
  | a :: r, c, n, h => by
    by_cases hr : lsOf r c = []
    · rw [lsOf_cons] at h
      by_cases e : c = a.cl
      · subst e
        rw [upd_same, hr] at h
        simp at h
        exact ⟨[], a, r, rfl, rfl, h, hr⟩
      · rw [upd_ne _ _ e, hr] at h
        cases h
    · have h2 : (lsOf r c).getLast? = some n := by
        rw [lsOf_cons] at h
        by_cases e : c = a.cl
        · subst e
          rw [upd_same] at h
          rw [← h]
          cases hq : lsOf r a.cl with
          | nil => exact absurd hq hr
          | cons y s => simp [List.getLast?_cons_cons]
        · rwa [upd_ne _ _ e] at h
      obtain ⟨xs, x, ys, rfl, h3, h4, h5⟩ := lsOf_last h2
      exact ⟨a :: xs, x, ys, rfl, h3, h4, h5⟩
theorem sumC_mid (xs : List HM) (x : HM) (ys : List HM) : sumC (xs ++ x :: ys) = sumC (xs ++ ys) + x.it.chg := by
  simp [sumC]; omega
theorem sumC_cons (x : HM) (hs : List HM) : sumC (x :: hs) = x.it.chg + sumC hs := by simp [sumC]

/-- f maps the keys of what is held to its values, and no other keys. -/
structure Mapped (f : Lit → Option Value) (hs : List HM) (kf : HM → Lit) (vf : HM → Value) : Prop where
  mem : ∀ h ∈ hs, f (kf h) = some (vf h)
  out : ∀ l v, f l = some v → ∃ h ∈ hs, kf h = l
section
variable {f : Lit → Option Value} {hs xs ys : List HM} {kf : HM → Lit} {vf : HM → Value} {x : HM}
theorem Mapped.none (h : Mapped f hs kf vf) {l : Lit} (hn : ∀ g ∈ hs, kf g ≠ l) : f l = none := by
  cases hf : f l with
  | none => rfl
  | some v =>
    obtain ⟨g, hg, e⟩ := h.out l v hf
    exact absurd e (hn g hg)
theorem Mapped.nil (kf : HM → Lit) (vf : HM → Value) : Mapped (fun _ => Option.none) [] kf vf := ⟨(fun h hh => by cases hh), (fun l v h => by cases h)⟩
theorem Mapped.put (h : Mapped f hs kf vf) (hn : ∀ g ∈ hs, kf g ≠ kf x) : Mapped (mput f (kf x) (vf x)) (x :: hs) kf vf := by
  refine ⟨fun g hg => ?_, fun l v hl => ?_⟩
  · rcases List.mem_cons.1 hg with rfl | hg
    · exact mput_same _ _ _
    · rw [mput_ne _ _ (hn g hg)]; exact h.mem g hg
  · by_cases e : l = kf x
    · exact ⟨x, List.mem_cons_self .., e.symm⟩
    · rw [mput_ne _ _ e] at hl
      obtain ⟨g, hg, hk⟩ := h.out l v hl
      exact ⟨g, List.mem_cons_of_mem _ hg, hk⟩
theorem Mapped.del (h : Mapped f (xs ++ x :: ys) kf vf) (hn : ∀ g ∈ xs ++ ys, kf g ≠ kf x) : Mapped (mdel f (kf x)) (xs ++ ys) kf vf := by
  refine ⟨fun g hg => ?_, fun l v hl => ?_⟩
  · rw [mdel_ne _ (hn g hg)]
    refine h.mem g ?_
    rcases List.mem_append.1 hg with hg | hg
    · exact List.mem_append_left _ hg
    · exact List.mem_append_right _ (List.mem_cons_of_mem _ hg)
  · by_cases e : l = kf x
    · subst e; rw [mdel_same] at hl; cases hl
    · rw [mdel_ne _ e] at hl
      obtain ⟨g, hg, hk⟩ := h.out l v hl
      refine ⟨g, ?_, hk⟩
      rcases List.mem_append.1 hg with hg | hg
      · exact List.mem_append_left _ hg
      · rcases List.mem_cons.1 hg with rfl | hg
        · exact absurd hk.symm e
        · exact List.mem_append_right _ hg
theorem Mapped.perm {hs' : List HM} (h : Mapped f hs kf vf) (hp : ∀ g, g ∈ hs' ↔ g ∈ hs) : Mapped f hs' kf vf :=
  ⟨fun g hg => h.mem g ((hp g).1 hg), fun l v hl => by obtain ⟨g, hg, hk⟩ := h.out l v hl; exact ⟨g, (hp g).2 hg, hk⟩⟩
end
/-- Is each a byte? -/
def Bytes (l : List Int) : Prop := ∀ z ∈ l, 0 ≤ z ∧ z ≤ 255
/-- A key, as a map's key. -/
def keyL (k : List Int) : Lit := .string (strOfNums k).data.toList
def chL (n : Nat) : Lit := .int .i64 (n : Int)
theorem keyL_inj : ∀ {a b : List Int}, Bytes a → Bytes b → keyL a = keyL b → a = b := by
  intro a b ha hb h
  unfold keyL at h
  injection h with h
  rw [strOfNums_data, strOfNums_data] at h
  induction a generalizing b with
  | nil => cases b with
    | nil => rfl
    | cons y s => cases h
  | cons x r ih =>
    cases b with
    | nil => cases h
    | cons y s =>
      simp only [List.map_cons, List.cons.injEq] at h
      have h1 := ha x (List.mem_cons_self ..)
      have h2 := hb y (List.mem_cons_self ..)
      have e : x = y := by
        have := congrArg UInt8.toNat h.1
        simp at this
        omega
      rw [e, ih (fun z hz => ha z (List.mem_cons_of_mem _ hz)) (fun z hz => hb z (List.mem_cons_of_mem _ hz)) h.2]
theorem chL_inj {a b : Nat} (h : chL a = chL b) : a = b := by
  unfold chL at h
  injection h with _ h
  omega
/-- May an item be? -/
structure IT.Ok (i : IT) : Prop where
  k1 : 1 ≤ i.key.length
  k2 : i.key.length ≤ 250
  v2 : i.val.length ≤ 512
  kb : Bytes i.key
  vb : Bytes i.val
  sq : 1 ≤ i.sq
theorem IT.Ok.chg {i : IT} (h : i.Ok) : 25 ≤ i.chg ∧ i.chg ≤ 786 := by
  have h1 := h.k1; have h2 := h.k2; have h3 := h.v2
  unfold IT.chg
  omega
/-- What is held fits its arena. -/
structure RInv (D : AD) (hs : List HM) : Prop where
  ok : D.Ok
  keys : hs.Pairwise fun g h => g.it.key ≠ h.it.key
  chs : hs.Pairwise fun g h => g.ch ≠ h.ch
  has : ∀ m c, D.Has m c ↔ ∃ h ∈ hs, h.ch = m ∧ h.cl = c
  good : ∀ h ∈ hs, h.it.Ok ∧ h.cl = cls (h.it.chg : Int)
theorem pair_mid {α : Type} {R : α → α → Prop} (hsym : ∀ a b, R a b → R b a) {xs ys : List α} {x : α} (h : (xs ++ x :: ys).Pairwise R) : ∀ g ∈ xs ++ ys, R g x := by
  intro g hg
  rw [List.pairwise_append] at h
  rcases List.mem_append.1 hg with hg | hg
  · exact h.2.2 g hg x (List.mem_cons_self ..)
  · exact hsym _ _ ((List.pairwise_cons.1 h.2.1).1 g hg)
theorem pair_out {α : Type} {R : α → α → Prop} {xs ys : List α} {x : α} (h : (xs ++ x :: ys).Pairwise R) : (xs ++ ys).Pairwise R :=
  h.sublist (List.Sublist.append (List.Sublist.refl xs) (List.sublist_cons_self x ys))
theorem mem_mid {α : Type} {xs ys : List α} {x g : α} : g ∈ xs ++ x :: ys ↔ g = x ∨ g ∈ xs ++ ys := by
  simp only [List.mem_append, List.mem_cons]
  constructor
  · rintro (h | h | h)
    · exact .inr (.inl h)
    · exact .inl h
    · exact .inr (.inr h)
  · rintro (h | h | h)
    · exact .inr (.inl h)
    · exact .inl h
    · exact .inr (.inr h)
section
variable {D D' : AD} {hs xs ys : List HM} {x : HM}
theorem RInv.at_ (h : RInv D (xs ++ x :: ys)) : D.Has x.ch x.cl := (h.has _ _).2 ⟨x, by simp, rfl, rfl⟩
theorem RInv.keyne (h : RInv D (xs ++ x :: ys)) : ∀ g ∈ xs ++ ys, g.it.key ≠ x.it.key := pair_mid (fun _ _ h => Ne.symm h) h.keys
theorem RInv.chne (h : RInv D (xs ++ x :: ys)) : ∀ g ∈ xs ++ ys, g.ch ≠ x.ch := pair_mid (fun _ _ h => Ne.symm h) h.chs
theorem RInv.out (h : RInv D (xs ++ x :: ys)) : RInv (D.less x.ch) (xs ++ ys) := by
  have hx := h.at_
  refine ⟨h.ok.take hx.1, pair_out h.keys, pair_out h.chs, fun m c => ?_, fun g hg => h.good g (mem_mid.2 (.inr hg))⟩
  rw [show (D.less x.ch).Has m c ↔ m ≠ x.ch ∧ D.Has m c from take_has hx m c, h.has]
  constructor
  · rintro ⟨hm, g, hg, rfl, rfl⟩
    rcases mem_mid.1 hg with rfl | hg
    · exact absurd rfl hm
    · exact ⟨g, hg, rfl, rfl⟩
  · rintro ⟨g, hg, rfl, rfl⟩
    exact ⟨h.chne g hg, g, mem_mid.2 (.inr hg), rfl, rfl⟩
theorem RInv.put (h : RInv D hs) {r : Int} (hs' : GiveS D x.cl r 0 D') (hr : r = x.ch) (hk : ∀ g ∈ hs, g.it.key ≠ x.it.key) (hi : x.it.Ok) (hc : x.cl = cls (x.it.chg : Int)) : RInv D' (x :: hs) ∧ ∀ g ∈ hs, g.ch ≠ x.ch := by
  have hcl : x.cl < 8 := by rw [hc]; exact cls_lt _
  rcases give_has h.ok hcl hs' with ⟨hq, _⟩ | ⟨_, m, hm, h1, h2, h3, h4, h5, _⟩
  · cases hq
  · obtain rfl : m = x.ch := by omega
    have hne : ∀ g ∈ hs, g.ch ≠ x.ch := fun g hg e => by
      have : D.Has g.ch g.cl := (h.has _ _).2 ⟨g, hg, rfl, rfl⟩
      rw [e] at this
      exact h3 this.find
    refine ⟨⟨(h.ok.give hcl hs').1, List.pairwise_cons.2 ⟨fun g hg => Ne.symm (hk g hg), h.keys⟩, List.pairwise_cons.2 ⟨fun g hg => Ne.symm (hne g hg), h.chs⟩, fun m c => ?_, fun g hg => ?_⟩, hne⟩
    · constructor
      · intro hh
        rcases h5 m c hh with rfl | hh
        · refine ⟨x, List.mem_cons_self .., rfl, ?_⟩
          rw [← h1.2.2, hh.2.2]
        · obtain ⟨g, hg, e1, e2⟩ := (h.has _ _).1 hh
          exact ⟨g, List.mem_cons_of_mem _ hg, e1, e2⟩
      · rintro ⟨g, hg, rfl, rfl⟩
        rcases List.mem_cons.1 hg with rfl | hg
        · exact h1
        · exact h4 _ _ ((h.has _ _).2 ⟨g, hg, rfl, rfl⟩)
    · rcases List.mem_cons.1 hg with rfl | hg
      · exact ⟨hi, hc⟩
      · exact h.good g hg
/-- Full: something is held. -/
theorem RInv.some (h : RInv D hs) (hn : 1 ≤ D.n) (hz : ∀ i, i < D.n → D.g i ≠ 0) : hs ≠ [] := by
  rintro rfl
  refine hz 0 hn (bits_zero (h.ok.g32 hn) fun i hi => ?_)
  rcases Nat.eq_zero_or_pos (bitN (D.g 0) i) with e | e
  · exact e
  · have hb : bitN (D.g 0) i = 1 := by
      unfold bitN at e ⊢
      omega
    have : D.Has i (D.c 0) := ⟨by rw [show i / 32 = 0 by omega]; exact hn, by rw [show i / 32 = 0 by omega, show i % 32 = i by omega]; exact hb, by rw [show i / 32 = 0 by omega]⟩
    obtain ⟨g, hg, _⟩ := (h.has _ _).1 this
    cases hg
end
end Go.Proofs.YthnagihgjenimaaDoor

/- Items in memory: where they lie. -/
namespace Go.Proofs.YthnagihgjenimaaDoor
open Go.RowKit
set_option linter.unusedVariables false
/-- Where memory's parts lie. -/
structure RL where
  B : Nat
  ma : Nat
  mt : Nat
  al : AL
  lk : LK
def RL.ptr (L : RL) : Value := .pointer (some ⟨L.B, 0, none⟩)
def RL.obj (L : RL) (n c : Nat) : List Value := [.map (some L.ma), .map (some L.mt), L.al.ptr, L.lk.ptr, .int .i64 (n : Int), .int .i64 (c : Int)]
/-- What calls may write. -/
def RL.own (L : RL) (k : Nat) : Prop := k = L.B ∨ k = L.ma ∨ k = L.mt ∨ k = L.al.G ∨ L.lk.own k
def nb (l : List Int) : List Value := l.map (Value.int .u8)
theorem nb_len (l : List Int) : (nb l).length = l.length := by simp [nb]
theorem nb_one (l : List Int) : ∀ u ∈ nb l, u.oneCell' = true := by
  intro u hu
  obtain ⟨x, _, rfl⟩ := List.mem_map.1 hu
  rfl
def IT.cells (i : IT) (kv vv : Value) : List Value := [kv, vv, .int .u32 i.fg, .int .u32 i.ex, .int .u64 i.sq, .bool i.dt]
def IT.agg (i : IT) (kv vv : Value) : Value := .agg #[kv, vv, .int .u32 i.fg, .int .u32 i.ex, .int .u64 i.sq, .bool i.dt]
def HM.val (h : HM) : Value := h.it.agg h.kv h.vv
/-- The slices of an item read as it says. -/
structure Reads (w : World) (i : IT) (kv vv : Value) : Prop where
  k : w.ownsRow 0 5 1 kv i.key.length (nb i.key)
  v : w.ownsRow 0 5 1 vv i.val.length (nb i.val)
def atV (h : HM) : Value := .int .i64 (h.ch : Int)
def atK (h : HM) : Lit := keyL h.it.key
def thK (h : HM) : Lit := chL h.ch
structure RAt (w : World) (L : RL) (D : AD) (hs : List HM) : Prop where
  obj : Blk w L.B 115 (L.obj D.n (sumC hs))
  at' : ∃ f, MapV 9 w L.ma hs.length f ∧ Mapped f hs atK atV
  th : ∃ f, MapV 3 w L.mt hs.length f ∧ Mapped f hs thK HM.val
  ar : ArAt w L.al D
  li : L.lk.Has w (lsOf hs)
  lN : L.lk.N = 32 * D.n
  ln : L.lk.n = 8
  inv : RInv D hs
  rd : ∀ h ∈ hs, Reads w h.it h.kv h.vv
  mm : L.ma ≠ L.mt
theorem Keeps.own' {S : Nat → Prop} {w w' : World} {base e size n : Nat} {v : Value} {xs : List Value} (hk : Keeps S w w') (h : w.ownsRow base e size v n xs) (hS : ∀ g, v.ownBlock = some g → ¬ S g) : w'.ownsRow base e size v n xs := by
  obtain ⟨h1, h2⟩ := h
  refine ⟨h1, ?_⟩
  rcases h2 with h2 | ⟨g, cap, cur, rfl, hb, hg, r⟩
  · exact .inl h2
  · exact .inr ⟨g, cap, cur, rfl, hb, (hk.block g (Array.getElem?_eq_some_iff.1 hg).1 (hS g rfl)).trans hg, r⟩
section
variable {w w' : World} {L : RL} {D : AD} {hs : List HM} {S : Nat → Prop}
theorem Reads.keep {i : IT} {kv vv : Value} (h : Reads w i kv vv) (hk : Keeps S w w') (h1 : ∀ g, kv.ownBlock = some g → ¬ S g) (h2 : ∀ g, vv.ownBlock = some g → ¬ S g) : Reads w' i kv vv :=
  ⟨hk.own' h.k h1, hk.own' h.v h2⟩
theorem map_ne_own {k b m : Nat} {f : Lit → Option Value} {base e size n : Nat} {v : Value} {xs : List Value} (h : MapV k w b m f) (ho : w.ownsRow base e size v n xs) : v.ownBlock ≠ some b := by
  intro hg
  obtain ⟨_, _, cur, hc⟩ := own_heap ho hg
  obtain ⟨D, ⟨es, clock, hb2, r⟩, h2⟩ := h
  rw [hb2] at hc
  cases hc
/-- All blocks of the memory's own, told by what lies there: nothing else is touched by turning them. -/
theorem RAt.quiet (h : RAt w L D hs) (hk : Keeps (fun _ => False) w w') : RAt w' L D hs := by
  obtain ⟨f, h1, h2⟩ := h.at'
  obtain ⟨g, h3, h4⟩ := h.th
  exact ⟨hk.blk h.obj id, ⟨f, h1.keep hk id, h2⟩, ⟨g, h3.keep hk id, h4⟩, h.ar.quiet hk, h.li.quiet hk, h.lN, h.ln, h.inv, fun x hx => (h.rd x hx).keep hk (fun _ _ => id) (fun _ _ => id), h.mm⟩
theorem RAt.lt (h : RAt w L D hs) : L.B < w.heap.size ∧ L.ma < w.heap.size ∧ L.mt < w.heap.size ∧ ∀ k, L.own k → k < w.heap.size := by
  obtain ⟨f, h1, h2⟩ := h.at'
  obtain ⟨g, h3, h4⟩ := h.th
  refine ⟨h.obj.lt, h1.lt, h3.lt, fun k hk => ?_⟩
  rcases hk with rfl | rfl | rfl | rfl | hk
  · exact h.obj.lt
  · exact h1.lt
  · exact h3.lt
  · exact h.ar.lt _ (.inr rfl)
  · exact h.li.lt.2 k hk
/-- The lists' blocks, as blocks. -/
theorem LK.Has.blks {k : LK} {ls : Nat → List Nat} (h : k.Has w ls) : Blk w k.B 130 (k.full [] [] [] []).obj ∧ ∀ b, k.own b → ∃ cs, Blk w b 3 cs := by
  obtain ⟨nx, ah, wh, ln, h1, h2⟩ := h
  refine ⟨h1.obj, fun b hb => ?_⟩
  rcases hb with rfl | rfl | rfl | rfl
  · exact ⟨_, h1.nx⟩
  · exact ⟨_, h1.ah⟩
  · exact ⟨_, h1.wh⟩
  · exact ⟨_, h1.ln⟩
theorem own_ne_own {base base' e e' size size' n n' : Nat} {v v' : Value} {xs xs' : List Value} (h : w.ownsRow base e size v n xs) (h' : w.ownsRow base' e' size' v' n' xs') (hne : e ≠ e') : ∀ g, v.ownBlock = some g → v'.ownBlock ≠ some g := by
  intro g hg hg'
  obtain ⟨_, _, c1, e1⟩ := own_heap h hg
  obtain ⟨_, _, c2, e2⟩ := own_heap h' hg'
  rw [e1] at e2
  injection e2 with e2
  injection e2 with _ e2
  exact hne e2
end
end Go.Proofs.YthnagihgjenimaaDoor

/- Rows of bytes; slices.Clone of bytes. -/
namespace Go.Proofs.YthnagihgjenimaaDoor
open Go.RowKit
set_option linter.unusedVariables false
set_option linter.unusedSimpArgs false

/-! ### Rows of bytes -/
theorem infoU8 : (Tryd.prog.info? 5).map (fun i => (i.zero, i.size, i.bytes)) = some (some (.int .u8 0), 1, 1) := by kernel_rfl
theorem nb_at {l : List Int} {j : Nat} (h : j < l.length) : (nb l)[j]? = some (.int .u8 (l.getD j 0)) := by simp [nb, h]
theorem nb_snoc (l : List Int) (x : Int) : nb (l ++ [x]) = nb l ++ [.int .u8 x] := by simp [nb]
theorem nb_app (l m : List Int) : nb (l ++ m) = nb l ++ nb m := by simp [nb]
theorem own_read1 {w : World} {base : Nat} {e : TypeId} {v : Value} {n : Nat} {xs : List Value} (h : w.ownsRow base e 1 v n xs) :
    xs.length = n ∧ ∃ a cap, v = .slice a n cap ∧ n ≤ cap ∧ cap ≤ maxLen ∧ ∀ j, j < n → ∃ g, a = some ⟨g, 0, none⟩ ∧ base ≤ g ∧ g < w.heap.size ∧ w.cell? ⟨g, j, none⟩ = xs[j]? := by
  obtain ⟨hlen, hr⟩ := h
  refine ⟨by simpa using hlen, ?_⟩
  rcases hr with ⟨rfl, rfl⟩ | ⟨g, cap, cur, rfl, hb, hg, hcap, hmax, hcs, htake⟩
  · exact ⟨none, 0, rfl, Nat.le_refl _, by unfold maxLen; omega, fun j hj => absurd hj (by omega)⟩
  · refine ⟨_, cap, rfl, hcap, hmax, fun j hj => ⟨g, rfl, hb, (Array.getElem?_eq_some_iff.1 hg).1, ?_⟩⟩
    rw [cell_of_row w g j cur e (0, 0) hg, ← htake, List.getElem?_take_of_lt (by omega), ← Array.getElem?_toList]
/-- A row of the call's own reads as bytes. -/
theorem own_bytes {w : World} {base : Nat} {v : Value} {l : List Int} (h : w.ownsRow base 5 1 v l.length (nb l)) : ∃ a cap, v = .slice a l.length cap ∧ l.length ≤ cap ∧ cap ≤ maxLen ∧ Row .u8 w a l.length l := by
  obtain ⟨_, a, cap, rfl, h1, h2, hr⟩ := own_read1 h
  refine ⟨a, cap, rfl, h1, h2, rfl, fun i hi => ?_⟩
  obtain ⟨g, rfl, _, _, hc⟩ := hr i hi
  exact ⟨_, rfl, by rw [add0, hc, nb_at hi]⟩
theorem Row.quiet {k : IntKind} {w w' : World} {a : Option Addr} {n : Nat} {xs : List Int} (h : Row k w a n xs) (hk : Keeps (fun _ => False) w w') : Row k w' a n xs := by
  refine ⟨h.1, fun i hi => ?_⟩
  obtain ⟨ad, rfl, hc⟩ := h.2 i hi
  refine ⟨ad, rfl, (hk.cell (p := ad.add i) ?_ id).trans hc⟩
  rcases Nat.lt_or_ge (ad.add i).block w.heap.size with h' | h'
  · exact h'
  · simp [World.cell?, Array.getElem?_eq_none h'] at hc
theorem arange0 : Array.range 0 = #[] := by
  apply Array.eq_empty_of_size_eq_zero
  simp
theorem empty56 (w : World) : (Instr.buildSlice 56 0 #[]).run Tryd.prog w = .ok (.slice (some ⟨w.heap.size, 0, none⟩) 0 0) (w.alloc (.cells #[] 5)) := by
  obtain ⟨i0, h1, h2, h3, h4⟩ := info_parts infoU8
  simp [Instr.buildSlice, run_underlying Tryd.underlying56, sizeOf, typeInfo, zeroValue, h1, h2, h3, newRow, Instr.fill]
  rw [arange0, Array.map_empty]
theorem own_none (w : World) (e size : Nat) : (w.alloc (.cells #[] e)).ownsRow w.heap.size e size (.slice (some ⟨w.heap.size, 0, none⟩) 0 0) 0 [] :=
  World.ownsRow_made w #[] 0 (Nat.le_refl _) (by unfold maxLen; omega) (by simp)
theorem row_new {w : World} {ad : Addr} {n : Nat} {xs : List Int} (h : Row .u8 w (some ad) n xs) : ∀ j u, (nb xs)[j]? = some u → w.cell? (ad.add j) = some u := by
  intro j u hu
  have hj : j < xs.length := by
    rcases Nat.lt_or_ge j xs.length with h' | h'
    · exact h'
    · rw [List.getElem?_eq_none (by rw [nb_len]; exact h')] at hu; cases hu
  rw [nb_at hj] at hu
  obtain ⟨ad', e, hc⟩ := h.2 j (by rw [← h.1]; exact hj)
  injection e with e
  subst e
  rw [hc]
  exact hu
theorem grow_keeps {w w1 w' : World} {row : Option Nat} (hk : Keeps (fun _ => False) w w1) (hg : w1.grownBy w' row) (hr : ∀ g, row = some g → w.heap.size ≤ g) : Keeps (fun _ => False) w w' :=
  Keeps.mono (S := fun k => row = some k) ((hk.mono fun _ _ h => h.elim).trans (Keeps.of_grown hg)) fun k hk' h => absurd (hr k h) (Nat.not_le.2 hk')
/-- A row of bytes of the call's own. -/
def BytesP (l : List Int) (w : World) (e : Ending) (w' : World) : Prop := ∃ rv, e = .returned rv ∧ w'.ownsRow w.heap.size 5 1 rv l.length (nb l) ∧ Keeps (fun _ => False) w w'

set_option maxRecDepth 100000 in
set_option maxHeartbeats 1000000 in
theorem clone5 (a : Option Addr) (n cap : Nat) (xs : List Int) (w : World) (h : Row .u8 w a n xs) (hn : n ≤ 1048576) : Calls Tryd.prog 80 #[.slice a n cap] w (BytesP xs w) := by
  obtain ⟨i0, hi1, hz0, hz1, hz2⟩ := info_parts infoU8
  cases a with
  | none =>
    have h0 : n = 0 := by
      rcases Nat.eq_zero_or_pos n with e | e
      · exact e
      · obtain ⟨_, e2, _⟩ := h.2 0 e; cases e2
    subst h0
    have hx : xs = [] := List.eq_nil_of_length_eq_zero h.1
    have HX := Lib.hid hx
    clear h hx
    have hnil := Lib.run_eql_slice_nil (P := Tryd.prog) w 56 5 none 0 cap 0 0 Tryd.underlying56
    go_enter Tryd.func80, Tryd.ntmps80
    go_wp2
    go_ret
    rw [HX.out]
    exact ⟨_, rfl, World.ownsRow_nil _ _ _ _, Keeps.refl _ _⟩
  | some ad =>
    have hkw : Keeps (fun _ => False) w (w.alloc (.cells #[] 5)) := (Keeps.refl _ _).alloc _
    have HO := Lib.hid (own_none w 5 1)
    have HNW := Lib.hid (row_new (h.quiet hkw))
    have H1 : Hid (∀ u ∈ nb xs, u.oneCell' = true) := Lib.hid (nb_one _)
    have HL : Hid ((nb xs).length = n * 1) := Lib.hid (by rw [nb_len, h.1]; omega)
    have hem := empty56 w
    have hnil := Lib.run_eql_slice_nil (P := Tryd.prog) w 56 5 (some ad) n cap 0 0 Tryd.underlying56
    have HKW := Lib.hid hkw
    have HXL := Lib.hid h.1
    clear h hkw
    go_enter Tryd.func80, Tryd.ntmps80
    go_wp2_with (at_builtin; refine wpList_append_own _ rfl _ _ 56 rfl w.heap.size 5 i0 (.int .u8 0) 1 1 Tryd.underlying56 hi1 hz0 hz1 hz2 rfl (by decide) _ _ _ rfl HO.out ad n cap (nb xs) rfl HL.out HNW.out H1.out (by unfold maxLen; omega) (by omega) (by simp) ?_; intro v' w1 hown hgrow _; have HOW := Lib.hid hown; have HGR := Lib.hid hgrow; clear hown hgrow)
    go_ret
    have ho := HOW.out
    simp only [Nat.zero_add, List.nil_append] at ho
    exact ⟨_, rfl, by rw [HXL.out]; exact ho, grow_keeps HKW.out HGR.out fun g hg => by injection hg with hg; rw [← hg]; exact Nat.le_refl _⟩
end Go.Proofs.YthnagihgjenimaaDoor
