/- Two disks and the document's two, apart. -/
import Derived.Test.YtjiammhmeliogaaDoesD
namespace Go.Proofs.Ytjiammhmeliogaa
open Go.RowKit
set_option linter.unusedVariables false
set_option linter.unusedSimpArgs false

/-- The blocks that a side reads; those that it turns. -/
def Use (L : DL) (sv pv : Value) (B k : Nat) : Prop := L.own k ∨ sv.ownBlock = some k ∨ pv.ownBlock = some k ∨ k = B
def Mod (L : DL) (B k : Nat) : Prop := L.own k ∨ k = B

section
variable {w0 w w2 w3 w4 W : World} {p : Value} {B t t' n : Nat} {L L2 : DL} {D D2 : DD} {sa qa ta ua : Option Addr} {sc qc tc uc : Nat} {R R2 : RD}
theorem Pair.lt (h : Pair w0 p B t n L D sa sc qa qc R w) : ∀ k, Use L (.slice sa R.n sc) (.slice qa R.p.length qc) B k → k < w.heap.size := by
  intro k hk
  rcases hk with e | e | e | e
  · exact h.many.lt (i := 0) (x := (L, D)) rfl k e
  · exact h.many.rlt (r := rowS (.slice sa R.n sc) R) (by simp) k e
  · exact h.many.rlt (r := rowP (.slice qa R.p.length qc) R) (by simp) k e
  · rw [e]
    exact h.blk.lt
/-- What the other side turns does not matter. -/
theorem Pair.frame (h : Pair w0 p B t n L D sa sc qa qc R w) {S : Nat → Prop} (hk : Keeps S w W) (hS : ∀ k, Use L (.slice sa R.n sc) (.slice qa R.p.length qc) B k → ¬ S k) (h0 : ∀ k, S k → w0.heap.size ≤ k) : Pair w0 p B t n L D sa sc qa qc R W := by
  refine ⟨h.ptr, h.many.other hk (fun i x hx k hk' => ?_) (fun r hr g hg => ?_) h0, hk.blk h.blk (hS _ (.inr (.inr (.inr rfl)))), h.pure, h.sim, h.dn, h.B0⟩
  · cases i with
    | zero =>
      have e : x = (L, D) := by simpa using hx.symm
      rw [e] at hk'
      exact hS k (.inl hk')
    | succ i => simp at hx
  · simp at hr
    rcases hr with rfl | rfl
    · exact hS g (.inr (.inl hg))
    · exact hS g (.inr (.inr (.inl hg)))
/-- Both are done; the document's is stored. -/
theorem Pair.step1 (h : Pair w0 p B t n L D sa sc qa qc R w)
    (hp : L2.ptr = p) (hm : Many w0 w2 [(L2, D2)] [rowS (.slice sa R.n sc) R, rowP (.slice qa R.p.length qc) R]) (hk2 : Keeps L.own w w2) (hown : ∀ k, L2.own k → L.own k ∨ w.heap.size ≤ k) (h3 : Keeps (fun _ => False) w2 w3) (h4 : Keeps (fun _ => False) w3 w4)
    (hR : RdAt w4 (.slice ta R2.n tc) (.slice ua R2.p.length uc) R2) (o1 : Old w3 (.slice sa R.n sc) (.slice ta R2.n tc)) (o2 : Old w3 (.slice qa R.p.length qc) (.slice ua R2.p.length uc)) (hs : Sim t' D2 R2) (hn : D2.n = n)
    (hW : W = w4.setCells B 0 [.slice ta R2.n tc, .slice ua R2.p.length uc, .bool R2.dead, .int .i64 R2.left, .int .i64 R2.fails, .int .i64 R2.ops]) :
    Pair w0 p B t' n L2 D2 ta tc ua uc R2 W ∧ B < w2.heap.size ∧ Keeps (fun k => k = B) w4 W ∧ Keeps (Mod L B) w W ∧
      (∀ k, Use L2 (.slice ta R2.n tc) (.slice ua R2.p.length uc) B k → Use L (.slice sa R.n sc) (.slice qa R.p.length qc) B k ∨ w.heap.size ≤ k) ∧ (∀ k, Mod L2 B k → Mod L B k ∨ w.heap.size ≤ k) := by
  have hB : Blk w2 B 43 _ := hk2.blk h.blk fun e => (h.beside.1 0 _ rfl B e) rfl
  have hB4 := h4.blk (h3.blk hB id) id
  have hBl := hB.lt
  have hm3 := hm.quiet h3
  have hm4 := (hm3.rmove (sv := .slice sa R.n sc) (pv := .slice qa R.p.length qc) (R := R) (by simp) (by simp) h4 hR o1 o2).rless (qs := [rowS (.slice ta R2.n tc) R2, rowP (.slice ua R2.p.length uc) R2]) (by simp)
  have hb4 : Beside B [(L2, D2)] [rowS (.slice ta R2.n tc) R2, rowP (.slice ua R2.p.length uc) R2] := hm4.blk (t := 43) hB4 (by decide) rows_ne
  have m5 := hm4.storeCells hb4 h.B0 0 [.slice ta R2.n tc, .slice ua R2.p.length uc, .bool R2.dead, .int .i64 R2.left, .int .i64 R2.fails, .int .i64 R2.ops]
  have bF := blk_overT hB4 (cs := [.slice ta R2.n tc, .slice ua R2.p.length uc, .bool R2.dead, .int .i64 R2.left, .int .i64 R2.fails, .int .i64 R2.ops]) rfl
  have hk : Keeps (fun k => k = B) w4 W := by
    rw [hW]
    exact setCells_keeps B _ 0 w4
  have hsz := hk2.size
  have hsz3 := h3.size
  rw [← hW] at m5 bF
  refine ⟨⟨hp, m5, bF, hR.pure, hs, hn, h.B0⟩, hBl, hk, (((hk2.mono fun k _ e => .inl e).trans (h3.mono fun _ _ h => h.elim)).trans (h4.mono fun _ _ h => h.elim)).trans (hk.mono fun k _ e => .inr e), fun k hk => ?_, fun k hk => ?_⟩
  · rcases hk with e | e | e | e
    · exact (hown k e).imp .inl id
    · exact (o1 k e).imp (fun h => .inr (.inl h)) fun h => by omega
    · exact (o2 k e).imp (fun h => .inr (.inr (.inl h))) fun h => by omega
    · exact .inl (.inr (.inr (.inr e)))
  · rcases hk with e | e
    · exact (hown k e).imp .inl id
    · exact .inl (.inr e)
/-- A block beside the side is stored. -/
theorem Pair.put (h : Pair w0 p B t n L D sa sc qa qc R w) {G : Nat} (hG : ∀ k, Use L (.slice sa R.n sc) (.slice qa R.p.length qc) B k → k ≠ G) (h0 : w0.heap.size ≤ G) (cs : List Value) : Pair w0 p B t n L D sa sc qa qc R (w.setCells G 0 cs) :=
  h.frame (setCells_keeps G cs 0 w) (fun k hk e => hG k hk e) (fun k e => by rw [show k = G from e]; exact h0)

/-- Two sides, apart. -/
def Both2 (w0 : World) (p p' : Value) (B B' t t' : Nat) (w : World) : Prop :=
  ∃ L D sa sc qa qc R L' D' sa' sc' qa' qc' R', Pair w0 p B t 6 L D sa sc qa qc R w ∧ Pair w0 p' B' t' 6 L' D' sa' sc' qa' qc' R' w ∧
    (∀ k, Mod L B k → ¬ Use L' (.slice sa' R'.n sc') (.slice qa' R'.p.length qc') B' k) ∧ (∀ k, Mod L' B' k → ¬ Use L (.slice sa R.n sc) (.slice qa R.p.length qc) B k)
theorem Both2.symm {p' : Value} {B' : Nat} (h : Both2 w0 p p' B B' t t' w) : Both2 w0 p' p B' B t' t w := by
  obtain ⟨L, D, sa, sc, qa, qc, R, L', D', sa', sc', qa', qc', R', h1, h2, h3, h4⟩ := h
  exact ⟨L', D', sa', sc', qa', qc', R', L, D, sa, sc, qa, qc, R, h2, h1, h4, h3⟩
theorem Both2.quiet {p' : Value} {B' : Nat} (h : Both2 w0 p p' B B' t t' w) (hk : Keeps (fun _ => False) w W) : Both2 w0 p p' B B' t t' W := by
  obtain ⟨L, D, sa, sc, qa, qc, R, L', D', sa', sc', qa', qc', R', h1, h2, h3, h4⟩ := h
  exact ⟨L, D, sa, sc, qa, qc, R, L', D', sa', sc', qa', qc', R', h1.quiet hk, h2.quiet hk, h3, h4⟩
theorem Many.single {ds : List (DL × DD)} {rs : List RowT} {LC : DL} {DC : DD} (h : Many w0 w ds rs) (hk : Keeps (fun _ => False) w W) (hd : DkAt W LC DC) (ho : ∀ k, LC.own k → w.heap.size ≤ k) : Many w0 W [(LC, DC)] rs := by
  have hsz := h.k.size
  have hget : ∀ (i : Nat) (x : DL × DD), [(LC, DC)][i]? = some x → x = (LC, DC) ∧ i = 0 := by
    intro i x hx
    cases i with
    | zero => exact ⟨by simpa using hx.symm, rfl⟩
    | succ i => simp at hx
  refine ⟨fun i x hx => ?_, fun i x hx k hk' => ?_, fun i j x y hij hx hy => ?_, fun r hr => hk.own (h.row r hr) fun _ _ => id, fun r hr g hg => ⟨(h.rap r hr g hg).1, fun i x hx h3 => ?_⟩, h.k.trans hk⟩
  · rw [(hget i x hx).1]
    exact hd
  · rw [(hget i x hx).1] at hk'
    have := ho k hk'
    omega
  · rw [(hget i x hx).2, (hget j y hy).2] at hij
    exact absurd rfl hij
  · rw [(hget i x hx).1] at h3
    have := ho g h3
    have := h.rlt hr g hg
    omega
/-- A copy is made of the disk and of the document's. -/
theorem Both2.start {LC : DL} {B' : Nat} (h : Pair w0 p B t 6 L D sa sc qa qc R w) (hk : Keeps (fun _ => False) w W) (hd : DkAt W LC D) (ho : ∀ k, LC.own k → w.heap.size ≤ k)
    (hb : Blk W B' 43 [.slice sa R.n sc, .slice qa R.p.length qc, .bool R.dead, .int .i64 R.left, .int .i64 R.fails, .int .i64 R.ops]) (hB : w.heap.size ≤ B') : Both2 w0 p LC.ptr B B' t t W := by
  have hlt := h.lt
  refine ⟨L, D, sa, sc, qa, qc, R, LC, D, sa, sc, qa, qc, R, h.quiet hk, ⟨rfl, h.many.single hk hd ho, hb, h.pure, h.sim, h.dn, by have := h.many.k.size; omega⟩, fun k e hk' => ?_, fun k e hk' => ?_⟩
  · have hlk : k < w.heap.size := hlt k (e.elim .inl fun e => .inr (.inr (.inr e)))
    rcases hk' with e' | e' | e' | e'
    · have := ho k e'
      omega
    · rcases e with e | e
      · exact (h.many.rap (rowS (.slice sa R.n sc) R) (by simp) k e').2 0 (L, D) rfl e
      · exact h.beside.2 (rowS (.slice sa R.n sc) R) (by simp) k e' e
    · rcases e with e | e
      · exact (h.many.rap (rowP (.slice qa R.p.length qc) R) (by simp) k e').2 0 (L, D) rfl e
      · exact h.beside.2 (rowP (.slice qa R.p.length qc) R) (by simp) k e' e
    · omega
  · have := hlt k hk'
    rcases e with e | e
    · have := ho k e
      omega
    · omega
/-- The first side moves. -/
theorem Both2.move {p' : Value} {B' t1 : Nat} {L' : DL} {D' : DD} {sa' qa' : Option Addr} {sc' qc' : Nat} {R' : RD} (h1 : Pair w0 p B t 6 L D sa sc qa qc R w) (h2 : Pair w0 p' B' t' 6 L' D' sa' sc' qa' qc' R' w)
    (h3 : ∀ k, Mod L B k → ¬ Use L' (.slice sa' R'.n sc') (.slice qa' R'.p.length qc') B' k) (h4 : ∀ k, Mod L' B' k → ¬ Use L (.slice sa R.n sc) (.slice qa R.p.length qc) B k)
    (hP : Pair w0 p B t1 6 L2 D2 ta tc ua uc R2 W) (hk : Keeps (Mod L B) w W) (hu : ∀ k, Use L2 (.slice ta R2.n tc) (.slice ua R2.p.length uc) B k → Use L (.slice sa R.n sc) (.slice qa R.p.length qc) B k ∨ w.heap.size ≤ k) (hm : ∀ k, Mod L2 B k → Mod L B k ∨ w.heap.size ≤ k) :
    Both2 w0 p p' B B' t1 t' W := by
  have hlt := h2.lt
  refine ⟨L2, D2, ta, tc, ua, uc, R2, L', D', sa', sc', qa', qc', R', hP, h2.frame hk (fun k hk' e => h3 k e hk') (fun k e => ?_), fun k e hk' => ?_, fun k e hk' => ?_⟩
  · rcases e with e | e
    · exact h1.many.own 0 (L, D) rfl k e
    · rw [e]; exact h1.B0
  · rcases hm k e with e | e
    · exact h3 k e hk'
    · have := hlt k hk'
      omega
  · rcases hu k hk' with e' | e'
    · exact h4 k e e'
    · have : k < w.heap.size := hlt k (e.elim .inl fun e => .inr (.inr (.inr e)))
      omega
end
end Go.Proofs.Ytjiammhmeliogaa
