/- What a disk whose power is gone answers; a row of trues; the calls of two disks. -/
import Derived.Test.YtjiammhmeliogaaArmedL
namespace Go.Proofs.Ytjiammhmeliogaa
open Go.RowKit
set_option linter.unusedVariables false
set_option linter.unusedSimpArgs false

theorem Two.readc {w0 w : World} {La Lb : DL} {D Db : DD} (h : Two w0 w La D.cut Lb Db) (hop : D.ops < 1000000000000) (i : Int) {p : Value} (hp : La.ptr = p) :
    Calls Try.prog 27 #[p, .int .i64 i] w fun e w' => e = .returned (.tuple #[.agg (bk zb).toArray, .int .i64 7]) ∧ Two w0 w' La D.cut Lb Db := by
  have hr := read_any La D.cut w h.a hop i
  rw [cut_read, hp] at hr
  refine hr.mono ?_
  rintro e w' ⟨rfl, h1, h2⟩
  exact ⟨rfl, h.step h1 h2⟩
theorem Two.armc {w0 w : World} {La Lb : DL} {D Db : DD} (h : Two w0 w La D.cut Lb Db) (i : Int) (hi : (Lit.int .i64 i).wf = true) {p : Value} (hp : La.ptr = p) :
    Calls Try.prog 29 #[p, .int .i64 i] w fun e w' => e = .returned (.int .i64 7) ∧ Two w0 w' La D.cut Lb Db := by
  have hr := arm_any La D.cut w h.a i hi
  rw [cut_arm, hp] at hr
  refine hr.mono ?_
  rintro e w' ⟨rfl, h1, h2⟩
  exact ⟨rfl, h.step h1 h2⟩
theorem Two.failc {w0 w : World} {La Lb : DL} {D Db : DD} (h : Two w0 w La D.cut Lb Db) (i : Int) {p : Value} (hp : La.ptr = p) :
    Calls Try.prog 32 #[p, .int .i64 i] w fun e w' => e = .returned (.int .i64 7) ∧ Two w0 w' La D.cut Lb Db := by
  have hr := fail_any La D.cut w h.a i
  rw [cut_fail, hp] at hr
  refine hr.mono ?_
  rintro e w' ⟨rfl, h1, h2⟩
  exact ⟨rfl, h.step h1 h2⟩
theorem Two.syncc {w0 w : World} {La Lb : DL} {D Db : DD} (h : Two w0 w La D.cut Lb Db) (hop : D.ops < 1000000000000) {p : Value} (hp : La.ptr = p) :
    Calls Try.prog 31 #[p] w fun e w' => e = .returned (.int .i64 7) ∧ ∃ La' : DL, La'.ptr = p ∧ Two w0 w' La' D.cut Lb Db := by
  have hr := sync_any La D.cut w h.a (fun _ => Int.le_refl 0) hop
  rw [cut_sync, hp] at hr
  refine hr.mono ?_
  rintro e w' ⟨rfl, hm⟩
  obtain ⟨L', e1, e2⟩ := h.moved hm
  exact ⟨rfl, L', e1.trans hp, e2⟩
theorem Two.deadc {w0 w : World} {La Lb : DL} {D Db : DD} (h : Two w0 w La D Lb Db) {p : Value} (hp : La.ptr = p) :
    Calls Try.prog 30 #[p] w fun e w' => e = .returned (.bool D.dead) ∧ w = w' := by
  have hr := dead_any La D w h.a
  rwa [hp] at hr
theorem Two.pendc {w0 w : World} {La Lb : DL} {D Db : DD} (h : Two w0 w La D Lb Db) {p : Value} (hp : La.ptr = p) :
    Calls Try.prog 33 #[p] w fun e w' => ∃ ra rc, e = .returned (.slice ra D.p.length rc) ∧ Two w0 w' La D Lb Db := by
  have hr := pending_any La D w h.a
  rw [hp] at hr
  refine hr.mono ?_
  rintro e w' ⟨rv, rfl, h1, h2⟩
  obtain ⟨ra, rc, rfl, _⟩ := own_slice h1
  exact ⟨ra, rc, rfl, h.quiet h2⟩
theorem Two.crashc {w0 w : World} {La Lb : DL} {D Db : DD} (h : Two w0 w La D Lb Db) (ka : Option Addr) (kn kc : Nat) (xs : List Bool) (hkr : BoolRow w ka kn xs) (hka : ∀ b off, ka = some ⟨b, off, none⟩ → ¬ La.own b) (hkn : kn ≤ 140737488355328) {p : Value} (hp : La.ptr = p) :
    Calls Try.prog 34 #[p, .slice ka kn kc] w fun e w' => e = .returned (.int .i64 0) ∧ ∃ La' : DL, La'.ptr = p ∧ Two w0 w' La' (D.crash xs) Lb Db := by
  have hr := crash_any La D w h.a ka kn kc xs hkr (fun b off e h1 => hka b off e (.inr (.inl h1))) hkn
  rw [hp] at hr
  refine hr.mono ?_
  rintro e w' ⟨rfl, hm⟩
  obtain ⟨L', e1, e2⟩ := h.moved hm
  exact ⟨rfl, L', e1.trans hp, e2⟩
theorem Two.heldc {w0 w : World} {La Lb : DL} {D Db : DD} (h : Two w0 w La D Lb Db) (hl : Live D) (hop : D.ops < 900000000000) {p : Value} (hp : La.ptr = p) :
    Calls Try.prog 20 #[p] w fun e w' => ∃ rv, e = .returned rv ∧ w'.ownsRow w.heap.size 27 64 rv D.n (flat D.holds D.n) ∧ Two w0 w' La { D with ops := D.ops + D.n } Lb Db ∧ Keeps (fun k => k = La.B) w w' := by
  have hr := held_any La D w h.a hl hop
  rw [hp] at hr
  refine hr.mono ?_
  rintro e w' ⟨rv, rfl, h1, h2, h3⟩
  exact ⟨rv, rfl, h1, h.step h2 h3, h3⟩

theorem Two.other {w0 w w' : World} {La Lb : DL} {Da Db : DD} (h : Two w0 w La Da Lb Db) {S : Nat → Prop} (hk : Keeps S w w') (ha : ∀ k, La.own k → ¬ S k) (hb : ∀ k, Lb.own k → ¬ S k) (h0 : ∀ k, S k → w0.heap.size ≤ k) : Two w0 w' La Da Lb Db :=
  ⟨h.a.keep hk ha, h.b.keep hk hb, h.oa, h.ob, h.ap, Keeps.mono (S := S) ((h.k.mono fun _ _ h => h.elim).trans hk) fun k hk' h' => absurd (h0 k h') (Nat.not_le.2 hk')⟩

/-! ### A row of trues -/
theorem info4 : (Try.prog.info? 4).map (fun i => (i.zero, i.size, i.bytes)) = some (some (.bool false), 1, 1) := by kernel_rfl
/-- n bools, of which the first k are true. -/
def yes (k n : Nat) : List Value := List.replicate k (.bool true) ++ List.replicate (n - k) (.bool false)
theorem yes_len {k n : Nat} (h : k ≤ n) : (yes k n).length = n := by simp [yes]; omega
theorem yes_next {k n : Nat} (h : k < n) : (yes k n).set k (.bool true) = yes (k + 1) n := by
  unfold yes
  obtain ⟨m, rfl⟩ : ∃ m, n = k + 1 + m := ⟨n - (k + 1), by omega⟩
  rw [show k + 1 + m - k = m + 1 from by omega, show k + 1 + m - (k + 1) = m from by omega]
  rw [List.set_append, if_neg (by simp), List.length_replicate, Nat.sub_self, List.replicate_succ (n := m), List.set_cons_zero, List.replicate_succ', List.append_assoc, List.singleton_append]
theorem yes_cell {k n i : Nat} (h : i < n) (hk : k ≤ n) : (yes k n)[i]? = some (.bool (decide (i < k))) := by
  unfold yes
  by_cases e : i < k
  · rw [List.getElem?_append_left (by simpa using e)]
    simp [e]
  · rw [List.getElem?_append_right (by simp; omega), List.length_replicate, List.getElem?_replicate, if_pos (by omega), decide_eq_false e]
theorem madeBools (n : Nat) : (madeCells #[Value.bool false] n) = (yes 0 n).toArray := by
  apply Array.ext
  · simp [madeCells, yes]
  · intro j h1 h2
    simp [madeCells, yes, Nat.mod_one]
theorem make30 (n : Nat) (hn : n ≤ 1000000) (w : World) : (Instr.makeSlice 30 (.int .i64 (n : Int)) (.int .i64 (n : Int))).run Try.prog w = .ok (.slice (some ⟨w.heap.size, 0, none⟩) n n) (w.alloc (.cells (yes 0 n).toArray 4)) := by
  obtain ⟨i0, hi, hz0, hz1, hz2⟩ := info_parts info4
  have h := run_make (P := Try.prog) w 30 4 i0 _ Try.underlying30 hi hz0 .i64 .i64 (n : Int) (n : Int) (by omega) (Int.le_refl _) (by rw [hz2]; omega) (by omega)
  rw [hz1] at h
  simp only [Int.toNat_natCast, Nat.mul_one] at h
  rw [show Value.cells (.bool false) = #[Value.bool false] from rfl, madeBools] at h
  exact h
theorem yes_row {w : World} {g n : Nat} (h : Blk w g 4 (yes n n)) : BoolRow w (some ⟨g, 0, none⟩) n (List.replicate n true) := by
  refine ⟨by simp, fun i hi => ⟨g, 0, rfl, h.lt, ?_⟩⟩
  rw [Nat.zero_add, h.cell (yes_cell hi (Nat.le_refl _))]
  simp [hi]

/-! ### What lives -/
theorem setl_live {l1 l2 : Nat → Bool} : ∀ (p : List (Nat × List Int)) (k : Nat) (f : Nat → List Int), (∀ t, k ≤ t → t < k + p.length → l1 t = l2 t) → setl l1 k p f = setl l2 k p f
  | [], k, f, h => rfl
  | a :: r, k, f, h => by
    simp only [setl]
    rw [h k (Nat.le_refl _) (by simp), setl_live r (k + 1) _ fun t h1 h2 => h t (by omega) (by simp only [List.length_cons]; omega)]
theorem crash_all (D : DD) : (D.crash (List.replicate D.p.length true)).holds = D.holds := by
  unfold DD.holds DD.crash
  simp only [setl]
  rw [setl_live (l1 := liveOf (List.replicate D.p.length true)) (l2 := fun _ => true)]
  intro t h1 h2
  unfold liveOf
  rw [List.getD_eq_getElem?_getD, List.getElem?_replicate, if_pos (by omega)]
  rfl
theorem cut_holds (D : DD) : D.cut.holds = D.holds := rfl
theorem crash_live (D : DD) (xs : List Bool) : Live (D.crash xs) := ⟨rfl, rfl⟩
end Go.Proofs.Ytjiammhmeliogaa
