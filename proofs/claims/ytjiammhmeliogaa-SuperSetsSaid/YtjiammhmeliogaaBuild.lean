/- A write is built; a row of one write is built. -/
import Derived.Test.YtjiammhmeliogaaDisk
import Derived.Laws.Tables
namespace Go.Proofs.Ytjiammhmeliogaa
open Go.RowKit
set_option linter.unusedVariables false

theorem fold_set : ∀ (vs : List Value) (off k : Nat) (cs : Array Value), off + k + vs.length ≤ cs.size →
    ((vs.zipIdx k).foldl (fun (cs : Array Value) (x : Value × Nat) => cs.setIfInBounds (off + x.2) x.1) cs).toList = cs.toList.take (off + k) ++ vs ++ cs.toList.drop (off + k + vs.length)
  | [], off, k, cs, h => by simp
  | v :: r, off, k, cs, h => by
    simp only [List.length_cons] at h
    simp only [List.zipIdx_cons, List.foldl_cons]
    rw [fold_set r off (k + 1) _ (by simp; omega)]
    have ho : off + k < cs.toList.length := by simp; omega
    simp only [Array.toList_setIfInBounds, List.length_cons]
    rw [show off + (k + 1) = off + k + 1 from by omega, show off + k + (r.length + 1) = off + k + 1 + r.length from by omega, List.drop_set_of_lt (by omega), List.take_succ_eq_append_getElem (by simpa using ho)]
    simp [List.take_set_of_le]

theorem fill_part {place : Nat → Option (Nat × Nat)} {cells : Array Value} {i off : Nat} {v : Value} {vs : List Value} {rest : List (Nat × Value)} (hv : v.cells = vs.toArray) (hp : place i = some (off, vs.length)) (hs : off + vs.length ≤ cells.size) :
    Instr.fill place cells ((i, v) :: rest) = Instr.fill place (cells.toList.take off ++ vs ++ cells.toList.drop (off + vs.length)).toArray rest := by
  have h := fold_set vs off 0 cells (by omega)
  simp only [Nat.add_zero] at h
  rw [Instr.fill, hp]
  simp only [hv, List.size_toArray, ne_eq, not_true_eq_false, decide_false, Bool.false_or, decide_eq_true_eq]
  rw [if_neg (by omega), ← h]
  congr 1
  apply Array.ext'
  simp

def z106 : List Value := Value.int .i64 0 :: List.replicate 64 (Value.int .u8 0)
theorem zero106 : ((Try.prog.info? 106).bind (·.zero)).map (·.cells) = some z106.toArray := by kernel_rfl
theorem size106 : (Try.prog.info? 106).map (fun i => (i.size, i.bytes)) = some (65, 72) := by kernel_rfl
theorem info106 : ∃ it z, Try.prog.info? 106 = some it ∧ it.zero = some z ∧ z.cells = z106.toArray ∧ it.size = 65 ∧ it.bytes = 72 := by
  have h := zero106
  have h2 := size106
  cases hi : Try.prog.info? 106 with
  | none => rw [hi] at h; cases h
  | some it =>
    rw [hi] at h h2
    cases hz : it.zero with
    | none => simp [hz] at h
    | some z =>
      simp [hz] at h
      simp at h2
      exact ⟨it, z, rfl, hz, h, h2.1, h2.2⟩
theorem places106 : ((Try.prog.underlying 106).bind fun d => match d with
    | .struct fs => fs.toList.mapM (fun f => (Try.prog.info? f.type).map fun i => (f.offset, i.size))
    | _ => none) = some [(0, 1), (1, 64)] := by kernel_rfl
theorem built106 (a : Int) (b : List Int) (hb : b.length = 64) : Try.prog.built 106 [(0, .int .i64 a), (1, .agg (bk b).toArray)] = some (Value.int .i64 a :: bk b).toArray := by
  obtain ⟨it, z, h1, h2, h3, _⟩ := info106
  have hp := places106
  unfold Program.built
  rw [h1]
  rw [Try.underlying106] at hp ⊢
  simp only [Option.bind_some] at hp
  simp only [h2]
  simp only [hp]
  rw [fill_part (vs := [.int .i64 a]) (off := 0) rfl (by simp) (by rw [h3]; simp [z106])]
  rw [fill_part (vs := bk b) (off := 1) rfl (by simp [bk_len, hb]) (by simp [h3, z106, bk_len, hb])]
  simp [h3, z106, bk_len, hb, Instr.fill]
theorem build106 (a : Int) (b : List Int) (hb : b.length = 64) (w : World) : (Instr.build 106 #[(0, .int .i64 a), (1, .agg (bk b).toArray)]).run Try.prog w = .ok (.agg (Value.int .i64 a :: bk b).toArray) w :=
  run_build w 106 _ _ (built106 a b hb)
theorem built106g (a : Value) (ha : a.cells = #[a]) (cs : List Value) (hc : cs.length = 64) : Try.prog.built 106 [(0, a), (1, .agg cs.toArray)] = some (a :: cs).toArray := by
  obtain ⟨it, z, h1, h2, h3, _⟩ := info106
  have hp := places106
  unfold Program.built
  rw [h1]
  rw [Try.underlying106] at hp ⊢
  simp only [Option.bind_some] at hp
  simp only [h2]
  simp only [hp]
  rw [fill_part (vs := [a]) (off := 0) ha (by simp) (by rw [h3]; simp [z106])]
  rw [fill_part (vs := cs) (off := 1) rfl (by simp [hc]) (by simp [h3, z106, hc])]
  simp [h3, z106, hc, Instr.fill]
/-- A write's cells out of its two parts. -/
def wcells (a : Value) (cs : Array Value) : Array Value := (a :: cs.toList).toArray
theorem exec_build106 (ρ : Operand → Value) (dst : Option Tmp) (ty : TypeId) (pos : String) (after : Array Edge) (guard : Option (Nat × Bool)) (x y : Operand) (w : World) (h1 : (ρ x).cells = #[ρ x]) (h : ρ y = .agg (ρ y).cells) (hc : (ρ y).cells.size = 64) :
    (execOp ρ ⟨dst, .build 106 #[(0, x), (1, y)], ty, pos, after, guard⟩).run Try.prog w = .ok (.value (.agg (wcells (ρ x) (ρ y).cells))) w := by
  obtain ⟨cs, hcs⟩ : ∃ cs : List Value, (ρ y).cells = cs.toArray := ⟨(ρ y).cells.toList, by simp⟩
  rw [hcs] at h hc ⊢
  have hr := run_build (P := Try.prog) w 106 #[(0, ρ x), (1, .agg cs.toArray)] _ (built106g (ρ x) h1 cs (by simpa using hc))
  unfold execOp wcells
  simp only [List.map_toArray, List.map_cons, List.map_nil, h, Sem.run_bind, hr, Result.andThen_ok, Sem.run_pure]

theorem row106 (cs : List Value) (hc : cs.length = 65) (w : World) : (Instr.buildSlice 93 1 #[(0, .agg cs.toArray)]).run Try.prog w = .ok (.slice (some ⟨w.heap.size, 0, none⟩) 1 1) (w.alloc (.cells cs.toArray 106)) := by
  obtain ⟨it, z, h1, h2, h3, h4, _⟩ := info106
  have hf : Instr.fill (fun i => some (i * 65, 65)) ((Array.range (1 * 65)).map (z.cells[· % z.cells.size]!)) [(0, .agg cs.toArray)] = some cs.toArray := by
    rw [fill_part (vs := cs) (off := 0) rfl (by simp [hc]) (by simp [hc])]
    simp [hc, Instr.fill]
  simp only [Nat.one_mul] at hf
  simp [Instr.buildSlice, run_underlying Try.underlying93, sizeOf, typeInfo, zeroValue, h1, h2, h4, newRow, hf]
theorem exec_row106 (ρ : Operand → Value) (dst : Option Tmp) (ty : TypeId) (pos : String) (after : Array Edge) (guard : Option (Nat × Bool)) (x : Operand) (w : World) (h : ρ x = .agg (ρ x).cells) (hc : (ρ x).cells.size = 65) :
    (execOp ρ ⟨dst, .buildSlice 93 1 #[(0, x)], ty, pos, after, guard⟩).run Try.prog w = .ok (.value (.slice (some ⟨w.heap.size, 0, none⟩) 1 1)) (w.alloc (.cells (ρ x).cells 106)) := by
  obtain ⟨cs, hcs⟩ : ∃ cs : List Value, (ρ x).cells = cs.toArray := ⟨(ρ x).cells.toList, by simp⟩
  rw [hcs] at h hc ⊢
  have hr := row106 cs (by simpa using hc) w
  unfold execOp
  simp only [List.map_toArray, List.map_cons, List.map_nil, h, Sem.run_bind, hr, Result.andThen_ok, Sem.run_pure]

/-- Block 27's size and kind. -/
theorem row27 : ∀ cs : List Value, cs.length = 64 → (Try.prog.info? 27).map (·.size) = some cs.length := fun cs h => by rw [h]; kernel_rfl
theorem row106i : ∀ cs : List Value, cs.length = 65 → (Try.prog.info? 106).map (·.size) = some cs.length := fun cs h => by rw [h]; kernel_rfl
theorem zc106 : Try.zeroCells106 = z106.toArray := by kernel_rfl
/-- A write's cells, as the walk builds them. -/
theorem fold106 (v : Value) (cs : List Value) (hc : cs.length = 64) : List.foldl (fun (cs : Array Value) (x : Value × Nat) => cs.setIfInBounds (1 + x.snd) x.fst) (Try.zeroCells106.setIfInBounds 0 v) cs.zipIdx = (v :: cs).toArray := by
  apply Array.ext'
  rw [fold_set cs 1 0 _ (by rw [zc106]; simp [z106, hc]), zc106]
  simp [z106, hc]

/-- Where a pointer points. -/
def padr (v : Value) : Addr := match v with | .pointer (some a) => a | _ => ⟨0, 0, none⟩
@[simp] theorem padr_some (a : Addr) : padr (.pointer (some a)) = a := rfl
/-- n cells are there; what they hold. -/
def HasRow (w : World) (g o n : Nat) : Prop := ∀ j, j < n → (w.cell? ⟨g, o + j, none⟩).isSome = true
def rowAt (w : World) (g o n : Nat) : List Value := (List.range n).map fun j => (w.cell? ⟨g, o + j, none⟩).getD undef
theorem rowAt_range {w : World} {g o n : Nat} (h : HasRow w g o n) : w.rangeAt g o (rowAt w g o n) := by
  intro j v hv
  have hj : j < n := by
    rcases Nat.lt_or_ge j n with h' | h'
    · exact h'
    · rw [List.getElem?_eq_none (by simpa [rowAt] using h')] at hv; cases hv
  simp [rowAt, hj] at hv
  have := h j hj
  cases hc : w.cell? ⟨g, o + j, none⟩ with
  | none => rw [hc] at this; cases this
  | some u => rw [hc] at hv; simpa using hv
theorem hasRow_of {w : World} {g o : Nat} {cs : List Value} (h : w.rangeAt g o cs) {n : Nat} (hn : cs.length = n) : HasRow w g o n := by
  subst hn
  exact h.isSome
theorem rowAt_of {w : World} {g o : Nat} {cs : List Value} (h : w.rangeAt g o cs) {n : Nat} (hn : cs.length = n) : rowAt w g o n = cs := by
  subst hn
  apply List.ext_getElem?
  intro j
  by_cases hj : j < cs.length
  · rw [List.getElem?_eq_getElem hj]
    have := h j _ (List.getElem?_eq_getElem hj)
    simp [rowAt, hj, this]
  · rw [List.getElem?_eq_none (by simp [rowAt]; omega), List.getElem?_eq_none (by omega)]
theorem rowAt_drew (w : World) (g o n : Nat) : rowAt w.drew g o n = rowAt w g o n := rfl
theorem hasRow_drew (w : World) (g o n : Nat) : HasRow w.drew g o n ↔ HasRow w g o n := Iff.rfl
theorem rowAt_alloc (w : World) (ob : Obj) (g o n : Nat) (h : g < w.heap.size) : rowAt (w.alloc ob) g o n = rowAt w g o n := by
  unfold rowAt
  apply List.map_congr_left
  intro j _
  rw [World.cell?_alloc_lt _ _ _ h]
theorem hasRow_alloc (w : World) (ob : Obj) (g o n : Nat) (h : g < w.heap.size) : HasRow (w.alloc ob) g o n ↔ HasRow w g o n := by
  unfold HasRow
  constructor <;> intro h' j hj <;> have := h' j hj
  · rwa [World.cell?_alloc_lt _ _ _ h] at this
  · rwa [World.cell?_alloc_lt _ _ _ h]
/-- A block is loaded, wherever it lies. -/
theorem exec_load27 (ρ : Operand → Value) (dst : Option Tmp) (ty : TypeId) (pos : String) (after : Array Edge) (guard : Option (Nat × Bool)) (x : Operand) (w : World) (h : ρ x = .pointer (some ⟨(padr (ρ x)).block, (padr (ρ x)).off, none⟩)) (hr : HasRow w (padr (ρ x)).block (padr (ρ x)).off 64) :
    (execOp ρ ⟨dst, .load 27 x, ty, pos, after, guard⟩).run Try.prog w = .ok (.value (.agg (rowAt w (padr (ρ x)).block (padr (ρ x)).off 64).toArray)) w := by
  have hl := run_loadAt_mid (P := Try.prog) w (padr (ρ x)).block (padr (ρ x)).off 27 _ _ (rowAt_range hr) Try.underlying27 rfl (row27 _ (by simp [rowAt]))
  rw [← h] at hl
  unfold execOp
  simp only [Sem.run_bind, hl, Result.andThen_ok, Sem.run_pure]
/-- A write is loaded, wherever it lies. -/
theorem exec_load106 (ρ : Operand → Value) (dst : Option Tmp) (ty : TypeId) (pos : String) (after : Array Edge) (guard : Option (Nat × Bool)) (x : Operand) (w : World) (h : ρ x = .pointer (some ⟨(padr (ρ x)).block, (padr (ρ x)).off, none⟩)) (hr : HasRow w (padr (ρ x)).block (padr (ρ x)).off 65) :
    (execOp ρ ⟨dst, .load 106 x, ty, pos, after, guard⟩).run Try.prog w = .ok (.value (.agg (rowAt w (padr (ρ x)).block (padr (ρ x)).off 65).toArray)) w := by
  have hl := run_loadAt_mid (P := Try.prog) w (padr (ρ x)).block (padr (ρ x)).off 106 _ _ (rowAt_range hr) Try.underlying106 rfl (row106i _ (by simp [rowAt]))
  rw [← h] at hl
  unfold execOp
  simp only [Sem.run_bind, hl, Result.andThen_ok, Sem.run_pure]
/-- n cells are there and may be written. -/
def MayRow (w : World) (g o n : Nat) : Prop := w.there g o n
def oneAll (cv : Array Value) : Bool := cv.all (·.oneCell')
/-- A block is stored, wherever. -/
theorem exec_store27 (ρ : Operand → Value) (dst : Option Tmp) (ty : TypeId) (pos : String) (after : Array Edge) (guard : Option (Nat × Bool)) (x y : Operand) (w : World) (h : ρ x = .pointer (some ⟨(padr (ρ x)).block, (padr (ρ x)).off, none⟩)) (hy : ρ y = .agg (ρ y).cells) (ht : MayRow w (padr (ρ x)).block (padr (ρ x)).off 64) (hc : (ρ y).cells.size = 64) (h1 : oneAll (ρ y).cells = true) :
    (execOp ρ ⟨dst, .store 27 x y, ty, pos, after, guard⟩).run Try.prog w = .ok .skip (w.setCells (padr (ρ x)).block (padr (ρ x)).off (ρ y).cells.toList) := by
  have hl := run_storeAt_mid (P := Try.prog) w (padr (ρ x)).block (padr (ρ x)).off 27 (ρ y).cells (by rw [hc]; exact ht) (by rw [hc]; kernel_rfl) h1
  rw [← h, ← hy] at hl
  unfold execOp
  simp only [Sem.run_bind, hl, Result.andThen_ok, Sem.run_pure]
theorem exec_store106 (ρ : Operand → Value) (dst : Option Tmp) (ty : TypeId) (pos : String) (after : Array Edge) (guard : Option (Nat × Bool)) (x y : Operand) (w : World) (h : ρ x = .pointer (some ⟨(padr (ρ x)).block, (padr (ρ x)).off, none⟩)) (hy : ρ y = .agg (ρ y).cells) (ht : MayRow w (padr (ρ x)).block (padr (ρ x)).off 65) (hc : (ρ y).cells.size = 65) (h1 : oneAll (ρ y).cells = true) :
    (execOp ρ ⟨dst, .store 106 x y, ty, pos, after, guard⟩).run Try.prog w = .ok .skip (w.setCells (padr (ρ x)).block (padr (ρ x)).off (ρ y).cells.toList) := by
  have hl := run_storeAt_mid (P := Try.prog) w (padr (ρ x)).block (padr (ρ x)).off 106 (ρ y).cells (by rw [hc]; exact ht) (by rw [hc]; kernel_rfl) h1
  rw [← h, ← hy] at hl
  unfold execOp
  simp only [Sem.run_bind, hl, Result.andThen_ok, Sem.run_pure]
end Go.Proofs.Ytjiammhmeliogaa
