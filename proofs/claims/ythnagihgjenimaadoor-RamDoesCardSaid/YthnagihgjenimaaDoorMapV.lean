/- A map of values, as a function of its keys. -/
import Derived.Test.YthnagihgjenimaaDoorBlk
import Derived.Test.YthnagihgjenimaaDoorRows
import Derived.Maps.OwnSet
import Derived.Maps.OwnOps
namespace Go.Proofs.YthnagihgjenimaaDoor
open Go.RowKit
set_option linter.unusedVariables false
/-- A value stands for itself. -/
def heldR (v : Value) : Option (DataW Value × List MemPlace) := some (.held v, [])
/-- The map in block b holds f: m keys. -/
def MapV (k : TypeId) (w : World) (b m : Nat) (f : Lit → Option Value) : Prop :=
  ∃ D : DataW Value, w.ownsMap Tryd.prog k heldR b m D ∧ Maps.Tidy D ∧ Maps.size D = m ∧ (∀ kl, Maps.has D kl = (f kl).isSome) ∧ ∀ kl d, D.atKey kl (.held d) = .held ((f kl).getD d)
open Classical in
/-- A key set. -/
noncomputable def mput (f : Lit → Option Value) (kl : Lit) (v : Value) (z : Lit) : Option Value := if z = kl then some v else f z
open Classical in
/-- A key struck. -/
noncomputable def mdel (f : Lit → Option Value) (kl : Lit) (z : Lit) : Option Value := if z = kl then none else f z
theorem mput_same (f : Lit → Option Value) (kl : Lit) (v : Value) : mput f kl v kl = some v := by unfold mput; simp
theorem mput_ne (f : Lit → Option Value) {kl z : Lit} (v : Value) (h : z ≠ kl) : mput f kl v z = f z := by unfold mput; simp [h]
theorem mdel_same (f : Lit → Option Value) (kl : Lit) : mdel f kl kl = none := by unfold mdel; simp
theorem mdel_ne (f : Lit → Option Value) {kl z : Lit} (h : z ≠ kl) : mdel f kl z = f z := by unfold mdel; simp [h]
theorem own_tight {k : TypeId} {w : World} {b n : Nat} {D : DataW Value} (h : w.ownsMap Tryd.prog k heldR b n D) : w.ownsMap Tryd.prog k heldR b (Maps.size D) D := by
  obtain ⟨es, clock, hb, F, hs, rfl⟩ := h
  exact ⟨es, clock, hb, F, by simp [Maps.size, length_sorted], rfl⟩
section
variable {k e t : TypeId} {w w' : World} {b m : Nat} {f : Lit → Option Value}
theorem MapV.made (k : TypeId) (w : World) : MapV k (w.alloc (.map #[] 0)) w.heap.size 0 (fun _ => none) :=
  ⟨.map [], World.ownsMap_made _ _ _ _, Maps.tidy_empty, rfl, fun _ => rfl, fun _ _ => rfl⟩
theorem MapV.lt (h : MapV k w b m f) : b < w.heap.size := by
  obtain ⟨D, h1, _⟩ := h
  exact h1.lt
theorem MapV.keep {S : Nat → Prop} (h : MapV k w b m f) (hk : Keeps S w w') (hn : ¬ S b) : MapV k w' b m f := by
  have hb := hk.block b h.lt hn
  obtain ⟨D, ⟨es, clock, hb2, r⟩, h2⟩ := h
  exact ⟨D, ⟨es, clock, hb.trans hb2, r⟩, h2⟩
theorem MapV.ne_blk {g ty : Nat} {cs : List Value} (h : MapV k w b m f) (hb : Blk w g ty cs) : b ≠ g := by
  obtain ⟨D, ⟨es, clock, hb2, r⟩, h2⟩ := h
  rintro rfl
  unfold Blk at hb
  rw [hb2] at hb
  cases hb
theorem turned_keeps (h : w.mapTurned w' b) : Keeps (fun g => g = b) w w' := (Keeps.of_grown h.grown).mono fun g _ e => (Option.some.inj e).symm
/-- v, ok := m[k] -/
theorem MapV.look_ok (h : MapV k w b m f) (K : Maps.Keyed Tryd.prog k) (ht : Tryd.prog.underlying t = some (.map k e)) {z : Value} (hz : (zeroValue e).run Tryd.prog w = .ok z w) {key : Value} {kl : Lit} (hkey : keyOf Tryd.prog k key = some kl) :
    (Instr.lookup t (.map (some b)) key true).run Tryd.prog w = .ok (.tuple #[(f kl).getD z, .bool (f kl).isSome]) w := by
  obtain ⟨D, h1, _, _, h2, h3⟩ := h
  obtain ⟨v, ps, hrun, hv⟩ := h1.look_ok K ht hz (zd := .held z) (zp := []) rfl hkey
  rw [h3] at hv
  simp only [heldR, Option.some.injEq, Prod.mk.injEq, DataW.held.injEq] at hv
  obtain ⟨rfl, _⟩ := hv
  rw [hrun, h2]
/-- m[k] -/
theorem MapV.look (h : MapV k w b m f) (K : Maps.Keyed Tryd.prog k) (ht : Tryd.prog.underlying t = some (.map k e)) {z : Value} (hz : (zeroValue e).run Tryd.prog w = .ok z w) {key : Value} {kl : Lit} (hkey : keyOf Tryd.prog k key = some kl) :
    (Instr.lookup t (.map (some b)) key false).run Tryd.prog w = .ok ((f kl).getD z) w := by
  obtain ⟨D, h1, _, _, h2, h3⟩ := h
  obtain ⟨v, ps, hrun, hv⟩ := h1.lookup K ht hz (zd := .held z) (zp := []) rfl hkey
  rw [h3] at hv
  simp only [heldR, Option.some.injEq, Prod.mk.injEq, DataW.held.injEq] at hv
  obtain ⟨rfl, _⟩ := hv
  rw [hrun]
/-- len(m) -/
theorem MapV.len (h : MapV k w b m f) (ht : Tryd.prog.underlying t = some (.map k e)) (ty : TypeId) : (Builtin.len_ #[t] ty #[.map (some b)]).run Tryd.prog w = .ok (.int .i64 (m : Nat)) w := by
  obtain ⟨D, h1, _, h2, _⟩ := h
  have := h1.len ht ty
  rw [h2] at this
  exact this
theorem key_lit (K : Maps.Keyed Tryd.prog k) {key : Value} {kl : Lit} (hkey : keyOf Tryd.prog k key = some kl) : WideAt.IsKeyLit kl := K.key hkey
/-- m[k] = v -/
theorem MapV.put (h : MapV k w b m f) (K : Maps.Keyed Tryd.prog k) (ht : Tryd.prog.underlying t = some (.map k e)) (hm : m < maxLen) {key : Value} {kl : Lit} (hkey : keyOf Tryd.prog k key = some kl) (v : Value) :
    ∃ w', (Instr.mapUpdate t (.map (some b)) key v).run Tryd.prog w = .ok () w' ∧ MapV k w' b (if (f kl).isSome then m else m + 1) (mput f kl v) ∧ Keeps (fun g => g = b) w w' := by
  obtain ⟨D, h1, h2, h3, h4, h5⟩ := h
  obtain ⟨w', hrun, hown, htu⟩ := h1.store K ht hm (d := .held v) (ps := []) hkey rfl
  have hl := key_lit K hkey
  have hs := Maps.size_put h2 (k := kl) (DataW.held v)
  rw [h4, h3] at hs
  have hown2 := own_tight hown
  rw [hs] at hown2
  refine ⟨w', hrun, ⟨_, hown2, h2.put hl _, hs, fun z => ?_, fun z d => ?_⟩, turned_keeps htu⟩
  · by_cases e : z = kl
    · subst e
      rw [mput_same, Maps.has_put_same h2.isMap hl]
      rfl
    · rw [mput_ne _ _ e, Maps.has_put_other e]
      exact h4 z
  · by_cases e : z = kl
    · subst e
      rw [mput_same, Maps.atKey_put_same h2.isMap hl]
      rfl
    · rw [mput_ne _ _ e, Maps.atKey_put_other e]
      exact h5 z d
/-- delete(m, k) -/
theorem MapV.del (h : MapV k w b m f) (K : Maps.Keyed Tryd.prog k) (ht : Tryd.prog.underlying t = some (.map k e)) {key : Value} {kl : Lit} (hkey : keyOf Tryd.prog k key = some kl) (ty : TypeId) :
    ∃ w', (Builtin.delete_ #[t, k] ty #[.map (some b), key]).run Tryd.prog w = .ok (.tuple #[]) w' ∧ MapV k w' b (if (f kl).isSome then m - 1 else m) (mdel f kl) ∧ Keeps (fun g => g = b) w w' := by
  obtain ⟨D, h1, h2, h3, h4, h5⟩ := h
  obtain ⟨w', hrun, hown, htu⟩ := h1.drop K ht hkey ty
  have hs := Maps.size_del (k := kl) h2
  rw [h4, h3] at hs
  have hs2 : Maps.size (D.del kl) = if (f kl).isSome then m - 1 else m := by
    cases hf : (f kl).isSome <;> rw [hf] at hs <;> simp at hs ⊢ <;> omega
  have hown2 := own_tight hown
  rw [hs2] at hown2
  refine ⟨w', hrun, ⟨_, hown2, h2.del _, hs2, fun z => ?_, fun z d => ?_⟩, turned_keeps htu⟩
  · by_cases e : z = kl
    · subst e
      rw [mdel_same, Maps.has_del_same]
      rfl
    · rw [mdel_ne _ e, Maps.has_del_other e]
      exact h4 z
  · by_cases e : z = kl
    · subst e
      rw [mdel_same, Maps.atKey_del_same]
      rfl
    · rw [mdel_ne _ e, Maps.atKey_del_other e]
      exact h5 z d
end
end Go.Proofs.YthnagihgjenimaaDoor
