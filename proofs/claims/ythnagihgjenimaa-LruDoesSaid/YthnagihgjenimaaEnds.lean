/- Oldest and Newest. -/
import Derived.Test.YthnagihgjenimaaCalls2
namespace Go.Proofs.Ythnagihgjenimaa
open Go.RowKit
set_option linter.unusedVariables false

def LK.adr (k : LK) : Addr := ⟨k.B, 0, none⟩

theorem head_call (k : LK) (w : World) (ls : Nat → List Nat) (h : k.Has w ls) (i : Nat) (hi : i < k.n) :
    Calls Try.prog 41 #[.pointer (some ⟨k.B, 0, none⟩), .int .i64 i] w fun e w' => e = .returned (.int .i64 ((k.N + i : Nat) : Int)) ∧ w = w' := by
  obtain ⟨nx, ah, wh, ln, h1, h2⟩ := h
  exact head_any _ _ h1 i hi

theorem oldest_fn (k : LK) (w : World) (ls : Nat → List Nat) (h : k.Has w ls) (b : Addr) (hb : w.cell? b = some (.pointer (some ⟨k.B, 0, none⟩))) :
    Calls Try.prog 31 #[.pointer (some b)] w fun e w' => e = .returned (.slice (some ⟨k.ba, 0, none⟩) (k.N + k.n) (k.N + k.n)) ∧ w = w' := by
  obtain ⟨nx, ah, wh, ln, h1, h2⟩ := h
  obtain ⟨o0, o1, o2, o3⟩ := h1.fields
  dsimp only [LK.full] at o0 o1 o2 o3
  clear h1 h2
  go_enter Try.func31, Try.ntmps31
  go_wp2
  go_ret
  exact ⟨rfl, rfl⟩

theorem newest_fn (k : LK) (w : World) (ls : Nat → List Nat) (h : k.Has w ls) (b : Addr) (hb : w.cell? b = some (.pointer (some ⟨k.B, 0, none⟩))) :
    Calls Try.prog 32 #[.pointer (some b)] w fun e w' => e = .returned (.slice (some ⟨k.bn, 0, none⟩) (k.N + k.n) (k.N + k.n)) ∧ w = w' := by
  obtain ⟨nx, ah, wh, ln, h1, h2⟩ := h
  obtain ⟨o0, o1, o2, o3⟩ := h1.fields
  dsimp only [LK.full] at o0 o1 o2 o3
  clear h1 h2
  go_enter Try.func32, Try.ntmps32
  go_wp2
  go_ret
  exact ⟨rfl, rfl⟩

theorem end_bad (k : LK) (w : World) (ls : Nat → List Nat) (h : k.Has w ls) (i : Int) (f : Value) (ho : ¬ okLN k i 0) :
    Calls Try.prog 30 #[k.ptr, .int .i64 i, f] w fun e w' => e = .returned (two 0 2) ∧ w = w' := by
  have H := Lib.hid h
  have HO := Lib.hid ho
  clear h ho
  go_enter Try.func30, Try.ntmps30
  go_wp2_with (go_at_call 27; refine (ready_no k _ ls H.out i 0 HO.out).mono ?_; rintro e w' ⟨rfl, rfl⟩)
  go_ret2
  exact ⟨rfl, rfl⟩

theorem end_none (k : LK) (w : World) (ls : Nat → List Nat) (h : k.Has w ls) (i : Nat) (f : Value) (hi : i < k.n) (hl : ls i = []) :
    Calls Try.prog 30 #[k.ptr, .int .i64 i, f] w fun e w' => e = .returned (two 0 4) ∧ w = w' := by
  have H := Lib.hid h
  have HO : Hid (okLN k i 0) := Lib.hid ⟨by omega, by omega, by omega, by have := h.bounds; omega⟩
  obtain ⟨nx, ah, wh, ln, h1, h2⟩ := h
  obtain ⟨o0, o1, o2, o3⟩ := h1.fields
  have c1 := h1.getLn (i := i) hi
  have c2 := h2.ln i hi
  dsimp only [LK.full] at o0 o1 o2 o3 c1 c2
  rw [c2, hl] at c1
  have c3 : w.cell? ⟨k.bl, i, none⟩ = some (.int .i64 0) := c1
  clear h1 h2 c2 c1 hl
  unfold LK.ptr at *
  go_enter Try.func30, Try.ntmps30
  go_wp2_with (go_at_call 27; refine (ready_ok k _ ls H.out i 0 HO.out).mono ?_; rintro e w' ⟨rfl, rfl⟩)
  go_ret2
  exact ⟨rfl, rfl⟩

theorem end_oldest (k : LK) (w : World) (ls : Nat → List Nat) (h : k.Has w ls) (i x : Nat) (b : Addr) (hb : w.cell? b = some (.pointer (some ⟨k.B, 0, none⟩))) (hi : i < k.n) (hl : (ls i).getLast? = some x) :
    Calls Try.prog 30 #[k.ptr, .int .i64 i, .func (.func 31) #[] #[.pointer (some b)]] w fun e w' => e = .returned (two x 0) ∧ w = w' := by
  have H := Lib.hid h
  have HB := Lib.hid hb
  have HO : Hid (okLN k i 0) := Lib.hid ⟨by omega, by omega, by omega, by have := h.bounds; omega⟩
  have hN := h.bounds
  obtain ⟨nx, ah, wh, ln, h1, h2⟩ := h
  obtain ⟨o0, o1, o2, o3⟩ := h1.fields
  have c1 := h1.getLn (i := i) hi
  have c2 := h2.ln i hi
  have hne : ls i ≠ [] := by intro e; rw [e] at hl; cases hl
  have hpos : 0 < (ls i).length := List.length_pos_iff.2 hne
  have c3 := h1.getAh (i := k.N + i) (by show _ < k.N + k.n; omega)
  have c4 := h2.head_last (i := i) hi
  dsimp only [LK.full] at o0 o1 o2 o3 c1 c2 c3 c4
  rw [c4, hl] at c3
  rw [c2] at c1
  have ht : (((ls i).length : Int) == 0) = false := by rw [beq_eq_false_iff_ne]; omega
  have c5 : w.cell? ⟨k.ba, k.N + i, none⟩ = some (.int .i64 (x : Int)) := c3
  clear h1 h2 c2 c3 c4 hl hne hb
  unfold LK.ptr at *
  go_enter Try.func30, Try.ntmps30
  go_wp2_with (first
    | (go_at_call 27; refine (ready_ok k _ ls H.out i 0 HO.out).mono ?_; rintro e w' ⟨rfl, rfl⟩)
    | (go_at_call 31; refine (oldest_fn k _ ls H.out b HB.out).mono ?_; rintro e w' ⟨rfl, rfl⟩)
    | (go_at_call 41; refine (head_call k _ ls H.out i hi).mono ?_; rintro e w' ⟨rfl, rfl⟩))
  go_ret2
  exact ⟨rfl, rfl⟩

theorem end_newest (k : LK) (w : World) (ls : Nat → List Nat) (h : k.Has w ls) (i x : Nat) (b : Addr) (hb : w.cell? b = some (.pointer (some ⟨k.B, 0, none⟩))) (hi : i < k.n) (hl : (ls i).head? = some x) :
    Calls Try.prog 30 #[k.ptr, .int .i64 i, .func (.func 32) #[] #[.pointer (some b)]] w fun e w' => e = .returned (two x 0) ∧ w = w' := by
  have H := Lib.hid h
  have HB := Lib.hid hb
  have HO : Hid (okLN k i 0) := Lib.hid ⟨by omega, by omega, by omega, by have := h.bounds; omega⟩
  have hN := h.bounds
  obtain ⟨nx, ah, wh, ln, h1, h2⟩ := h
  obtain ⟨o0, o1, o2, o3⟩ := h1.fields
  have c1 := h1.getLn (i := i) hi
  have c2 := h2.ln i hi
  have hne : ls i ≠ [] := by intro e; rw [e] at hl; cases hl
  have hpos : 0 < (ls i).length := List.length_pos_iff.2 hne
  have c3 := h1.getNx (i := k.N + i) (by show _ < k.N + k.n; omega)
  have c4 := h2.head_first (i := i) hi
  dsimp only [LK.full] at o0 o1 o2 o3 c1 c2 c3 c4
  rw [c4, hl] at c3
  rw [c2] at c1
  have ht : (((ls i).length : Int) == 0) = false := by rw [beq_eq_false_iff_ne]; omega
  have c5 : w.cell? ⟨k.bn, k.N + i, none⟩ = some (.int .i64 (x : Int)) := c3
  clear h1 h2 c2 c3 c4 hl hne hb
  unfold LK.ptr at *
  go_enter Try.func30, Try.ntmps30
  go_wp2_with (first
    | (go_at_call 27; refine (ready_ok k _ ls H.out i 0 HO.out).mono ?_; rintro e w' ⟨rfl, rfl⟩)
    | (go_at_call 32; refine (newest_fn k _ ls H.out b HB.out).mono ?_; rintro e w' ⟨rfl, rfl⟩)
    | (go_at_call 41; refine (head_call k _ ls H.out i hi).mono ?_; rintro e w' ⟨rfl, rfl⟩))
  go_ret2
  exact ⟨rfl, rfl⟩

/-- What Oldest and Newest come to: w' is w with new blocks alone. -/
def Told (v : Value) (w : World) (e : Ending) (w' : World) : Prop := e = .returned v ∧ Keeps (fun _ => False) w w'

theorem box_cell (w : World) (k : LK) : (w.alloc (.cells #[.pointer (some ⟨k.B, 0, none⟩)] 23)).cell? ⟨w.heap.size, 0, none⟩ = some (.pointer (some ⟨k.B, 0, none⟩)) := by
  exact (Blk.new w 23 [.pointer (some ⟨k.B, 0, none⟩)]).cell rfl

theorem oldest_bad (k : LK) (w : World) (ls : Nat → List Nat) (h : k.Has w ls) (i : Int) (ho : ¬ okLN k i 0) :
    Calls Try.prog 17 #[k.ptr, .int .i64 i] w (Told (two 0 2) w) := by
  have hk := (Keeps.refl (fun _ => False) w).alloc (.cells #[.pointer (some ⟨k.B, 0, none⟩)] 23)
  have HE := Lib.hid (fun f => end_bad k _ ls (h.quiet hk) i f ho)
  have HK := Lib.hid hk
  clear h ho hk
  unfold LK.ptr at *
  go_enter Try.func17, Try.ntmps17
  go_wp2_with (go_at_call 30; refine (HE.out _).mono ?_; unfold two; rintro e w' ⟨rfl, rfl⟩)
  go_ret2
  exact ⟨rfl, HK.out⟩

theorem oldest_none (k : LK) (w : World) (ls : Nat → List Nat) (h : k.Has w ls) (i : Nat) (hi : i < k.n) (hl : ls i = []) :
    Calls Try.prog 17 #[k.ptr, .int .i64 i] w (Told (two 0 4) w) := by
  have hk := (Keeps.refl (fun _ => False) w).alloc (.cells #[.pointer (some ⟨k.B, 0, none⟩)] 23)
  have HE := Lib.hid (fun f => end_none k _ ls (h.quiet hk) i f hi hl)
  have HK := Lib.hid hk
  clear h hk hl
  unfold LK.ptr at *
  go_enter Try.func17, Try.ntmps17
  go_wp2_with (go_at_call 30; refine (HE.out _).mono ?_; unfold two; rintro e w' ⟨rfl, rfl⟩)
  go_ret2
  exact ⟨rfl, HK.out⟩

theorem oldest_ok (k : LK) (w : World) (ls : Nat → List Nat) (h : k.Has w ls) (i x : Nat) (hi : i < k.n) (hl : (ls i).getLast? = some x) :
    Calls Try.prog 17 #[k.ptr, .int .i64 i] w (Told (two x 0) w) := by
  have hk := (Keeps.refl (fun _ => False) w).alloc (.cells #[.pointer (some ⟨k.B, 0, none⟩)] 23)
  have HE := Lib.hid (end_oldest k _ ls (h.quiet hk) i x _ (box_cell w k) hi hl)
  have HK := Lib.hid hk
  clear h hk hl
  unfold LK.ptr at *
  go_enter Try.func17, Try.ntmps17
  go_wp2_with (go_at_call 30; refine HE.out.mono ?_; unfold two; rintro e w' ⟨rfl, rfl⟩)
  go_ret2
  exact ⟨rfl, HK.out⟩

theorem newest_bad (k : LK) (w : World) (ls : Nat → List Nat) (h : k.Has w ls) (i : Int) (ho : ¬ okLN k i 0) :
    Calls Try.prog 19 #[k.ptr, .int .i64 i] w (Told (two 0 2) w) := by
  have hk := (Keeps.refl (fun _ => False) w).alloc (.cells #[.pointer (some ⟨k.B, 0, none⟩)] 23)
  have HE := Lib.hid (fun f => end_bad k _ ls (h.quiet hk) i f ho)
  have HK := Lib.hid hk
  clear h ho hk
  unfold LK.ptr at *
  go_enter Try.func19, Try.ntmps19
  go_wp2_with (go_at_call 30; refine (HE.out _).mono ?_; unfold two; rintro e w' ⟨rfl, rfl⟩)
  go_ret2
  exact ⟨rfl, HK.out⟩

theorem newest_none (k : LK) (w : World) (ls : Nat → List Nat) (h : k.Has w ls) (i : Nat) (hi : i < k.n) (hl : ls i = []) :
    Calls Try.prog 19 #[k.ptr, .int .i64 i] w (Told (two 0 4) w) := by
  have hk := (Keeps.refl (fun _ => False) w).alloc (.cells #[.pointer (some ⟨k.B, 0, none⟩)] 23)
  have HE := Lib.hid (fun f => end_none k _ ls (h.quiet hk) i f hi hl)
  have HK := Lib.hid hk
  clear h hk hl
  unfold LK.ptr at *
  go_enter Try.func19, Try.ntmps19
  go_wp2_with (go_at_call 30; refine (HE.out _).mono ?_; unfold two; rintro e w' ⟨rfl, rfl⟩)
  go_ret2
  exact ⟨rfl, HK.out⟩

theorem newest_ok (k : LK) (w : World) (ls : Nat → List Nat) (h : k.Has w ls) (i x : Nat) (hi : i < k.n) (hl : (ls i).head? = some x) :
    Calls Try.prog 19 #[k.ptr, .int .i64 i] w (Told (two x 0) w) := by
  have hk := (Keeps.refl (fun _ => False) w).alloc (.cells #[.pointer (some ⟨k.B, 0, none⟩)] 23)
  have HE := Lib.hid (end_newest k _ ls (h.quiet hk) i x _ (box_cell w k) hi hl)
  have HK := Lib.hid hk
  clear h hk hl
  unfold LK.ptr at *
  go_enter Try.func19, Try.ntmps19
  go_wp2_with (go_at_call 30; refine HE.out.mono ?_; unfold two; rintro e w' ⟨rfl, rfl⟩)
  go_ret2
  exact ⟨rfl, HK.out⟩
end Go.Proofs.Ythnagihgjenimaa
