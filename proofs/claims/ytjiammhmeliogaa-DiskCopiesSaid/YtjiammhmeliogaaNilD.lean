/- A disk that is not there. -/
import Derived.Test.YtjiammhmeliogaaMany
namespace Go.Proofs.Ytjiammhmeliogaa
open Go.RowKit
set_option linter.unusedVariables false
set_option linter.unusedSimpArgs false

theorem len_nil (w : World) : Calls Try.prog 26 #[.pointer none] w fun e w' => e = .returned (.int .i64 0) ∧ w = w' := by
  go_enter Try.func26, Try.ntmps26
  go_wp2
  go_ret
  exact ⟨rfl, rfl⟩
theorem dead_nil (w : World) : Calls Try.prog 30 #[.pointer none] w fun e w' => e = .returned (.bool false) ∧ w = w' := by
  go_enter Try.func30, Try.ntmps30
  go_wp2
  go_ret
  exact ⟨rfl, rfl⟩
theorem ops_nil (w : World) : Calls Try.prog 36 #[.pointer none] w fun e w' => e = .returned (.int .i64 0) ∧ w = w' := by
  go_enter Try.func36, Try.ntmps36
  go_wp2
  go_ret
  exact ⟨rfl, rfl⟩
theorem pend_nil (w : World) : Calls Try.prog 33 #[.pointer none] w fun e w' => e = .returned (.slice none 0 0) ∧ w = w' := by
  go_enter Try.func33, Try.ntmps33
  go_wp2
  go_ret
  exact ⟨rfl, rfl⟩
theorem copy_nil (w : World) : Calls Try.prog 37 #[.pointer none] w fun e w' => e = .returned (.pointer none) ∧ w = w' := by
  go_enter Try.func37, Try.ntmps37
  go_wp2
  go_ret
  exact ⟨rfl, rfl⟩
theorem power_nil (w : World) : Calls Try.prog 61 #[.pointer none] w fun e w' => e = .returned (.int .i64 1) ∧ w = w' := by
  go_enter Try.func61, Try.ntmps61
  go_wp2
  go_ret
  exact ⟨rfl, rfl⟩
theorem ready_nil (i : Int) (w : World) : Calls Try.prog 57 #[.pointer none, .int .i64 i] w fun e w' => e = .returned (.int .i64 1) ∧ w = w' := by
  go_enter Try.func57, Try.ntmps57
  go_wp2_with fail
  refine (power_nil w).mono ?_
  rintro e w' ⟨rfl, rfl⟩
  go_wp2_with fail
  go_ret
  exact ⟨rfl, rfl⟩
theorem arm_nil (i : Int) (w : World) : Calls Try.prog 29 #[.pointer none, .int .i64 i] w fun e w' => e = .returned (.int .i64 1) ∧ w = w' := by
  go_enter Try.func29, Try.ntmps29
  go_wp2_with fail
  refine (power_nil w).mono ?_
  rintro e w' ⟨rfl, rfl⟩
  go_wp2_with fail
  go_ret
  exact ⟨rfl, rfl⟩
theorem fail_nil (i : Int) (w : World) : Calls Try.prog 32 #[.pointer none, .int .i64 i] w fun e w' => e = .returned (.int .i64 1) ∧ w = w' := by
  go_enter Try.func32, Try.ntmps32
  go_wp2_with fail
  refine (power_nil w).mono ?_
  rintro e w' ⟨rfl, rfl⟩
  go_wp2_with fail
  go_ret
  exact ⟨rfl, rfl⟩
theorem crash_nil (ka : Option Addr) (kn kc : Nat) (w : World) : Calls Try.prog 34 #[.pointer none, .slice ka kn kc] w fun e w' => e = .returned (.int .i64 1) ∧ Keeps (fun _ => False) w w' := by
  go_enter Try.func34, Try.ntmps34
  go_wp2
  go_ret
  exact ⟨rfl, (Keeps.refl _ _).alloc _⟩
theorem sync_nil (w : World) : Calls Try.prog 31 #[.pointer none] w fun e w' => e = .returned (.int .i64 1) ∧ Keeps (fun _ => False) w w' := by
  go_enter Try.func31, Try.ntmps31
  go_wp2_with fail
  refine (ready_nil _ _).mono ?_
  rintro e w' ⟨rfl, rfl⟩
  go_wp2_with fail
  go_ret
  exact ⟨rfl, (Keeps.refl _ _).alloc _⟩
theorem write_nil (i : Int) (b : List Int) (w : World) : Calls Try.prog 50 #[.pointer none, .int .i64 i, .agg (bk b).toArray] w fun e w' => e = .returned (.int .i64 1) ∧ Keeps (fun _ => False) w w' := by
  obtain ⟨bs, hbs⟩ : ∃ bs, bs = bk b := ⟨_, rfl⟩
  rw [← hbs]
  clear hbs
  go_enter Try.func50, Try.ntmps50
  go_wp2_with fail
  refine (ready_nil _ _).mono ?_
  rintro e w' ⟨rfl, rfl⟩
  go_wp2_with fail
  go_ret
  exact ⟨rfl, (((Keeps.refl _ _).alloc _).alloc _).alloc _⟩

attribute [local go_sem] Oper.semAt_some
attribute [local go_sem ↓] sem_load106 sem_load27 sem_store27 sem_new106 sem_build27 sem_alloc27
attribute [local go_sem] mayRow_drew padr_some rowAt_drew hasRow_drew zc_size
set_option maxRecDepth 100000 in
set_option maxHeartbeats 4000000 in
theorem read_nil (i : Int) (w : World) : Calls Try.prog 27 #[.pointer none, .int .i64 i] w fun e w' => e = .returned (.tuple #[.agg (bk zb).toArray, .int .i64 1]) ∧ Keeps (fun _ => False) w w' := by
  refine (callsIn_wide (n := 3)).1 ?_
  refine callsIn_of_wp_marks Try.func27 rfl trivial ?_ rfl
  simp only [Try.ntmps27, List.size_toArray, List.length_cons, List.length_nil, Nat.reduceAdd, Nat.reduceSub, Array.replicate_succ, Array.replicate_zero, List.push_toArray, List.append_toArray, List.nil_append, List.cons_append]
  obtain ⟨W0, hW0⟩ : ∃ W0, W0 = (((w.alloc (.cells #[.pointer none] 24)).alloc (.cells #[.int .i64 i] 3)).alloc (.cells (bk zb).toArray 27)).alloc (.cells #[.int .i64 0] 38) := ⟨_, rfl⟩
  obtain ⟨q1, q2, q3, q4, hs0, hk0⟩ := four_new w (.pointer none) (.int .i64 i) (.int .i64 0) (bk zb) W0 hW0
  have HR := Lib.hid (ready_nil i W0)
  have HK0 := Lib.hid hk0
  have hsz : w.heap.size + 4 ≤ W0.heap.size := by omega
  have hz64 : (bk zb).length = 64 := by rw [bk_len, zb_len]
  have x0 := q1.cell (i := 0) rfl
  have x1 := q2.cell (i := 0) rfl
  have y3 := q4.cell (i := 0) rfl
  have z3 := q4.free 0
  have HX2 := Lib.hid q3
  have HX3 := Lib.hid q4
  have hmay : MayRow W0 (w.heap.size + 1 + 1) 0 64 := fun j hj => ⟨by rw [Nat.zero_add, q3.cell (List.getElem?_eq_getElem (by omega))]; rfl, by rw [Nat.zero_add]; exact q3.free j⟩
  clear hk0 q1 q2 q3 q4 hs0
  gi_wp2
  refine ⟨trivial, ?_⟩
  rw [← hW0]
  clear hW0
  refine (callsIn_wide.2 HR.out).mono ?_
  rintro e w1 ⟨rfl, rfl⟩
  have hz1 : oneAll (bk zb).toArray = true := all_oneCell_toArray bk_one
  have hks := setCells_keeps (w.heap.size + 1 + 1) (bk zb) 0 W0
  have y4 := (hks.cell (p := ⟨w.heap.size + 1 + 1 + 1, 0, none⟩) HX3.out.lt (by show ¬ (w.heap.size + 1 + 1 + 1 = w.heap.size + 1 + 1); omega)).trans y3
  have z4 := (hks.frozen (p := ⟨w.heap.size + 1 + 1 + 1, 0, none⟩) HX3.out.lt (by show ¬ (w.heap.size + 1 + 1 + 1 = w.heap.size + 1 + 1); omega)).trans z3
  have HKS := Lib.hid hks
  clear hks
  gi_wp2
  have hb2 := (blk_over HX2.out rfl).other (p := ⟨w.heap.size + 1 + 1 + 1, 0, none⟩) (by show ¬ (w.heap.size + 1 + 1 = w.heap.size + 1 + 1 + 1); omega) (.int .i64 1)
  have hb3 := (HKS.out.blk HX3.out (by show ¬ (w.heap.size + 1 + 1 + 1 = w.heap.size + 1 + 1); omega)).store 0 (.int .i64 1)
  refine ⟨.tuple #[.agg (bk zb).toArray, .int .i64 1], ?_, rfl, ?_⟩
  · exact read_results (w.heap.size + 1 + 1) (w.heap.size + 1 + 1 + 1) (bk zb) (.int .i64 1) _ _ rfl rfl hz64 hb2 (hb3.cell (i := 0) rfl)
  · have h1 : Keeps (fun k => w.heap.size ≤ k) w W0 := HK0.out.mono fun _ _ h => h.elim
    have h2 := (h1.trans (HKS.out.mono fun k _ e => by have e' : k = w.heap.size + 1 + 1 := e; omega)).store (p := ⟨w.heap.size + 1 + 1 + 1, 0, none⟩) (.inr (by show w.heap.size ≤ w.heap.size + 1 + 1 + 1; omega)) (.int .i64 1)
    exact h2.mono fun k hk h => absurd h (Nat.not_le.2 hk)
end Go.Proofs.Ytjiammhmeliogaa
