/- ram: All where there is no memory. -/
import Derived.Test.YthnagihgjenimaaDoorRamZ
import Derived.Test.YthnagihgjenimaaDoorSeq
namespace Go.Proofs.YthnagihgjenimaaDoor
open Go.RowKit Go.Shelf
set_option linter.unusedVariables false
set_option linter.unusedSimpArgs false
attribute [local go_sem] Oper.semAt_some
set_option maxRecDepth 100000 in
theorem rall_nil (w : World) : Calls Tryd.prog 53 #[.pointer none] w fun e w' => e = .returned (.func (.func 75) #[] #[.pointer (some ⟨w.heap.size + 1, 0, none⟩)]) ∧ Keeps (fun _ => False) w w' ∧ Boxed w' (w.heap.size + 1) 58 (.slice none 0 0) := by
  go_enter Tryd.func53, Tryd.ntmps53
  go_wp2_with fail
  go_ret
  refine ⟨rfl, ((Keeps.refl _ _).alloc _).alloc _, ?_⟩
  have := Boxed.new (w.alloc (.cells #[.pointer none] 53)) 58 (.slice none 0 0)
  rwa [World.size_alloc] at this
set_option maxRecDepth 100000 in
set_option maxHeartbeats 1000000 in
theorem rseq_none (F : Fence) (n : Nat) (h7 : F.fn 75) (hro : F.round = none) (l Bs : Nat) (J : List Nat → World → Prop) (W : World) (hBs : W.cell? ⟨Bs, 0, none⟩ = some (.slice none 0 0)) (h0 : J [] W) :
    CallsIn F n Tryd.prog 75 #[.func (.yield l) #[] #[], .pointer (some ⟨Bs, 0, none⟩)] W fun e W' => (∃ v, e = .returned v) ∧ J [] W' := by
  refine callsIn_of_wp Tryd.func75 rfl h7 ?_ hro
  simp only [Tryd.ntmps75, List.size_toArray, List.length_cons, List.length_nil, Nat.reduceAdd, Nat.reduceSub, Array.replicate_succ, Array.replicate_zero, List.push_toArray, List.append_toArray, List.nil_append, List.cons_append]
  gi_wp2
  gi_loopw [7] (fun i wr => i = .int .i64 0 ∧ J [] wr) (fun _ _ => 0)
  case atStart => exact ⟨rfl, h0⟩
  case round =>
    obtain ⟨rfl, hJs⟩ := hrel
    gi_wp2
    go_end0
    exact ⟨⟨_, rfl⟩, hJs⟩
theorem rseq_stops (F : Fence) (n : Nat) (h7 : F.fn 75) (hro : F.round = none) (Bs : Nat) (w0 w : World) (hb : Boxed w0 Bs 58 (.slice none 0 0)) (hB : Below w0.heap.size w0 w) :
    SeqStopsK F n Tryd.prog 75 #[.pointer (some ⟨Bs, 0, none⟩)] (fun x : Nat => #[Value.int .i64 (x : Int)]) (Below w0.heap.size) (fun ys => ys = []) (fun _ => False) 0 w := fun l J Jx W hW _ _ hY h0 => by
  have hB2 : Below w0.heap.size w0 W := hB.trans (hW.mono hB.size)
  have hc := (hB2.cell (p := ⟨Bs, 0, none⟩) hb.lt).trans hb.cell
  exact (rseq_none F n h7 hro l Bs J W hc h0).mono fun e W' ⟨he, hj⟩ => ⟨he, .inl ⟨_, rfl, hj⟩⟩
end Go.Proofs.YthnagihgjenimaaDoor
