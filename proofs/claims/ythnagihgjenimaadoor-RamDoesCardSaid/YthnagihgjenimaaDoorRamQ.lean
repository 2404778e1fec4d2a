/- ram: rows of bytes made; a row that is none of memory's grows. -/
import Derived.Test.YthnagihgjenimaaDoorRamL
import Derived.Test.YthnagihgjenimaaDoorRamS
import Derived.Deep.OwnRows
import Derived.Lib.ConvBytes
namespace Go.Proofs.YthnagihgjenimaaDoor
open Go.RowKit
set_option linter.unusedVariables false
set_option linter.unusedSimpArgs false
theorem infoB5 : (Tryd.prog.info? 5).map (fun i => (i.zero, i.size, i.bytes)) = some (some (.int .u8 0), 1, 1) := by kernel_rfl
theorem made_zb (n : Nat) : madeCells #[.int .u8 0] n = (nb (List.replicate n 0)).toArray := by
  apply Array.ext'
  rw [toList_madeCells_one]
  simp [nb]
theorem make_zb (n : Nat) (hn : n ≤ 65600) (w : World) : (Instr.makeSlice 56 (.int .i64 (n : Int)) (.int .i64 (n : Int))).run Tryd.prog w = .ok (.slice (some ⟨w.heap.size, 0, none⟩) n n) (w.alloc (.cells (nb (List.replicate n 0)).toArray 5)) := by
  rw [← made_zb]
  exact run_make_row' 56 5 (.int .u8 0) 1 Tryd.underlying56 infoB5 rfl .i64 .i64 n (by omega) (by omega) w
theorem blk_slb {w : World} {g c : Nat} {xs : List Int} (h : Blk w g 5 (nb xs)) : SlB w (.slice (some ⟨g, 0, none⟩) xs.length c) xs :=
  ⟨_, c, rfl, rfl, fun i hi => ⟨_, rfl, by
    rw [add0, h.cell (i := i) (v := .int .u8 xs[i]) (by simp [nb, hi])]
    simp [hi]⟩⟩
/-- []byte(s) -/
theorem conv_new (xs : List Int) (hb : Bytes xs) (w : World) : ∃ c w', (convert 9 56 (.string (strOfNums xs))).run Tryd.prog w = .ok (.slice (some ⟨w.heap.size, 0, none⟩) xs.length c) w' ∧ SlB w' (.slice (some ⟨w.heap.size, 0, none⟩) xs.length c) xs ∧ Keeps (fun _ => False) w w' ∧ w.heap.size < w'.heap.size := by
  have hsz : (strOfNums xs).size = xs.length := by
    have := congrArg List.length (strOfNums_data xs)
    simpa using this
  have h := _root_.Go.Lib.run_convert_string_bytes (P := Tryd.prog) w 9 56 5 (strOfNums xs) Tryd.underlying9 Tryd.underlying56 Tryd.underlying5
  rw [hsz] at h
  refine ⟨_, _, h, ⟨_, _, rfl, rfl, fun i hi => ⟨_, rfl, ?_⟩⟩, ?_, by rw [_root_.Go.Lib.bytesWorld_size]; omega⟩
  · rw [add0, _root_.Go.Lib.bytesWorld_cell w 5 _ i (by rw [hsz]; exact hi), strOfNums_data]
    have hx := hb _ (List.getElem_mem hi)
    simp [hi]
    omega
  · have h0 : Keeps (fun _ => False) w (w.drew.alloc (.cells (_root_.Go.Lib.bytesCells w 5 (strOfNums xs)) 5)) := ((Keeps.refl (fun _ => False) w).drew).alloc _
    refine ⟨?_, ?_, ?_, by rw [_root_.Go.Lib.bytesWorld_size]; omega, fun k hk _ => _root_.Go.Lib.bytesWorld_at_old w 5 _ k hk⟩
    · unfold _root_.Go.Lib.bytesWorld World.freeze; split <;> exact h0.os
    · unfold _root_.Go.Lib.bytesWorld World.freeze; split <;> exact h0.tape
    · unfold _root_.Go.Lib.bytesWorld World.freeze; split <;> exact h0.output
/-- A row that is none of memory's grows. -/
theorem RAt.grow {w w' : World} {L : RL} {D : AD} {hs : List HM} {base e size n : Nat} {v : Value} {xs : List Value} (h : RAt w L D hs) (ho : w.ownsRow base e size v n xs) (hg : w.grownBy w' v.ownBlock) (h1 : e ≠ 115) (h2 : e ≠ 98) (h3 : e ≠ 101) (h4 : e ≠ 130) (h5 : e ≠ 3) (h6 : e ≠ 5) : RAt w' L D hs := by
  have K := Keeps.of_grown hg
  obtain ⟨f, a1, a2⟩ := h.at'
  obtain ⟨f', a3, a4⟩ := h.th
  obtain ⟨hk, hl⟩ := h.li.blks
  refine ⟨K.blk h.obj (own_ne_blk h.obj ho h1), ⟨f, a1.keep K (map_ne_own a1 ho), a2⟩, ⟨f', a3.keep K (map_ne_own a3 ho), a4⟩, ar_keep h.ar K (own_ne_blk h.ar.obj ho h2) (own_ne_own ho h.ar.row h3 _ · rfl), ?_, h.lN, h.ln, h.inv, fun x hx => ?_, h.mm⟩
  · refine li_keep h.li K (own_ne_blk hk ho h4) fun b hb => ?_
    obtain ⟨cs, hc⟩ := hl b hb
    exact own_ne_blk hc ho h5
  · exact (h.rd x hx).keep K (fun g hg e => own_ne_own (h.rd x hx).k ho (Ne.symm h6) g hg e) (fun g hg e => own_ne_own (h.rd x hx).v ho (Ne.symm h6) g hg e)
theorem own_form {w : World} {base e size n : Nat} {v : Value} {xs : List Value} (h : w.ownsRow base e size v n xs) : ∃ a c, v = .slice a n c := by
  rcases h.2 with ⟨rfl, rfl⟩ | ⟨g, cap, cur, rfl, _⟩
  · exact ⟨_, _, rfl⟩
  · exact ⟨_, _, rfl⟩
theorem own_formS {w : World} {base e size n : Nat} {v : Value} {xs : List Value} (h : w.ownsRow base e size v n xs) (hn : 0 < n) : ∃ g c, v = .slice (some ⟨g, 0, none⟩) n c := by
  rcases h.2 with ⟨rfl, rfl⟩ | ⟨g, cap, cur, rfl, _⟩
  · omega
  · exact ⟨_, _, rfl⟩
end Go.Proofs.YthnagihgjenimaaDoor
