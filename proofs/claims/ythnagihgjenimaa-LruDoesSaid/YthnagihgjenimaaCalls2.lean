/- The lists' calls: Where, Touch, Remove, Len. -/
import Derived.Test.YthnagihgjenimaaCalls
namespace Go.Proofs.Ythnagihgjenimaa
open Go.RowKit
set_option linter.unusedVariables false

/-- What Where answers. -/
def two (a e : Int) : Value := .tuple #[.int .i64 a, .int .i64 e]

theorem where_bad (k : LK) (w : World) (ls : Nat → List Nat) (h : k.Has w ls) (x : Int) (ho : ¬ okLN k 0 x) :
    Calls Try.prog 18 #[k.ptr, .int .i64 x] w fun e w' => e = .returned (two 0 2) ∧ w = w' := by
  have H := Lib.hid h
  have HO := Lib.hid ho
  clear h ho
  go_enter Try.func18, Try.ntmps18
  go_wp2_with (go_at_call 27; refine (ready_no k _ ls H.out 0 x HO.out).mono ?_; rintro e w' ⟨rfl, rfl⟩)
  go_ret2
  exact ⟨rfl, rfl⟩

theorem where_none (k : LK) (w : World) (ls : Nat → List Nat) (h : k.Has w ls) (x : Nat) (hx : x < k.N) (hf : ∀ j, j < k.n → x ∉ ls j) :
    Calls Try.prog 18 #[k.ptr, .int .i64 x] w fun e w' => e = .returned (two 0 4) ∧ w = w' := by
  have H := Lib.hid h
  have HO : Hid (okLN k 0 x) := Lib.hid ⟨by omega, by have := h.bounds; omega, by omega, by omega⟩
  obtain ⟨nx, ah, wh, ln, h1, h2⟩ := h
  obtain ⟨o0, o1, o2, o3⟩ := h1.fields
  have c1 := h1.getWh (i := x) hx
  have c2 := h2.out x hx hf
  dsimp only [LK.full] at o0 o1 o2 o3 c1 c2
  rw [c2] at c1
  clear h1 h2 c2 hf
  unfold LK.ptr at *
  go_enter Try.func18, Try.ntmps18
  go_wp2_with (go_at_call 27; refine (ready_ok k _ ls H.out 0 x HO.out).mono ?_; rintro e w' ⟨rfl, rfl⟩)
  go_ret2
  exact ⟨rfl, rfl⟩

theorem where_in (k : LK) (w : World) (ls : Nat → List Nat) (h : k.Has w ls) (x j : Nat) (hj : j < k.n) (hxj : x ∈ ls j) :
    Calls Try.prog 18 #[k.ptr, .int .i64 x] w fun e w' => e = .returned (two j 0) ∧ w = w' := by
  have H := Lib.hid h
  have hx := h.mem_lt hj hxj
  have HO : Hid (okLN k 0 x) := Lib.hid ⟨by omega, by have := h.bounds; omega, by omega, by omega⟩
  obtain ⟨nx, ah, wh, ln, h1, h2⟩ := h
  obtain ⟨o0, o1, o2, o3⟩ := h1.fields
  have c1 := h1.getWh (i := x) hx
  have c2 := h2.inn j x hj hxj
  dsimp only [LK.full] at o0 o1 o2 o3 c1 c2
  rw [c2] at c1
  have ht : ((j : Int) == -1) = false := by rw [beq_eq_false_iff_ne]; omega
  clear h1 h2 c2 hxj
  unfold LK.ptr at *
  go_enter Try.func18, Try.ntmps18
  go_wp2_with (go_at_call 27; refine (ready_ok k _ ls H.out 0 x HO.out).mono ?_; rintro e w' ⟨rfl, rfl⟩)
  go_ret2
  exact ⟨rfl, rfl⟩

theorem touch_bad (k : LK) (w : World) (ls : Nat → List Nat) (h : k.Has w ls) (x : Int) (ho : ¬ okLN k 0 x) :
    Calls Try.prog 13 #[k.ptr, .int .i64 x] w fun e w' => e = .returned (.int .i64 2) ∧ w = w' := by
  have H := Lib.hid h
  have HO := Lib.hid ho
  clear h ho
  go_enter Try.func13, Try.ntmps13
  go_wp2_with (go_at_call 18; refine (where_bad k _ ls H.out x HO.out).mono ?_; unfold two; rintro e w' ⟨rfl, rfl⟩)
  go_ret
  exact ⟨rfl, rfl⟩

theorem touch_none (k : LK) (w : World) (ls : Nat → List Nat) (h : k.Has w ls) (x : Nat) (hx : x < k.N) (hf : ∀ j, j < k.n → x ∉ ls j) :
    Calls Try.prog 13 #[k.ptr, .int .i64 x] w fun e w' => e = .returned (.int .i64 4) ∧ w = w' := by
  have H := Lib.hid h
  have HF := Lib.hid hf
  clear h hf
  go_enter Try.func13, Try.ntmps13
  go_wp2_with (go_at_call 18; refine (where_none k _ ls H.out x hx HF.out).mono ?_; unfold two; rintro e w' ⟨rfl, rfl⟩)
  go_ret
  exact ⟨rfl, rfl⟩

theorem remove_bad (k : LK) (w : World) (ls : Nat → List Nat) (h : k.Has w ls) (x : Int) (ho : ¬ okLN k 0 x) :
    Calls Try.prog 14 #[k.ptr, .int .i64 x] w fun e w' => e = .returned (.int .i64 2) ∧ w = w' := by
  have H := Lib.hid h
  have HO := Lib.hid ho
  clear h ho
  go_enter Try.func14, Try.ntmps14
  go_wp2_with (go_at_call 18; refine (where_bad k _ ls H.out x HO.out).mono ?_; unfold two; rintro e w' ⟨rfl, rfl⟩)
  go_ret
  exact ⟨rfl, rfl⟩

theorem remove_none (k : LK) (w : World) (ls : Nat → List Nat) (h : k.Has w ls) (x : Nat) (hx : x < k.N) (hf : ∀ j, j < k.n → x ∉ ls j) :
    Calls Try.prog 14 #[k.ptr, .int .i64 x] w fun e w' => e = .returned (.int .i64 4) ∧ w = w' := by
  have H := Lib.hid h
  have HF := Lib.hid hf
  clear h hf
  go_enter Try.func14, Try.ntmps14
  go_wp2_with (go_at_call 18; refine (where_none k _ ls H.out x hx HF.out).mono ?_; unfold two; rintro e w' ⟨rfl, rfl⟩)
  go_ret
  exact ⟨rfl, rfl⟩

/-- Taking x out of list j, in words of lists. -/
theorem out_call (k : LK) (w : World) (ls : Nat → List Nat) (h : k.Has w ls) (x j : Nat) (xs ys : List Nat) (hj : j < k.n) (hl : ls j = xs ++ x :: ys) :
    Calls Try.prog 29 #[k.ptr, .int .i64 x] w (k.Next (.int .i64 (j : Int)) (upd ls j (xs ++ ys)) w) := by
  have hx : x ∈ ls j := by rw [hl]; simp
  obtain ⟨nx, ah, wh, ln, h1, h2⟩ := h
  have hln : ln.getD j 0 = (ls j).length := h2.ln j hj
  have hle := h2.len_le hj
  have hN := h1.N2
  obtain ⟨l1, l2⟩ := h2.links hj hl
  obtain ⟨b1, b2⟩ := h2.links_lt hj hl
  refine (out_any _ w h1 j x hj (h2.lt j x hj hx) (h2.inn j x hj hx) (by rw [l2]; exact b2) (by rw [l1]; exact b1) ?_ ?_).mono ?_
  · show 1 ≤ ln.getD j 0
    rw [hln, hl]; simp; omega
  · show ln.getD j 0 ≤ 65536
    rw [hln]; exact Nat.le_trans hle hN
  · rintro e w' ⟨rfl, hat, hk⟩
    exact ⟨rfl, ⟨_, _, _, _, hat, rep_out h2 hj hl⟩, hk⟩

theorem remove_ok (k : LK) (w : World) (ls : Nat → List Nat) (h : k.Has w ls) (x j : Nat) (xs ys : List Nat) (hj : j < k.n) (hl : ls j = xs ++ x :: ys) :
    Calls Try.prog 14 #[k.ptr, .int .i64 x] w (k.Next (.int .i64 0) (upd ls j (xs ++ ys)) w) := by
  have H := Lib.hid h
  have HL := Lib.hid hl
  have HX : Hid (x ∈ ls j) := Lib.hid (by rw [hl]; simp)
  clear h hl
  go_enter Try.func14, Try.ntmps14
  go_wp2_with (first | (go_at_call 18; refine (where_in k _ ls H.out x j hj HX.out).mono ?_; unfold two; rintro e w' ⟨rfl, rfl⟩) | (go_at_call 29; refine (out_call k _ ls H.out x j xs ys hj HL.out).mono ?_; rintro e w' ⟨rfl, hat, hkp⟩))
  go_ret
  exact ⟨rfl, hat, hkp⟩

theorem put_call (k : LK) (w : World) (ls : Nat → List Nat) (h : k.Has w ls) (i x : Nat) (hi : i < k.n) (hx : x < k.N) (hf : ∀ j, j < k.n → x ∉ ls j) :
    Calls Try.prog 28 #[k.ptr, .int .i64 i, .int .i64 x] w (k.Next (.tuple #[]) (upd ls i (x :: ls i)) w) := by
  obtain ⟨nx, ah, wh, ln, h1, h2⟩ := h
  have hs : nx.getD (k.N + i) 0 < k.N + k.n := by
    have e : nx.getD (k.N + i) 0 = (ls i).head?.getD (k.N + i) := h2.head_first (i := i) hi
    rw [e]
    exact headD_lt h2 hi
  have hl : ln.getD i 0 ≤ 65536 := by
    have e : ln.getD i 0 = (ls i).length := h2.ln i hi
    rw [e]
    exact Nat.le_trans (h2.len_le hi) h1.N2
  refine (put_any _ w h1 i x hi hx hs hl).mono ?_
  rintro e w' ⟨rfl, hat, hkp⟩
  exact ⟨rfl, ⟨_, _, _, _, hat, rep_put h2 hi hx hf⟩, hkp⟩

theorem upd_upd (ls : Nat → List Nat) (i : Nat) (a b : List Nat) : upd (upd ls i a) i b = upd ls i b := by
  funext j; unfold upd; split <;> simp_all

theorem not_in_upd {k : LK} {w : World} {ls : Nat → List Nat} (h : k.Has w ls) {x j : Nat} {xs ys : List Nat} (hj : j < k.n) (hl : ls j = xs ++ x :: ys) :
    ∀ i, i < k.n → x ∉ upd ls j (xs ++ ys) i := by
  intro i hi hm
  have hx : x ∈ ls j := by rw [hl]; simp
  by_cases e : i = j
  · subst e
    rw [upd_same] at hm
    have hnd := h.nodup hj
    rw [hl, List.nodup_append] at hnd
    rcases List.mem_append.1 hm with h' | h'
    · exact hnd.2.2 x h' x (List.mem_cons_self ..) rfl
    · exact (List.nodup_cons.1 hnd.2.1).1 h'
  · rw [upd_ne _ _ e] at hm
    exact e (h.apart hi hj hm hx)

theorem touch_ok (k : LK) (w : World) (ls : Nat → List Nat) (h : k.Has w ls) (x j : Nat) (xs ys : List Nat) (hj : j < k.n) (hl : ls j = xs ++ x :: ys) :
    Calls Try.prog 13 #[k.ptr, .int .i64 x] w (k.Next (.int .i64 0) (upd ls j (x :: (xs ++ ys))) w) := by
  have H := Lib.hid h
  have HL := Lib.hid hl
  have hxm : x ∈ ls j := by rw [hl]; simp
  have hxN := h.mem_lt hj hxm
  have HX := Lib.hid hxm
  have HF := Lib.hid (not_in_upd h hj hl)
  clear h hl hxm
  go_enter Try.func13, Try.ntmps13
  go_wp2_with (go_at_call 18; refine (where_in k _ ls H.out x j hj HX.out).mono ?_; unfold two; rintro e w' ⟨rfl, rfl⟩)
  refine (out_call k _ ls H.out x j xs ys hj HL.out).mono ?_
  rintro e w1 ⟨rfl, hat, hkp⟩
  have HA := Lib.hid hat
  have HK := Lib.hid hkp
  clear hat hkp
  go_wp2_with fail
  refine (put_call k _ _ HA.out j x hj hxN HF.out).mono ?_
  rintro e w2 ⟨rfl, hat, hkp⟩
  go_wp2_with fail
  go_ret
  rw [upd_upd, upd_same] at hat
  exact ⟨rfl, hat, HK.out.trans hkp⟩

theorem len_bad (k : LK) (w : World) (ls : Nat → List Nat) (h : k.Has w ls) (i : Int) (ho : ¬ okLN k i 0) :
    Calls Try.prog 12 #[k.ptr, .int .i64 i] w fun e w' => e = .returned (.int .i64 0) ∧ w = w' := by
  have H := Lib.hid h
  have HO := Lib.hid ho
  clear h ho
  go_enter Try.func12, Try.ntmps12
  go_wp2_with (go_at_call 27; refine (ready_no k _ ls H.out i 0 HO.out).mono ?_; rintro e w' ⟨rfl, rfl⟩)
  go_ret
  exact ⟨rfl, rfl⟩

theorem len_ok (k : LK) (w : World) (ls : Nat → List Nat) (h : k.Has w ls) (i : Nat) (hi : i < k.n) :
    Calls Try.prog 12 #[k.ptr, .int .i64 i] w fun e w' => e = .returned (.int .i64 ((ls i).length : Int)) ∧ w = w' := by
  have H := Lib.hid h
  have HO : Hid (okLN k i 0) := Lib.hid ⟨by omega, by omega, by omega, by have := h.bounds; omega⟩
  obtain ⟨nx, ah, wh, ln, h1, h2⟩ := h
  obtain ⟨o0, o1, o2, o3⟩ := h1.fields
  have c1 := h1.getLn (i := i) hi
  have c2 := h2.ln i hi
  dsimp only [LK.full] at o0 o1 o2 o3 c1 c2
  rw [c2] at c1
  clear h1 h2 c2
  unfold LK.ptr at *
  go_enter Try.func12, Try.ntmps12
  go_wp2_with (go_at_call 27; refine (ready_ok k _ ls H.out i 0 HO.out).mono ?_; rintro e w' ⟨rfl, rfl⟩)
  go_ret
  exact ⟨rfl, rfl⟩
end Go.Proofs.Ythnagihgjenimaa
