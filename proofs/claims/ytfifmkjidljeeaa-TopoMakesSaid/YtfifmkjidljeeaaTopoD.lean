/- Topo: Link, Back. -/
import Derived.Test.YtfifmkjidljeeaaTopoC
import Derived.Deep.QuietTactic
namespace Go.Proofs.Ytfifmkjidljeeaa
open Go.RowKit Go.Shelf

set_option maxHeartbeats 400000 in
theorem link_yes (q : Nat) (nodes : Int) (ls : List Lk) (n : Nat) (l : Lk) (w : World) (h : TMap w q nodes ls) (hn : ls[n]? = some l) :
    Calls Try.prog 13 #[.pointer (some ⟨q, 0, none⟩), .int .i64 n] w fun e w' => e = .returned (.tuple #[l.val, .int .i64 0]) ∧ Below w.heap.size w w' := by
  obtain ⟨v, r, h0, h1, h2, h3, h4⟩ := h
  clear h4
  have hqs : q < w.heap.size := World.block_lt_of_cell? w ⟨q, 0, none⟩ h0
  have hlt : n < ls.length := (List.getElem?_eq_some_iff.1 hn).1
  rcases h3 with ⟨rfl, rfl⟩ | ⟨b, o, c, rfl, hc1, hc2, hrow⟩
  · simp at hn
  · obtain ⟨c0, c1, c2, c3, c4, c5, c6, c7⟩ := LkAt.ofRow hrow hn
    have hbs : b < w.heap.size := World.block_lt_of_cell? w ⟨b, o + n * 8, none⟩ c0
    have hq : wi n 0 (ls.length - 1) = true := by simp [wi]; omega
    have HN := Lib.hid hn
    clear hn hrow
    unfold maxLen at hc2
    have hltz : (n : Int) < (ls.length : Int) := by omega
    go_enter Try.func13, Try.ntmps13
    go_wp2_with (first | (go_at_call 33; refine (none_no q r _ (by go_simp)).mono ?_; rintro e w' ⟨rfl, rfl⟩) | (go_at_call 25; refine (within_int _ _ _ _).mono ?_; rintro e w' ⟨rfl, rfl⟩))
    exact bodyPost_ret (v := .tuple #[.agg #[.int .i64 l.a, .int .i64 l.b, .int .i64 l.c, .int .i64 l.d, .int .i64 l.e, .int .i64 l.f, .int .i64 l.g, .int .i64 l.h], .int .i64 0]) (by simp [results, Try.results13, go_sem]) rfl ⟨rfl, bl_alloc (Below.refl _ _) _⟩
set_option maxHeartbeats 400000 in
theorem link_no (q : Nat) (nodes : Int) (ls : List Lk) (n : Int) (w : World) (h : TMap w q nodes ls) (hn : n < 0 ∨ (ls.length : Int) ≤ n) :
    Calls Try.prog 13 #[.pointer (some ⟨q, 0, none⟩), .int .i64 n] w fun e w' => e = .returned (.tuple #[Lk0.val, .int .i64 4]) ∧ Below w.heap.size w w' := by
  obtain ⟨v, r, h0, h1, h2, h3, h4⟩ := h
  clear h4
  have hqs : q < w.heap.size := World.block_lt_of_cell? w ⟨q, 0, none⟩ h0
  have hl := h3.len
  unfold maxLen at hl
  have hq : wi n 0 (ls.length - 1) = false := by simp [wi]; omega
  have hv : ∃ A c, v = .slice A ls.length c := by
    rcases h3 with ⟨rfl, rfl⟩ | ⟨b, o, c, rfl, _⟩
    · exact ⟨_, _, rfl⟩
    · exact ⟨_, _, rfl⟩
  clear h3
  obtain ⟨A, c, rfl⟩ := hv
  go_enter Try.func13, Try.ntmps13
  go_wp2_with (first | (go_at_call 33; refine (none_no q r _ (by go_simp)).mono ?_; rintro e w' ⟨rfl, rfl⟩) | (go_at_call 25; refine (within_int _ _ _ _).mono ?_; rintro e w' ⟨rfl, rfl⟩))
  exact bodyPost_ret (v := .tuple #[.agg #[.int .i64 0, .int .i64 0, .int .i64 0, .int .i64 0, .int .i64 0, .int .i64 0, .int .i64 0, .int .i64 0], .int .i64 4]) (by simp [results, Try.results13, go_sem]) rfl ⟨rfl, bl_alloc (Below.refl _ _) _⟩
set_option maxHeartbeats 400000 in
theorem back_yes (q : Nat) (nodes : Int) (ls : List Lk) (n : Nat) (l : Lk) (w : World) (h : TMap w q nodes ls) (hn : ls[n]? = some l) :
    Calls Try.prog 23 #[.pointer (some ⟨q, 0, none⟩), .int .i64 n] w fun e w' => e = .returned (.tuple #[(btw ls l.b l.a).getD (.int .i64 0), .int .i64 0]) ∧ Below w.heap.size w w' := by
  unfold btw
  generalize hrv : (mget (idxs ls) (l.b, l.a)).getD (.int .i64 0) = rv
  have HRV := Lib.hid hrv
  clear hrv
  go_enter Try.func23, Try.ntmps23
  go_wp2_with fail
  refine (link_yes q nodes ls n l _ h hn).mono ?_
  rintro e w1 ⟨rfl, hb⟩
  obtain ⟨v, r, h0, h1, h2, h3, h4⟩ := h.below hb
  have hqs : q < w1.heap.size := World.block_lt_of_cell? w1 ⟨q, 0, none⟩ h0
  have hl := fun nq => run_look klaw2 Try.underlying55 (zeroI _) (h4.below (bl_drewN (bl_alloc (Below.refl _ _) (.cells #[.int .i64 l.a, .int .i64 l.b, .int .i64 l.c, .int .i64 l.d, .int .i64 l.e, .int .i64 l.f, .int .i64 l.g, .int .i64 l.h] 23)) nq)) (l.b, l.a) false
  have hl0 := hl 0
  simp only [enc2, Bool.false_eq_true, if_false] at hl hl0
  rw [HRV.out] at hl0
  have hl : ∀ nq, _ := fun nq => (hl nq).trans (by rw [HRV.out])
  change Sem.run _ _ (w1.alloc _) = Result.ok _ (w1.alloc _) at hl0
  clear h3 h4 h hn
  go_wp2_with fail
  go_quiet (fail)
  go_wp2
  go_ret2
  exact ⟨by rw [← HRV.out]; rfl, by repeat (first | assumption | refine bl_alloc ?_ _ | refine bl_drewN ?_ _ | refine bl_drew ?_)⟩
set_option maxHeartbeats 400000 in
theorem back_no (q : Nat) (nodes : Int) (ls : List Lk) (n : Int) (w : World) (h : TMap w q nodes ls) (hn : n < 0 ∨ (ls.length : Int) ≤ n) :
    Calls Try.prog 23 #[.pointer (some ⟨q, 0, none⟩), .int .i64 n] w fun e w' => e = .returned (.tuple #[.int .i64 0, .int .i64 4]) ∧ Below w.heap.size w w' := by
  go_enter Try.func23, Try.ntmps23
  go_wp2_with fail
  refine (link_no q nodes ls n _ h hn).mono ?_
  rintro e w1 ⟨rfl, hb⟩
  go_wp2
  go_ret2
  exact ⟨rfl, bl_alloc hb _⟩
end Go.Proofs.Ytfifmkjidljeeaa
