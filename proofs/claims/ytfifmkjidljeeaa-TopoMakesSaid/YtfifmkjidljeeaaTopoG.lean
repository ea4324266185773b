/- Topo: the document's Right, and the statement TopoChecks' walk. -/
import Derived.Test.YtfifmkjidljeeaaTopoF
import Derived.Test.YtfifmkjidljeeaaOpen
namespace Go.Proofs.Ytfifmkjidljeeaa
open Go.RowKit Go.Shelf

theorem ret_bool {a b : Bool} (h : a = b) : Ending.returned (.bool a) = Ending.returned (.bool b) := by rw [h]
/-- All eight are whole numbers of 64 bits. -/
def Lk.wf (l : Lk) : Prop := (Lit.int .i64 l.a).wf = true ∧ (Lit.int .i64 l.b).wf = true ∧ (Lit.int .i64 l.c).wf = true ∧ (Lit.int .i64 l.d).wf = true ∧ (Lit.int .i64 l.e).wf = true ∧ (Lit.int .i64 l.f).wf = true ∧ (Lit.int .i64 l.g).wf = true ∧ (Lit.int .i64 l.h).wf = true
theorem lk_of {cs : List Value} (h : CKs [.int .i64, .int .i64, .int .i64, .int .i64, .int .i64, .int .i64, .int .i64, .int .i64] cs) : ∃ l : Lk, cs = l.cells ∧ l.wf := by
  obtain ⟨a, _, rfl, w1, h⟩ := ck_int h
  obtain ⟨b, _, rfl, w2, h⟩ := ck_int h
  obtain ⟨c, _, rfl, w3, h⟩ := ck_int h
  obtain ⟨d, _, rfl, w4, h⟩ := ck_int h
  obtain ⟨e, _, rfl, w5, h⟩ := ck_int h
  obtain ⟨f, _, rfl, w6, h⟩ := ck_int h
  obtain ⟨g, _, rfl, w7, h⟩ := ck_int h
  obtain ⟨i, _, rfl, w8, h⟩ := ck_int h
  obtain rfl := ck_nil h
  exact ⟨⟨a, b, c, d, e, f, g, i⟩, rfl, w1, w2, w3, w4, w5, w6, w7, w8⟩
def rightB (l : Lk) (n : Int) : Bool :=
  decide ((0 ≤ l.a ∧ l.a < n ∧ 0 ≤ l.b ∧ l.b < n ∧ l.a ≠ l.b ∧ n ≤ 16) ∧ 1 ≤ l.c ∧ l.c ≤ 1000000 ∧ 0 ≤ l.d ∧ l.d ≤ l.c ∧ 0 ≤ l.e ∧ l.e ≤ 1000 ∧ 1 ≤ l.f ∧ l.f ≤ 2000 ∧ 0 ≤ l.g ∧ l.g ≤ 1000000000 ∧ 0 ≤ l.h ∧ l.h ≤ 1000000)
theorem right_ok (l : Lk) (n : Int) : okLink l n = rightB l n := by
  have e : (List.range 4).any (flawB l n) = (flaw1B l n || (flaw2B l || (flaw3B l || flaw4B l))) := by simp [List.range, List.range.loop, flawB]
  unfold okLink
  rw [e, Bool.eq_iff_iff]
  simp only [flaw1B, flaw2B, flaw3B, flaw4B, wi, rightB, Bool.and_eq_true, Bool.not_eq_true', Bool.or_eq_false_iff, Bool.not_eq_false', decide_eq_true_eq, beq_eq_false_iff_ne]
  constructor
  · intro h; obtain ⟨h1, ⟨⟨h2, h3⟩, h4⟩, ⟨h5, h6⟩, ⟨h7, h8⟩, h9, h10⟩ := h
    refine ⟨⟨?_, ?_, ?_, ?_, h4, ?_⟩, ?_⟩ <;> omega
  · intro h; obtain ⟨⟨h1, h2, h3, h4, h5, h6⟩, h7⟩ := h
    refine ⟨?_, ⟨⟨?_, ?_⟩, h5⟩, ?_⟩ <;> omega

set_option maxHeartbeats 1000000 in
theorem right_any (l : Lk) (n : Int) (w : World) :
    Calls Try.prog 9 #[.agg #[.int .i64 l.a, .int .i64 l.b, .int .i64 l.c, .int .i64 l.d, .int .i64 l.e, .int .i64 l.f, .int .i64 l.g, .int .i64 l.h], .int .i64 n] w fun e w' => e = .returned (.bool (rightB l n)) ∧ Below w.heap.size w w' := by
  go_enter Try.func9, Try.ntmps9
  go_wp2
  all_goals go_ret
  all_goals refine ⟨ret_bool ?_, bl_alloc (Below.refl _ _) _⟩
  all_goals (unfold rightB; rw [Bool.eq_iff_iff])
  all_goals (first | (simp only [decide_eq_true_eq, Bool.false_eq_true, false_iff]; omega) | (simp only [decide_eq_true_eq]; omega))

set_option maxHeartbeats 400000 in
theorem topoChecks_any (l : Lk) (n : Int) (w : World) :
    Calls Try.prog 3 #[.agg #[.int .i64 l.a, .int .i64 l.b, .int .i64 l.c, .int .i64 l.d, .int .i64 l.e, .int .i64 l.f, .int .i64 l.g, .int .i64 l.h], .int .i64 n] w fun e w' => e = .returned (.bool true) ∧ Below w.heap.size w w' := by
  cases hq : okLink l n
  all_goals
    have HQ := Lib.hid hq
    have HR := Lib.hid (right_ok l n)
    clear hq
    go_enter Try.func3, Try.ntmps3
    go_wp2_with fail
    refine (check_any l n _).mono ?_
    rintro e w1 ⟨rfl, hb1⟩
    rw [HQ.out]
    have hL : LkAt w1 w.heap.size 0 l := LkAt.below (by unfold LkAt; go_simp) hb1
    obtain ⟨c0, c1, c2, c3, c4, c5, c6, c7⟩ := hL
    go_wp2_with fail
    refine (right_any l n _).mono ?_
    rintro e w2 ⟨rfl, hb2⟩
    rw [← HR.out, HQ.out]
    clear c0 c1 c2 c3 c4 c5 c6 c7
    go_wp2_with (go_at_call 10; refine (known_any _).mono ?_; rintro e w3 ⟨rfl, hb3⟩)
    go_ret
    exact ⟨rfl, ((bl_alloc (Below.refl _ _) _).trans (hb1.mono (by simp))).trans ((bl_then hb2 hb3).mono (by have := hb1.size; simp at this; omega))⟩
end Go.Proofs.Ytfifmkjidljeeaa
