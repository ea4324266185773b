/- Topo: what a map that is not there answers. -/
import Derived.Test.YtfifmkjidljeeaaTopoD
namespace Go.Proofs.Ytfifmkjidljeeaa
open Go.RowKit
set_option linter.unusedVariables false
/-- No map: none, or one that was not made. -/
def NoMap (w : World) (v : Value) : Prop := v = .pointer none ∨ ∃ b, v = .pointer (some ⟨b, 0, none⟩) ∧ w.cell? ⟨b, 2, none⟩ = some (.map none)
theorem NoMap.below {w W : World} {v : Value} (h : NoMap w v) (hb : Below w.heap.size w W) : NoMap W v := by
  rcases h with h | ⟨b, h, hc⟩
  · exact Or.inl h
  · exact Or.inr ⟨b, h, bl_cell hb hc⟩
set_option maxHeartbeats 400000 in
theorem none_yes (v : Value) (w : World) (h : NoMap w v) :
    Calls Try.prog 33 #[v] w fun e w' => e = .returned (.bool true) ∧ w = w' := by
  rcases h with rfl | ⟨b, rfl, hc⟩
  · exact none_nil w
  · have k1 := fun (w : World) (a : Option Nat) => run_eql_map_nil (P := Try.prog) w 55 _ _ a Try.underlying55
    go_enter Try.func33, Try.ntmps33
    go_wp2
    go_ret
    exact ⟨rfl, rfl⟩
theorem NoMap.form {w : World} {v : Value} (h : NoMap w v) : ∃ a, v = .pointer a := by
  rcases h with rfl | ⟨b, rfl, _⟩ <;> exact ⟨_, rfl⟩
set_option maxHeartbeats 400000 in
theorem len_none (v : Value) (w : World) (h : NoMap w v) :
    Calls Try.prog 14 #[v] w fun e w' => e = .returned (.int .i64 0) ∧ w = w' := by
  obtain ⟨a, rfl⟩ := h.form
  have H := Lib.hid h
  clear h
  go_enter Try.func14, Try.ntmps14
  go_wp2_with (go_at_call 33; refine (none_yes _ _ H.out).mono ?_; rintro e w' ⟨rfl, rfl⟩)
  go_ret
  exact ⟨rfl, rfl⟩
set_option maxHeartbeats 400000 in
theorem nodes_none (v : Value) (w : World) (h : NoMap w v) :
    Calls Try.prog 16 #[v] w fun e w' => e = .returned (.int .i64 0) ∧ w = w' := by
  obtain ⟨a, rfl⟩ := h.form
  have H := Lib.hid h
  clear h
  go_enter Try.func16, Try.ntmps16
  go_wp2_with (go_at_call 33; refine (none_yes _ _ H.out).mono ?_; rintro e w' ⟨rfl, rfl⟩)
  go_ret
  exact ⟨rfl, rfl⟩
set_option maxHeartbeats 400000 in
theorem between_none (v : Value) (x y : Int) (w : World) (h : NoMap w v) :
    Calls Try.prog 12 #[v, .int .i64 x, .int .i64 y] w fun e w' => e = .returned (.tuple #[.int .i64 0, .bool false]) ∧ w = w' := by
  obtain ⟨a, rfl⟩ := h.form
  have H := Lib.hid h
  clear h
  go_enter Try.func12, Try.ntmps12
  go_wp2_with (go_at_call 33; refine (none_yes _ _ H.out).mono ?_; rintro e w' ⟨rfl, rfl⟩)
  go_ret2
  exact ⟨rfl, rfl⟩
/-- A link of zeros. -/
def lk0V : Value := .agg #[.int .i64 0, .int .i64 0, .int .i64 0, .int .i64 0, .int .i64 0, .int .i64 0, .int .i64 0, .int .i64 0]
set_option maxHeartbeats 400000 in
theorem link_none (v : Value) (n : Int) (w : World) (h : NoMap w v) :
    Calls Try.prog 13 #[v, .int .i64 n] w fun e w' => e = .returned (.tuple #[lk0V, .int .i64 1]) ∧ Below w.heap.size w w' := by
  obtain ⟨a, rfl⟩ := h.form
  have H := Lib.hid h
  clear h
  go_enter Try.func13, Try.ntmps13
  go_wp2_with (go_at_call 33; refine (none_yes _ _ (H.out.below (bl_alloc (Below.refl _ _) _))).mono ?_; rintro e w' ⟨rfl, rfl⟩)
  exact bodyPost_ret (v := .tuple #[.agg #[.int .i64 0, .int .i64 0, .int .i64 0, .int .i64 0, .int .i64 0, .int .i64 0, .int .i64 0, .int .i64 0], .int .i64 1]) (by simp [results, Try.results13, go_sem]) rfl ⟨rfl, by repeat (first | exact Below.refl _ _ | refine bl_alloc ?_ _ | refine bl_set ?_ (by simp) _)⟩
set_option maxHeartbeats 400000 in
theorem back_none (v : Value) (n : Int) (w : World) (h : NoMap w v) :
    Calls Try.prog 23 #[v, .int .i64 n] w fun e w' => e = .returned (.tuple #[.int .i64 0, .int .i64 1]) ∧ Below w.heap.size w w' := by
  obtain ⟨a, rfl⟩ := h.form
  have H := Lib.hid h
  clear h
  go_enter Try.func23, Try.ntmps23
  go_wp2_with fail
  refine (link_none _ n _ H.out).mono ?_
  rintro e w1 ⟨rfl, hb⟩
  unfold lk0V
  go_wp2
  go_ret2
  exact ⟨rfl, bl_alloc hb _⟩
set_option maxHeartbeats 400000 in
theorem terms_none (v : Value) (n : Int) (w : World) (h : NoMap w v) :
    Calls Try.prog 24 #[v, .int .i64 n] w fun e w' => e = .returned (.tuple #[.agg #[.int .i64 0, .int .i64 0], .int .i64 1]) ∧ Below w.heap.size w w' := by
  obtain ⟨a, rfl⟩ := h.form
  have H := Lib.hid h
  clear h
  go_enter Try.func24, Try.ntmps24
  go_wp2_with fail
  refine (link_none _ n _ (H.out.below (bl_alloc (Below.refl _ _) _))).mono ?_
  rintro e w1 ⟨rfl, hb⟩
  have hz : w.heap.size < w1.heap.size := by have := hb.size; simp at this; omega
  have c0 : w1.cell? ⟨w.heap.size, 0, none⟩ = some (.int .i64 0) := bl_cell hb (by go_simp)
  have c1 : w1.cell? ⟨w.heap.size, 1, none⟩ = some (.int .i64 0) := bl_cell hb (by go_simp)
  have f0 : w1.frozen? ⟨w.heap.size, 0, none⟩ = false := ((bl_cells hb).2 _ _ (by simp)).trans (by go_simp)
  have f1 : w1.frozen? ⟨w.heap.size, 1, none⟩ = false := ((bl_cells hb).2 _ _ (by simp)).trans (by go_simp)
  have HB := Lib.hid hb
  clear hb
  unfold lk0V
  go_wp2
  refine bodyPost_ret (v := .tuple #[.agg #[.int .i64 0, .int .i64 0], .int .i64 1]) (by simp [results, Try.results24, go_sem, hz, c0, c1]) rfl ⟨rfl, ?_⟩
  exact by
    have := (bl_alloc (Below.refl w.heap.size w) (.cells #[.int .i64 0, .int .i64 0] 61)).trans (HB.out.mono (by simp))
    repeat (first | exact this | refine bl_alloc ?_ _ | refine bl_set ?_ (by simp) _)
set_option maxHeartbeats 400000 in
theorem copy_none (v : Value) (w : World) (h : NoMap w v) :
    Calls Try.prog 20 #[v] w fun e w' => e = .returned (.pointer none) ∧ w = w' := by
  obtain ⟨a, rfl⟩ := h.form
  have H := Lib.hid h
  clear h
  go_enter Try.func20, Try.ntmps20
  go_wp2_with (go_at_call 33; refine (none_yes _ _ H.out).mono ?_; rintro e w' ⟨rfl, rfl⟩)
  go_ret
  exact ⟨rfl, rfl⟩
set_option maxHeartbeats 400000 in
theorem same_none (v u : Value) (w : World) (h : NoMap w v) (h2 : NoMap w u) :
    Calls Try.prog 19 #[v, u] w fun e w' => e = .returned (.bool true) ∧ w = w' := by
  obtain ⟨a, rfl⟩ := h.form
  obtain ⟨b, rfl⟩ := h2.form
  have H := Lib.hid h
  have H2 := Lib.hid h2
  clear h h2
  go_enter Try.func19, Try.ntmps19
  go_wp2_with (go_at_call 33; refine (none_yes _ _ (by first | exact H.out | exact H2.out)).mono ?_; rintro e w' ⟨rfl, rfl⟩)
  go_ret
  exact ⟨rfl, rfl⟩
end Go.Proofs.Ytfifmkjidljeeaa
