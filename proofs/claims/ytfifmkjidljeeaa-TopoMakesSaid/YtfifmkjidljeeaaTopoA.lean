/- Walks of topo: within, the flaws, Check. -/
import Derived.Test.YtfifmkjidljeeaaSlices
namespace Go.Proofs.Ytfifmkjidljeeaa
open Go.RowKit

structure Lk where (a b c d e f g h : Int)
abbrev Lk.val (l : Lk) : Value := .agg #[.int .i64 l.a, .int .i64 l.b, .int .i64 l.c, .int .i64 l.d, .int .i64 l.e, .int .i64 l.f, .int .i64 l.g, .int .i64 l.h]
def Lk.cells (l : Lk) : List Value := [.int .i64 l.a, .int .i64 l.b, .int .i64 l.c, .int .i64 l.d, .int .i64 l.e, .int .i64 l.f, .int .i64 l.g, .int .i64 l.h]
def wi (n l m : Int) : Bool := decide (l ≤ n) && decide (n ≤ m)
def flaw1B (l : Lk) (n : Int) : Bool := !wi l.a 0 (n-1) || !wi l.b 0 (n-1) || (l.a == l.b)
def flaw2B (l : Lk) : Bool := !wi l.c 1 1000000 || !wi l.d 0 l.c
def flaw3B (l : Lk) : Bool := !wi l.e 0 1000 || !wi l.f 1 2000
def flaw4B (l : Lk) : Bool := !wi l.g 0 1000000000 || !wi l.h 0 1000000

set_option maxHeartbeats 400000 in
theorem within_int (n l m : Int) (w : World) :
    Calls Try.prog 25 #[.int .i64 n, .int .i64 l, .int .i64 m] w fun e w' => e = .returned (.bool (wi n l m)) ∧ w = w' := by
  unfold wi
  go_enter Try.func25, Try.ntmps25
  go_wp2
  all_goals go_ret
  all_goals (refine ⟨?_, rfl⟩; simp_all <;> omega)

set_option maxHeartbeats 400000 in
theorem within_i64 (n l m : Int) (w : World) :
    Calls Try.prog 44 #[.int .i64 n, .int .i64 l, .int .i64 m] w fun e w' => e = .returned (.bool (wi n l m)) ∧ w = w' := by
  unfold wi
  go_enter Try.func44, Try.ntmps44
  go_wp2
  all_goals go_ret
  all_goals (refine ⟨?_, rfl⟩; simp_all <;> omega)

set_option maxHeartbeats 400000 in
theorem flaw1 (l : Lk) (b : Nat) (n : Int) (w : World) (hb : b < w.heap.size) (hp : w.cell? ⟨b, 0, none⟩ = some (.int .i64 n)) (h1 : 1 ≤ n) (h2 : n ≤ 16) :
    Calls Try.prog 42 #[.agg #[.int .i64 l.a, .int .i64 l.b, .int .i64 l.c, .int .i64 l.d, .int .i64 l.e, .int .i64 l.f, .int .i64 l.g, .int .i64 l.h], .pointer (some ⟨b, 0, none⟩)] w fun e w' => e = .returned (.bool (flaw1B l n)) ∧ Below w.heap.size w w' := by
  go_enter Try.func42, Try.ntmps42
  go_wp2_with (go_at_call 25; refine (within_int _ _ _ _).mono ?_; rintro e w' ⟨rfl, rfl⟩)
  all_goals go_ret
  all_goals exact ⟨by simp [flaw1B, *], bl_alloc (Below.refl _ _) _⟩

set_option maxHeartbeats 400000 in
theorem flaw2 (l : Lk) (w : World) :
    Calls Try.prog 43 #[.agg #[.int .i64 l.a, .int .i64 l.b, .int .i64 l.c, .int .i64 l.d, .int .i64 l.e, .int .i64 l.f, .int .i64 l.g, .int .i64 l.h]] w fun e w' => e = .returned (.bool (flaw2B l)) ∧ Below w.heap.size w w' := by
  go_enter Try.func43, Try.ntmps43
  go_wp2_with (go_at_call 44; refine (within_i64 _ _ _ _).mono ?_; rintro e w' ⟨rfl, rfl⟩)
  all_goals go_ret
  all_goals exact ⟨by simp [flaw2B, *], bl_alloc (Below.refl _ _) _⟩

set_option maxHeartbeats 400000 in
theorem flaw3 (l : Lk) (w : World) :
    Calls Try.prog 45 #[.agg #[.int .i64 l.a, .int .i64 l.b, .int .i64 l.c, .int .i64 l.d, .int .i64 l.e, .int .i64 l.f, .int .i64 l.g, .int .i64 l.h]] w fun e w' => e = .returned (.bool (flaw3B l)) ∧ Below w.heap.size w w' := by
  go_enter Try.func45, Try.ntmps45
  go_wp2_with (go_at_call 44; refine (within_i64 _ _ _ _).mono ?_; rintro e w' ⟨rfl, rfl⟩)
  all_goals go_ret
  all_goals exact ⟨by simp [flaw3B, *], bl_alloc (Below.refl _ _) _⟩

set_option maxHeartbeats 400000 in
theorem flaw4 (l : Lk) (w : World) :
    Calls Try.prog 46 #[.agg #[.int .i64 l.a, .int .i64 l.b, .int .i64 l.c, .int .i64 l.d, .int .i64 l.e, .int .i64 l.f, .int .i64 l.g, .int .i64 l.h]] w fun e w' => e = .returned (.bool (flaw4B l)) ∧ Below w.heap.size w w' := by
  go_enter Try.func46, Try.ntmps46
  go_wp2_with (go_at_call 44; refine (within_i64 _ _ _ _).mono ?_; rintro e w' ⟨rfl, rfl⟩)
  all_goals go_ret
  all_goals exact ⟨by simp [flaw4B, *], bl_alloc (Below.refl _ _) _⟩

set_option maxHeartbeats 400000 in
theorem flaws_any (n : Int) (w : World) :
    Calls Try.prog 27 #[.int .i64 n] w fun e w' => e = .returned (.slice (some ⟨w.heap.size + 1, 0, none⟩) 4 4) ∧
      w' = (w.alloc (.cells #[.int .i64 n] 3)).alloc (.cells #[.func (.func 42) #[] #[.pointer (some ⟨w.heap.size, 0, none⟩)], .func (.func 43) #[] #[], .func (.func 45) #[] #[], .func (.func 46) #[] #[]] 68) := by
  go_enter Try.func27, Try.ntmps27
  go_wp2
  go_ret
  exact ⟨rfl, rfl⟩

/-- What Check asks of one flaw: the number j of the list. -/
def flawB (l : Lk) (n : Int) : Nat → Bool
  | 0 => flaw1B l n
  | 1 => flaw2B l
  | 2 => flaw3B l
  | _ => flaw4B l
/-- The function value at j, the box of the number at block b. -/
def flawV (b : Nat) : Nat → Value
  | 0 => .func (.func 42) #[] #[.pointer (some ⟨b, 0, none⟩)]
  | 1 => .func (.func 43) #[] #[]
  | 2 => .func (.func 45) #[] #[]
  | _ => .func (.func 46) #[] #[]

/-- The eight cells of a link at a place. -/
def LkAt (w : World) (b o : Nat) (l : Lk) : Prop := w.cell? ⟨b, o, none⟩ = some (.int .i64 l.a) ∧ w.cell? ⟨b, o + 1, none⟩ = some (.int .i64 l.b) ∧ w.cell? ⟨b, o + 2, none⟩ = some (.int .i64 l.c) ∧ w.cell? ⟨b, o + 3, none⟩ = some (.int .i64 l.d) ∧ w.cell? ⟨b, o + 4, none⟩ = some (.int .i64 l.e) ∧ w.cell? ⟨b, o + 5, none⟩ = some (.int .i64 l.f) ∧ w.cell? ⟨b, o + 6, none⟩ = some (.int .i64 l.g) ∧ w.cell? ⟨b, o + 7, none⟩ = some (.int .i64 l.h)
theorem LkAt.below {w W : World} {b o : Nat} {l : Lk} (h : LkAt w b o l) (hb : Below w.heap.size w W) : LkAt W b o l := by
  obtain ⟨h0, h1, h2, h3, h4, h5, h6, h7⟩ := h
  exact ⟨bl_cell hb h0, bl_cell hb h1, bl_cell hb h2, bl_cell hb h3, bl_cell hb h4, bl_cell hb h5, bl_cell hb h6, bl_cell hb h7⟩

theorem LkAt.ofRow {w : World} {b o : Nat} {xs : List Lk} (h : RowAt Lk.cells 8 w b o xs) {j : Nat} {x : Lk} (hj : xs[j]? = some x) : LkAt w b (o + j * 8) x :=
  ⟨h j x hj 0 _ rfl, h j x hj 1 _ rfl, h j x hj 2 _ rfl, h j x hj 3 _ rfl, h j x hj 4 _ rfl, h j x hj 5 _ rfl, h j x hj 6 _ rfl, h j x hj 7 _ rfl⟩

def Lk0 : Lk := ⟨0, 0, 0, 0, 0, 0, 0, 0⟩
set_option maxHeartbeats 400000 in
theorem check1 (l : Lk) (n : Int) (bl bn j : Nat) (w : World) (hl : LkAt w bl 0 l) (hn : w.cell? ⟨bn, 0, none⟩ = some (.int .i64 n)) (h1 : 1 ≤ n) (h2 : n ≤ 16) (hj : j < 4) :
    Calls Try.prog 28 #[flawV bn j, .pointer (some ⟨bl, 0, none⟩)] w fun e w' => e = .returned (.bool (flawB l n j)) ∧ Below w.heap.size w w' := by
  have hbn : bn < w.heap.size := World.block_lt_of_cell? w ⟨bn, 0, none⟩ hn
  obtain ⟨c0, c1, c2, c3, c4, c5, c6, c7⟩ := hl
  match j, hj with
  | 0, _ =>
    unfold flawV flawB
    go_enter Try.func28, Try.ntmps28
    go_wp2_with (go_at_call 42; refine (flaw1 l bn n _ (by assumption) (by assumption) h1 h2).mono ?_; rintro e w' ⟨rfl, hb⟩)
    go_ret
    exact ⟨rfl, hb⟩
  | 1, _ =>
    unfold flawV flawB
    go_enter Try.func28, Try.ntmps28
    go_wp2_with (go_at_call 43; refine (flaw2 l _).mono ?_; rintro e w' ⟨rfl, hb⟩)
    go_ret
    exact ⟨rfl, hb⟩
  | 2, _ =>
    unfold flawV flawB
    go_enter Try.func28, Try.ntmps28
    go_wp2_with (go_at_call 45; refine (flaw3 l _).mono ?_; rintro e w' ⟨rfl, hb⟩)
    go_ret
    exact ⟨rfl, hb⟩
  | 3, _ =>
    unfold flawV flawB
    go_enter Try.func28, Try.ntmps28
    go_wp2_with (go_at_call 46; refine (flaw4 l _).mono ?_; rintro e w' ⟨rfl, hb⟩)
    go_ret
    exact ⟨rfl, hb⟩
end Go.Proofs.Ytfifmkjidljeeaa
