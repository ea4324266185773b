/- Topo: pair, known, the document's Right. -/
import Derived.Test.YtfifmkjidljeeaaTopoE
namespace Go.Proofs.Ytfifmkjidljeeaa
open Go.RowKit Go.Shelf

def lkA : Lk := ⟨0, 1, 10, 8, 2, 100, 1000, 500⟩
def lkB : Lk := ⟨1, 0, 10, 8, 2, 100, 1000, 500⟩
set_option maxHeartbeats 400000 in
theorem pair_any (w : World) :
    Calls Try.prog 29 #[] w fun e w' => ∃ b, e = .returned (.slice (some ⟨b, 0, none⟩) 2 2) ∧ SAt Lk.cells 8 w' (.slice (some ⟨b, 0, none⟩) 2 2) [lkA, lkB] ∧ SAt Lk.cells 8 w' (.slice (some ⟨b, 0, none⟩) 1 2) [lkA] ∧ Below w.heap.size w w' := by
  go_enter Try.func29, Try.ntmps29
  go_wp2
  go_ret
  have hrow := rowAt_new (enc := Lk.cells) (k := 8) (fun _ => rfl) ((w.alloc (.cells #[.int .i64 0, .int .i64 1, .int .i64 10, .int .i64 8, .int .i64 2, .int .i64 100, .int .i64 1000, .int .i64 500] 23)).alloc (.cells #[.int .i64 1, .int .i64 0, .int .i64 10, .int .i64 8, .int .i64 2, .int .i64 100, .int .i64 1000, .int .i64 500] 23)) 23 [lkA, lkB] (b := w.heap.size + 1 + 1) (by simp) rfl
  exact ⟨_, rfl, Or.inr ⟨_, 0, 2, rfl, by simp, by decide, hrow⟩, Or.inr ⟨_, 0, 2, rfl, by simp, by decide, hrow.take 1⟩, bl_alloc (bl_alloc (bl_alloc (Below.refl _ _) _) _) _⟩

theorem new_fine (w : World) (v : Value) (h : SAt Lk.cells 8 w v [lkA, lkB]) : Calls Try.prog 11 #[.int .i64 2, v] w fun e w' => ∃ q, e = .returned (.tuple #[.pointer (some ⟨q, 0, none⟩), .int .i64 0]) ∧ TMap w' q 2 [lkA, lkB] ∧ Below w.heap.size w w' :=
  (new_any 2 v [lkA, lkB] w h (by decide)).mono fun e w' hp => by
    rcases hp with ⟨_, h⟩ | ⟨h, _⟩
    · exact h
    · exact absurd (by decide) h
theorem new_bad (w : World) (v : Value) (h : SAt Lk.cells 8 w v [lkA]) : Calls Try.prog 11 #[.int .i64 2, v] w fun e w' => e = .returned (.tuple #[.pointer none, .int .i64 191]) ∧ Below w.heap.size w w' :=
  (new_any 2 v [lkA] w h (by decide)).mono fun e w' hp => by
    rcases hp with ⟨h, _⟩ | ⟨_, h⟩
    · exact absurd h (by decide)
    · exact h

set_option maxHeartbeats 400000 in
theorem known_any (w : World) :
    Calls Try.prog 10 #[] w fun e w' => e = .returned (.bool true) ∧ Below w.heap.size w w' := by
  have hb01 : (btw [lkA, lkB] lkA.b lkA.a).getD (.int .i64 0) = .int .i64 1 := by rfl
  have hb10 : (btw [lkA, lkB] 1 0).getD (.int .i64 0) = .int .i64 1 := by rfl
  have hb11 : (btw [lkA, lkB] 1 0).isSome = true := by rfl
  have H01 := Lib.hid hb01
  have H10 := Lib.hid hb10
  have H11 := Lib.hid hb11
  clear hb01 hb10 hb11
  go_enter Try.func10, Try.ntmps10
  go_wp2_with fail
  refine (pair_any _).mono ?_
  rintro e w1 ⟨b1, rfl, hs1, -, hb1⟩
  go_wp2_with fail
  refine (new_fine _ _ hs1).mono ?_
  rintro e w2 ⟨q, rfl, hT, hb2⟩
  clear hs1
  go_wp2_with fail
  have hback := back_yes q 2 [lkA, lkB] 0 lkA _ hT rfl
  rw [H01.out] at hback
  refine hback.mono ?_
  rintro e w3 ⟨rfl, hb3⟩
  have hT3 := hT.below hb3
  clear hT hback
  go_wp2_with fail
  have hbet := between_any q 2 [lkA, lkB] 1 0 _ hT3
  rw [H10.out, H11.out] at hbet
  refine hbet.mono ?_
  rintro e w4 ⟨rfl, rfl⟩
  clear hbet
  go_wp2_with fail
  refine (pair_any _).mono ?_
  rintro e w5 ⟨b2, rfl, -, hs2, hb5⟩
  go_wp2_with fail
  refine (new_bad _ _ hs2).mono ?_
  rintro e w6 ⟨rfl, hb6⟩
  have hT6 := (hT3.below hb5).below hb6
  clear hT3 hs2
  go_wp2_with (go_at_call 14; refine (len_any q 2 [lkA, lkB] _ hT6).mono ?_; rintro e w' ⟨rfl, rfl⟩)
  go_ret
  exact ⟨rfl, bl_then (bl_then (bl_then (bl_then hb1 hb2) hb3) hb5) hb6⟩
end Go.Proofs.Ytfifmkjidljeeaa
