/- Soft: Same. -/
import Derived.Test.YtojeombljhmkaaaSoftBP
namespace Go.Proofs.Ytojeombljhmkaaa
open Go.RowKit Go.Shelf Go.Sort
set_option linter.unusedVariables false
set_option linter.unusedSimpArgs false
attribute [local go_sem] Oper.semAt_some
set_option maxRecDepth 100000 in
set_option maxHeartbeats 1000000 in
theorem same_tabs (p r : Nat) (now : Int) (L : List Th) (es : List (Nat × Th)) (p2 r2 : Nat) (now2 : Int) (L2 : List Th) (es2 : List (Nat × Th)) (w : World) (h : Tb w p r now L es) (h2 : Tb w p2 r2 now2 L2 es2) :
    Calls Try.prog 24 #[.pointer (some ⟨p, 0, none⟩), .pointer (some ⟨p2, 0, none⟩)] w fun e w' => e = .returned (.bool (decide (now = now2) && decide (L = L2))) ∧ Below w.heap.size w w' := by
  obtain ⟨a0, a1⟩ := h.tab.cells
  obtain ⟨b0, b1⟩ := h2.tab.cells
  have HA1 := Lib.hid a1
  have HB1 := Lib.hid b1
  obtain ⟨F, hF⟩ : ∃ F, F = decide (L = L2) := ⟨_, rfl⟩
  rw [← hF]
  have HX : Hid (∀ W, Below w.heap.size w W → (fun w' => w'.cell? ⟨p, 0, none⟩ = some (.int .i64 now) ∧ w'.cell? ⟨p2, 0, none⟩ = some (.int .i64 now2)) W) := Lib.hid fun W hW => ⟨bl_cell hW a0, bl_cell hW b0⟩
  have HAL : Hid (∀ W, Below w.heap.size w W → Calls Try.prog 44 #[.pointer (some ⟨p, 0, none⟩)] W fun e w' => (∃ v, e = .returned v ∧ w'.ownsRow W.heap.size 35 4 v L.length (L.flatMap Th.cells)) ∧ Below W.heap.size W w') :=
    Lib.hid fun W hW => all_any p r now es L W (h.below hW).tab h.isL (by have := h.len; have := h.few; omega)
  have HAL2 : Hid (∀ W, Below w.heap.size w W → Calls Try.prog 44 #[.pointer (some ⟨p2, 0, none⟩)] W fun e w' => (∃ v, e = .returned v ∧ w'.ownsRow W.heap.size 35 4 v L2.length (L2.flatMap Th.cells)) ∧ Below W.heap.size W w') :=
    Lib.hid fun W hW => all_any p2 r2 now2 es2 L2 W (h2.below hW).tab h2.isL (by have := h2.len; have := h2.few; omega)
  have HEQ : Hid (∀ W u v, SAt Th.cells 4 W u L → SAt Th.cells 4 W v L2 → Calls Try.prog 46 #[u, v] W fun e w' => e = .returned (.bool F) ∧ Below W.heap.size W w') := Lib.hid fun W u v hu hv => by rw [hF]; exact equal_th u v L L2 W hu hv
  clear h h2 a1 b1 hF
  by_cases hn : now = now2
  · subst hn
    have hnn : (now == now) = true := by simp
    rw [decide_eq_true (rfl : now = now), Bool.true_and]
    go_enter Try.func24, Try.ntmps24
    go_upto_region 3 with (go_at_call 30; first | ((with_reducible refine (none_no p r _ HA1.out).mono ?_); rintro e w' ⟨rfl, rfl⟩) | ((with_reducible refine (none_no p2 r2 _ HB1.out).mono ?_); rintro e w' ⟨rfl, rfl⟩))
    first
    | go_region_held3 (fun w' => w'.cell? ⟨p, 0, none⟩ = some (.int .i64 now) ∧ w'.cell? ⟨p2, 0, none⟩ = some (.int .i64 now))
        (exact HX.out _ (by solve | exact hbw6 | exact hbw5 | exact hbw4 | exact bl_drew (Below.refl _ _) | exact Below.refl _ _))
        (first
          | (go_at_call 44; with_reducible refine (HAL.out _ (by solve | exact bl_drew (Below.refl _ _) | exact Below.refl _ _)).mono ?_; rintro e w4 ⟨⟨u, rfl, ho⟩, hb4⟩; have hbw4 : Below w.heap.size w w4 := bl_then (by solve | exact bl_drew (Below.refl _ _) | exact Below.refl _ _) hb4; obtain ⟨A4, c4, rfl⟩ := own_form ho; have HO4 := Lib.hid ho; clear ho)
          | (go_at_call 44; with_reducible refine (HAL2.out _ hbw4).mono ?_; rintro e w5 ⟨⟨u, rfl, ho⟩, hb5⟩; have hbw5 : Below w.heap.size w w5 := bl_then hbw4 hb5; obtain ⟨A5, c5, rfl⟩ := own_form ho; have HO5 := Lib.hid (own_sat ho); have HS4 := Lib.hid (own_sat (own_lies HO4.out hb5)); clear ho)
          | (go_at_call 46; refine (HEQ.out _ _ _ HS4.out HO5.out).mono ?_; rintro e w6 ⟨rfl, hb6⟩; have hbw6 : Below w.heap.size w w6 := bl_then hbw5 hb6))
    | fail "held3"
    all_goals
      have HF6 := Lib.hid hbw6
      clear hbw6 hbw5 hbw4 hb6 hb5 hb4
      go_wp2_with fail
      go_ret
      exact ⟨rfl, HF6.out⟩
  · have hnn : (now == now2) = false := beq_eq_false_iff_ne.2 hn
    rw [decide_eq_false hn, Bool.false_and]
    clear hn
    go_enter Try.func24, Try.ntmps24
    go_upto_region 3 with (go_at_call 30; first | ((with_reducible refine (none_no p r _ HA1.out).mono ?_); rintro e w' ⟨rfl, rfl⟩) | ((with_reducible refine (none_no p2 r2 _ HB1.out).mono ?_); rintro e w' ⟨rfl, rfl⟩))
    refine wp_region_held_drew (S := (fun w' => w'.cell? ⟨p, 0, none⟩ = some (.int .i64 now) ∧ w'.cell? ⟨p2, 0, none⟩ = some (.int .i64 now2))) (by kernel_rfl) (HX.out _ (bl_drew (Below.refl _ _))) (fun hHeld => ?_)
    refine take_yes (i := 0) (v := ?_) rfl (by kernel_rfl) (by kernel_rfl) (by kernel_rfl) (fun _ _ _ h => h) (by kernel_rfl) (by assumption) ?_ ?_
    rotate_left 1
    · (intro w hSw; (try dsimp only at hSw); go_simp; try with_reducible rfl)
    try simp only [Act.put, List.setIfInBounds_toArray, List.set_cons_zero, List.set_cons_succ]
    refine take_yes (i := 1) (v := ?_) rfl (by kernel_rfl) (by kernel_rfl) (by kernel_rfl) (fun _ _ _ h => h) (by kernel_rfl) (by assumption) ?_ ?_
    rotate_left 1
    · (intro w hSw; (try dsimp only at hSw); go_simp; try with_reducible rfl)
    try simp only [Act.put, List.setIfInBounds_toArray, List.set_cons_zero, List.set_cons_succ]
    refine take_yes (i := 2) (v := ?_) rfl (by kernel_rfl) (by kernel_rfl) (by kernel_rfl) (fun _ _ _ h => h) (by kernel_rfl) (by assumption) ?_ ?_
    rotate_left 1
    · (intro w hSw; (try dsimp only at hSw); go_simp; try with_reducible rfl)
    try simp only [Act.put, List.setIfInBounds_toArray, List.set_cons_zero, List.set_cons_succ]
    refine take_yes (i := 3) (v := ?_) rfl (by kernel_rfl) (by kernel_rfl) (by kernel_rfl) (fun _ _ _ h => h) (by kernel_rfl) (by assumption) ?_ ?_
    rotate_left 1
    · (intro w hSw; (try dsimp only at hSw); go_simp; try with_reducible rfl)
    try simp only [Act.put, List.setIfInBounds_toArray, List.set_cons_zero, List.set_cons_succ]
    refine take_yes (i := 4) (v := ?_) rfl (by kernel_rfl) (by kernel_rfl) (by kernel_rfl) (fun _ _ _ h => h) (by kernel_rfl) (by assumption) ?_ ?_
    rotate_left 1
    · (intro w hSw; (try dsimp only at hSw); go_simp; try with_reducible rfl)
    try simp only [Act.put, List.setIfInBounds_toArray, List.set_cons_zero, List.set_cons_succ]
    refine take_yes (i := 5) (v := ?_) rfl (by kernel_rfl) (by kernel_rfl) (by kernel_rfl) (fun _ _ _ h => h) (by kernel_rfl) (by assumption) ?_ ?_
    rotate_left 1
    · (intro w hSw; (try dsimp only at hSw); go_simp; try with_reducible rfl)
    try simp only [Act.put, List.setIfInBounds_toArray, List.set_cons_zero, List.set_cons_succ]
    refine take_yes (i := 6) (v := ?_) rfl (by kernel_rfl) (by kernel_rfl) (by kernel_rfl) (fun _ _ _ h => h) (by kernel_rfl) (by assumption) ?_ ?_
    rotate_left 1
    · (intro w hSw; (try dsimp only at hSw); go_simp; try with_reducible rfl)
    try simp only [Act.put, List.setIfInBounds_toArray, List.set_cons_zero, List.set_cons_succ]
    refine take_yes (i := 7) (v := ?_) rfl (by kernel_rfl) (by kernel_rfl) (by kernel_rfl) (fun _ _ _ h => h) (by kernel_rfl) (by assumption) ?_ ?_
    rotate_left 1
    · (intro w hSw; (try dsimp only at hSw); go_simp; try with_reducible rfl)
    try simp only [Act.put, List.setIfInBounds_toArray, List.set_cons_zero, List.set_cons_succ]
    refine take_yes (i := 8) (v := ?_) rfl (by kernel_rfl) (by kernel_rfl) (by kernel_rfl) (fun _ _ _ h => h) (by kernel_rfl) (by assumption) ?_ ?_
    rotate_left 1
    · (intro w hSw; (try dsimp only at hSw); go_simp; try with_reducible rfl)
    try simp only [Act.put, List.setIfInBounds_toArray, List.set_cons_zero, List.set_cons_succ]
    refine take_yes (i := 9) (v := ?_) rfl (by kernel_rfl) (by kernel_rfl) (by kernel_rfl) (fun _ _ _ h => h) (by kernel_rfl) (by assumption) ?_ ?_
    rotate_left 1
    · (intro w hSw; (try dsimp only at hSw); go_simp; try with_reducible rfl)
    try simp only [Act.put, List.setIfInBounds_toArray, List.set_cons_zero, List.set_cons_succ]
    refine take_no (i := 10) rfl (by kernel_rfl) (by kernel_rfl) (by kernel_rfl) (fun _ _ _ h => h) (by rfl) (by assumption) ?_
    try simp only [Act.put, List.setIfInBounds_toArray, List.set_cons_zero, List.set_cons_succ]
    refine take_no (i := 11) rfl (by kernel_rfl) (by kernel_rfl) (by kernel_rfl) (fun _ _ _ h => h) (by rfl) (by assumption) ?_
    try simp only [Act.put, List.setIfInBounds_toArray, List.set_cons_zero, List.set_cons_succ]
    refine take_no (i := 12) rfl (by kernel_rfl) (by kernel_rfl) (by kernel_rfl) (fun _ _ _ h => h) (by rfl) (by assumption) ?_
    try simp only [Act.put, List.setIfInBounds_toArray, List.set_cons_zero, List.set_cons_succ]
    refine take_no (i := 13) rfl (by kernel_rfl) (by kernel_rfl) (by kernel_rfl) (fun _ _ _ h => h) (by rfl) (by assumption) ?_
    try simp only [Act.put, List.setIfInBounds_toArray, List.set_cons_zero, List.set_cons_succ]
    refine take_no (i := 14) rfl (by kernel_rfl) (by kernel_rfl) (by kernel_rfl) (fun _ _ _ h => h) (by rfl) (by assumption) ?_
    try simp only [Act.put, List.setIfInBounds_toArray, List.set_cons_zero, List.set_cons_succ]
    refine take_yes (i := 15) (v := ?_) rfl (by kernel_rfl) (by kernel_rfl) (by kernel_rfl) (fun _ _ _ h => h) (by kernel_rfl) (by assumption) ?_ ?_
    rotate_left 1
    · (intro w hSw; (try dsimp only at hSw); go_simp; try with_reducible rfl)
    try simp only [Act.put, List.setIfInBounds_toArray, List.set_cons_zero, List.set_cons_succ]
    refine take_yes (i := 16) (v := ?_) rfl (by kernel_rfl) (by kernel_rfl) (by kernel_rfl) (fun _ _ _ h => h) (by kernel_rfl) (by assumption) ?_ ?_
    rotate_left 1
    · (intro w hSw; (try dsimp only at hSw); go_simp; try with_reducible rfl)
    try simp only [Act.put, List.setIfInBounds_toArray, List.set_cons_zero, List.set_cons_succ]
    refine wpAnyH_done (by kernel_rfl) ?_ _
    all_goals
      go_wp2_with fail
      go_ret
      exact ⟨rfl, bl_drew (Below.refl _ _)⟩
end Go.Proofs.Ytojeombljhmkaaa
