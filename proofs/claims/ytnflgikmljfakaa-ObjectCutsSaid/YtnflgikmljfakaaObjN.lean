/- Object: as at Session, what a right object says. -/
import Derived.Test.YtnflgikmljfakaaObjM
namespace Go.Proofs.Ytnflgikmljfakaa
open Go.RowKit Go.Shelf
set_option linter.unusedVariables false
set_option linter.unusedSimpArgs false
attribute [local go_sem] Oper.semAt_some
theorem four_new (w : World) (a b c d : Array Value) (s t u v : TypeId) : ∃ W0, (((w.alloc (.cells a s)).alloc (.cells b t)).alloc (.cells c u)).alloc (.cells d v) = W0 ∧ W0.heap[w.heap.size]? = some (.cells a s (0, 0)) ∧ W0.heap[w.heap.size + 1]? = some (.cells b t (0, 0)) ∧ W0.heap[w.heap.size + 1 + 1]? = some (.cells c u (0, 0)) ∧ W0.heap[w.heap.size + 1 + 1 + 1]? = some (.cells d v (0, 0)) ∧ Below w.heap.size w W0 ∧ W0.heap.size = w.heap.size + 1 + 1 + 1 + 1 := by
  obtain ⟨W1, hW1, h0, h1, h2, hb, hz⟩ := three_new w a b c s t u
  rw [hW1]
  have hb1 := bl_alloc (Below.refl W1.heap.size W1) (.cells d v)
  refine ⟨_, rfl, (hb1.block _ (by omega)).trans h0, (hb1.block _ (by omega)).trans h1, (hb1.block _ (by omega)).trans h2, ?_, bl_alloc hb _, by simp [hz]⟩
  have := new_block W1 (.cells d v)
  rwa [hz] at this
set_option maxRecDepth 100000 in
set_option maxHeartbeats 1000000 in
theorem asS_yes (A : Option Addr) (c : Nat) (x y : Int) (hx : wiB x 0 15 = true) (hy : wiB y 1 65535 = true) (w : World) (h : WsAt w (.slice A 2 c) [x, 285212672 + y]) :
    Calls Try.prog 30 #[.agg #[.int .i64 1, .int .i64 1, .int .i64 2, .func (.func 40) #[] #[], .func (.func 42) #[] #[], .func (.func 43) #[] #[]], .agg #[.int .i64 1, .int .i64 1, .slice A 2 c]] w fun e w' => e = .returned (.tuple #[.agg #[.int .i64 x, .int .i64 y], .int .i64 0]) ∧ Below w.heap.size w w' := by
  have hy0 : 0 ≤ y := by unfold wiB at hy; simp at hy; omega
  have hy1 : y ≤ 1000000000 := by unfold wiB at hy; simp at hy; omega
  have hyes : (wiB x 0 15 && wiB y 1 65535) = true := by rw [hx, hy]; rfl
  have HWS := Lib.hid h
  clear hx hy h
  go_enter Try.func30, Try.ntmps30
  go_upto_region 2 with fail
  obtain ⟨W0, hW0, hbx, hbs, hfz, hno, hB0, hz0⟩ := four_new w #[.int .i64 1, .int .i64 1, .int .i64 2, .func (.func 40) #[] #[], .func (.func 42) #[] #[], .func (.func 43) #[] #[]] #[.int .i64 1, .int .i64 1, .slice A 2 c] #[.int .i64 0, .int .i64 0] #[.int .i64 0, .int .i64 0] 67 32 45 45
  rw [hW0]
  clear hW0
  obtain ⟨⟨a0, a1, a2, a3, a4, a5⟩, -⟩ := cells6 hbx
  obtain ⟨⟨b0, b1, b2⟩, -⟩ := cells3 hbs
  have HS0 := Lib.hid (show ∀ X, Below W0.heap.size W0 X → (fun W' : World => W'.cell? ⟨w.heap.size, 0, none⟩ = some (.int .i64 1) ∧ W'.cell? ⟨w.heap.size, 1, none⟩ = some (.int .i64 1) ∧ W'.cell? ⟨w.heap.size, 2, none⟩ = some (.int .i64 2) ∧ W'.cell? ⟨w.heap.size, 3, none⟩ = some (.func (.func 40) #[] #[]) ∧ W'.cell? ⟨w.heap.size, 4, none⟩ = some (.func (.func 42) #[] #[]) ∧ W'.cell? ⟨w.heap.size, 5, none⟩ = some (.func (.func 43) #[] #[]) ∧ W'.cell? ⟨w.heap.size + 1, 0, none⟩ = some (.int .i64 1) ∧ W'.cell? ⟨w.heap.size + 1, 1, none⟩ = some (.int .i64 1) ∧ W'.cell? ⟨w.heap.size + 1, 2, none⟩ = some (.slice A 2 c)) X from fun X hX => ⟨bl_cell hX a0, bl_cell hX a1, bl_cell hX a2, bl_cell hX a3, bl_cell hX a4, bl_cell hX a5, bl_cell hX b0, bl_cell hX b1, bl_cell hX b2⟩)
  have HFZ := Lib.hid hfz
  have HB0 := Lib.hid hB0
  have HZ0 := Lib.hid hz0
  clear hbx hbs hfz hB0 hz0
  have HW0 := Lib.hid (ws_below HWS.out HB0.out)
  go_upto_region 5 with (go_at_call 42; refine (sess2_any _ x (285212672 + y) (by omega) (by omega) _ HW0.out).mono ?_; rintro e w1 ⟨rfl, hb1⟩; rw [show 285212672 + y - 285212672 = y by omega]; have HB1 := Lib.hid hb1; clear hb1)
  clear a0 a1 a2 a3 a4 a5 b0 b1 b2 hno
  have hn7 : w.heap.size + 4 ≤ w1.heap.size := by have := HZ0.out; have := HB1.out.size; omega
  have hx7 : (w1.alloc (.cells #[.int .i64 x, .int .i64 y] 45)).heap[w1.heap.size]? = some (.cells #[.int .i64 x, .int .i64 y] 45 (0, 0)) := new_block _ _
  have hb7 : Below W0.heap.size W0 (w1.alloc (.cells #[.int .i64 x, .int .i64 y] 45)) := bl_alloc HB1.out _
  have hz7 : (w1.alloc (.cells #[.int .i64 x, .int .i64 y] 45)).heap.size = w1.heap.size + 1 := by simp
  generalize (w1.alloc (.cells #[.int .i64 x, .int .i64 y] 45)) = w2 at hx7 hb7 hz7 ⊢
  obtain ⟨n7, hn⟩ : ∃ n7, n7 = w1.heap.size := ⟨_, rfl⟩
  rw [← hn] at hn7 hx7 hz7 ⊢
  clear hn
  obtain ⟨⟨e0, e1⟩, -⟩ := cells2 hx7
  have HB7 := Lib.hid hb7
  have HX7 := Lib.hid hx7
  have HS1 := Lib.hid (show ∀ X, Below w2.heap.size w2 X → (fun W' : World => W'.cell? ⟨w.heap.size, 3, none⟩ = some (.func (.func 40) #[] #[]) ∧ W'.cell? ⟨w.heap.size, 5, none⟩ = some (.func (.func 43) #[] #[]) ∧ W'.cell? ⟨w.heap.size + 1, 2, none⟩ = some (.slice A 2 c) ∧ W'.cell? ⟨n7, 0, none⟩ = some (.int .i64 x) ∧ W'.cell? ⟨n7, 1, none⟩ = some (.int .i64 y)) X from fun X hX => (by
    obtain ⟨q0, q1, q2, q3, q4, q5, q6, q7, q8⟩ := HS0.out X (bl_then HB7.out hX)
    exact ⟨q3, q5, q8, bl_cell hX e0, bl_cell hX e1⟩))
  have HZ7 := Lib.hid (And.intro hn7 hz7)
  clear hb7 hx7 hn7 hz7 e0 e1
  refine wp_region_till 15 (S := (fun W' : World => W'.cell? ⟨w.heap.size, 3, none⟩ = some (.func (.func 40) #[] #[]) ∧ W'.cell? ⟨w.heap.size, 5, none⟩ = some (.func (.func 43) #[] #[]) ∧ W'.cell? ⟨w.heap.size + 1, 2, none⟩ = some (.slice A 2 c) ∧ W'.cell? ⟨n7, 0, none⟩ = some (.int .i64 x) ∧ W'.cell? ⟨n7, 1, none⟩ = some (.int .i64 y))) (by kernel_rfl) (HS1.out _ (bl_drew (Below.refl _ _))) (fun hHeld => ?_)
  refine till_yes (i := 0) (v := ?_) rfl (by kernel_rfl) (by kernel_rfl) (by kernel_rfl) (by kernel_rfl) (by kernel_rfl) (fun _ _ _ h => h) (by kernel_rfl) (by assumption) ?_ ?_
  rotate_left 1
  · (intro w hSw; (try dsimp only at hSw); go_simp; try with_reducible rfl)
  try simp only [Act.put, List.setIfInBounds_toArray, List.set_cons_zero, List.set_cons_succ]

  refine till_yes (i := 1) (v := ?_) rfl (by kernel_rfl) (by kernel_rfl) (by kernel_rfl) (by kernel_rfl) (by kernel_rfl) (fun _ _ _ h => h) (by kernel_rfl) (by assumption) ?_ ?_
  rotate_left 1
  · (intro w hSw; (try dsimp only at hSw); go_simp; try with_reducible rfl)
  try simp only [Act.put, List.setIfInBounds_toArray, List.set_cons_zero, List.set_cons_succ]

  refine till_yes (i := 2) (v := ?_) rfl (by kernel_rfl) (by kernel_rfl) (by kernel_rfl) (by kernel_rfl) (by kernel_rfl) (fun _ _ _ h => h) (by kernel_rfl) (by assumption) ?_ ?_
  rotate_left 1
  · (intro w hSw; (try dsimp only at hSw); go_simp; try with_reducible rfl)
  try simp only [Act.put, List.setIfInBounds_toArray, List.set_cons_zero, List.set_cons_succ]

  refine till_one (i := 3) rfl (by kernel_rfl) (fun K' hK => ?_)
  go_simp
  refine (sess3_any x y _).mono ?_
  rintro e w3 ⟨rfl, hb3⟩
  rw [hyes]
  go_simp
  have hb3' : Below w2.heap.size w2 w3 := bl_then (bl_drew (Below.refl _ _)) hb3
  refine hK.out _ _ (HS1.out _ hb3') (fun hHeld2 => ?_)
  clear hK K' hHeld hb3
  try simp only [Act.put, List.setIfInBounds_toArray, List.set_cons_zero, List.set_cons_succ]
  refine till_yes (i := 4) (v := ?_) rfl (by kernel_rfl) (by kernel_rfl) (by kernel_rfl) (by kernel_rfl) (by kernel_rfl) (fun _ _ _ h => h) (by kernel_rfl) (by assumption) ?_ ?_
  rotate_left 1
  · (intro w hSw; (try dsimp only at hSw); go_simp; try with_reducible rfl)
  try simp only [Act.put, List.setIfInBounds_toArray, List.set_cons_zero, List.set_cons_succ]

  refine till_yes (i := 5) (v := ?_) rfl (by kernel_rfl) (by kernel_rfl) (by kernel_rfl) (by kernel_rfl) (by kernel_rfl) (fun _ _ _ h => h) (by kernel_rfl) (by assumption) ?_ ?_
  rotate_left 1
  · (intro w hSw; (try dsimp only at hSw); go_simp; try with_reducible rfl)
  try simp only [Act.put, List.setIfInBounds_toArray, List.set_cons_zero, List.set_cons_succ]

  refine till_yes (i := 6) (v := ?_) rfl (by kernel_rfl) (by kernel_rfl) (by kernel_rfl) (by kernel_rfl) (by kernel_rfl) (fun _ _ _ h => h) (by kernel_rfl) (by assumption) ?_ ?_
  rotate_left 1
  · (intro w hSw; (try dsimp only at hSw); go_simp; try with_reducible rfl)
  try simp only [Act.put, List.setIfInBounds_toArray, List.set_cons_zero, List.set_cons_succ]

  refine till_yes (i := 7) (v := ?_) rfl (by kernel_rfl) (by kernel_rfl) (by kernel_rfl) (by kernel_rfl) (by kernel_rfl) (fun _ _ _ h => h) (by kernel_rfl) (by assumption) ?_ ?_
  rotate_left 1
  · (intro w hSw; (try dsimp only at hSw); go_simp; try with_reducible rfl)
  try simp only [Act.put, List.setIfInBounds_toArray, List.set_cons_zero, List.set_cons_succ]

  refine till_yes (i := 8) (v := ?_) rfl (by kernel_rfl) (by kernel_rfl) (by kernel_rfl) (by kernel_rfl) (by kernel_rfl) (fun _ _ _ h => h) (by kernel_rfl) (by assumption) ?_ ?_
  rotate_left 1
  · (intro w hSw; (try dsimp only at hSw); go_simp; try with_reducible rfl)
  try simp only [Act.put, List.setIfInBounds_toArray, List.set_cons_zero, List.set_cons_succ]

  refine till_yes (i := 10) (v := ?_) rfl (by kernel_rfl) (by kernel_rfl) (by kernel_rfl) (by kernel_rfl) (by kernel_rfl) (fun _ _ _ h => h) (by kernel_rfl) (by assumption) ?_ ?_
  rotate_left 1
  · (intro w hSw; (try dsimp only at hSw); go_simp; try with_reducible rfl)
  try simp only [Act.put, List.setIfInBounds_toArray, List.set_cons_zero, List.set_cons_succ]

  refine till_yes (i := 11) (v := ?_) rfl (by kernel_rfl) (by kernel_rfl) (by kernel_rfl) (by kernel_rfl) (by kernel_rfl) (fun _ _ _ h => h) (by kernel_rfl) (by assumption) ?_ ?_
  rotate_left 1
  · (intro w hSw; (try dsimp only at hSw); go_simp; try with_reducible rfl)
  try simp only [Act.put, List.setIfInBounds_toArray, List.set_cons_zero, List.set_cons_succ]

  refine till_one (i := 9) rfl (by kernel_rfl) (fun K' hK => ?_)
  go_simp
  refine (sess1_any x y hy0 hy1 _).mono ?_
  rintro e w4 ⟨p, rfl, hs4, hb4, hp4⟩
  go_simp
  have hb4' : Below w2.heap.size w2 w4 := bl_then hb3' hb4
  refine hK.out _ _ (HS1.out _ hb4') (fun hHeld3 => ?_)
  clear hK K' hHeld2 hb4
  try simp only [Act.put, List.setIfInBounds_toArray, List.set_cons_zero, List.set_cons_succ]
  refine till_one (i := 12) rfl (by kernel_rfl) (fun K' hK => ?_)
  go_simp
  refine (equal_ws (.slice (some ⟨p, 0, none⟩) 2 2) (.slice A 2 c) [x, 285212672 + y] [x, 285212672 + y] _ (Or.inl hs4) (ws_below HW0.out (bl_then HB7.out hb4'))).mono ?_
  rintro e w5 ⟨rfl, hb5⟩
  rw [show decide ([x, 285212672 + y] = [x, 285212672 + y]) = true by simp]
  go_simp
  have hb5' : Below w2.heap.size w2 w5 := bl_then hb4' hb5
  refine hK.out _ _ (HS1.out _ hb5') (fun hHeld4 => ?_)
  clear hK K' hHeld3 hb5
  try simp only [Act.put, List.setIfInBounds_toArray, List.set_cons_zero, List.set_cons_succ]
  refine till_yes (i := 13) (v := ?_) rfl (by kernel_rfl) (by kernel_rfl) (by kernel_rfl) (by kernel_rfl) (by kernel_rfl) (fun _ _ _ h => h) (by kernel_rfl) (by assumption) ?_ ?_
  rotate_left 1
  · (intro w hSw; (try dsimp only at hSw); go_simp; try with_reducible rfl)
  try simp only [Act.put, List.setIfInBounds_toArray, List.set_cons_zero, List.set_cons_succ]

  refine till_yes (i := 14) (v := ?_) rfl (by kernel_rfl) (by kernel_rfl) (by kernel_rfl) (by kernel_rfl) (by kernel_rfl) (fun _ _ _ h => h) (by kernel_rfl) (by assumption) ?_ ?_
  rotate_left 1
  · (intro w hSw; (try dsimp only at hSw); go_simp; try with_reducible rfl)
  try simp only [Act.put, List.setIfInBounds_toArray, List.set_cons_zero, List.set_cons_succ]

  refine till_done (by kernel_rfl) ?_ _
  have hf5 := ((bl_then HB7.out hb5').block (w.heap.size + 1 + 1) (by have := HZ0.out; omega)).trans HFZ.out
  have hx5 := (hb5'.block n7 (by have := HZ7.out; omega)).trans HX7.out
  obtain ⟨⟨y0, y1⟩, z0, z1⟩ := cells2 hf5
  obtain ⟨⟨e0, e1⟩, -⟩ := cells2 hx5
  obtain ⟨w6, hw6, ⟨s0, s1⟩, ho, hb6, -⟩ := twow (.int .i64 x) (.int .i64 y) (show w.heap.size ≤ w.heap.size + 1 + 1 by omega) hf5
  have HB6 : Hid (Below w.heap.size w w6) := Lib.hid ((HB0.out.trans ((bl_then HB7.out hb5').mono (by have := HZ0.out; omega))).trans hb6)
  clear hb4' hb3' hb5' hb6 hf5 hx5 ho hs4 hp4
  rename_i Q' K hKK
  refine hKK _ _ ?_
  clear hKK
  go_wp2_with fail
  try rw [hw6]
  exact bodyPost_ret (v := .tuple #[.agg #[.int .i64 x, .int .i64 y], .int .i64 0]) (by simp [results, Try.results30, go_sem, s0, s1]) rfl ⟨rfl, HB6.out⟩
end Go.Proofs.Ytnflgikmljfakaa
