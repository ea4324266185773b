/- Object: says at Session. -/
import Derived.Test.YtnflgikmljfakaaObjK
namespace Go.Proofs.Ytnflgikmljfakaa
open Go.RowKit Go.Shelf
set_option linter.unusedVariables false
set_option linter.unusedSimpArgs false
attribute [local go_sem] Oper.semAt_some
theorem three_new (w : World) (a b c : Array Value) (s t u : TypeId) : ∃ W0, ((w.alloc (.cells a s)).alloc (.cells b t)).alloc (.cells c u) = W0 ∧ W0.heap[w.heap.size]? = some (.cells a s (0, 0)) ∧ W0.heap[w.heap.size + 1]? = some (.cells b t (0, 0)) ∧ W0.heap[w.heap.size + 1 + 1]? = some (.cells c u (0, 0)) ∧ Below w.heap.size w W0 ∧ W0.heap.size = w.heap.size + 1 + 1 + 1 := by
  obtain ⟨W1, hW1, h0, h1, hb, hz⟩ := two_new w a b s t
  rw [hW1]
  have hb1 := bl_alloc (Below.refl W1.heap.size W1) (.cells c u)
  refine ⟨_, rfl, (hb1.block _ (by omega)).trans h0, (hb1.block _ (by omega)).trans h1, ?_, bl_alloc hb _, by simp [hz]⟩
  have := new_block W1 (.cells c u)
  rwa [hz] at this
set_option maxRecDepth 100000 in
set_option maxHeartbeats 1000000 in
theorem objS_any (a b : Int) (ha : wiB a 0 15 = true) (hb : wiB b 1 65535 = true) (w : World) :
    Calls Try.prog 29 #[.agg #[.int .i64 1, .int .i64 1, .int .i64 2, .func (.func 40) #[] #[], .func (.func 42) #[] #[], .func (.func 43) #[] #[]], .agg #[.int .i64 a, .int .i64 b]] w fun e w' => ∃ p, e = .returned (.tuple #[.agg #[.int .i64 1, .int .i64 1, .slice (some ⟨p, 0, none⟩) 2 2], .int .i64 0]) ∧ SAt iC 1 w' (.slice (some ⟨p, 0, none⟩) 2 2) [a, 285212672 + b] ∧ Below w.heap.size w w' ∧ w.heap.size ≤ p := by
  have hb0 : 0 ≤ b := by unfold wiB at hb; simp at hb; omega
  have hb1 : b ≤ 1000000000 := by unfold wiB at hb; simp at hb; omega
  have hyes : (wiB a 0 15 && wiB b 1 65535) = true := by rw [ha, hb]; rfl
  clear ha hb
  go_enter Try.func29, Try.ntmps29
  go_upto_region 1 with fail
  obtain ⟨W0, hW0, hbx, hbs, hfz, hB0, hz0⟩ := three_new w #[.int .i64 1, .int .i64 1, .int .i64 2, .func (.func 40) #[] #[], .func (.func 42) #[] #[], .func (.func 43) #[] #[]] #[.int .i64 a, .int .i64 b] #[.int .i64 0, .int .i64 0, .slice none 0 0] 67 45 32
  rw [hW0]
  clear hW0
  obtain ⟨⟨a0, a1, a2, a3, a4, a5⟩, -⟩ := cells6 hbx
  obtain ⟨⟨d0, d1⟩, -⟩ := cells2 hbs
  have HS0 := Lib.hid (show ∀ X, Below W0.heap.size W0 X → (fun W' : World => W'.cell? ⟨w.heap.size, 0, none⟩ = some (.int .i64 1) ∧ W'.cell? ⟨w.heap.size, 1, none⟩ = some (.int .i64 1) ∧ W'.cell? ⟨w.heap.size, 3, none⟩ = some (.func (.func 40) #[] #[]) ∧ W'.cell? ⟨w.heap.size + 1, 0, none⟩ = some (.int .i64 a) ∧ W'.cell? ⟨w.heap.size + 1, 1, none⟩ = some (.int .i64 b)) X from fun X hX => ⟨bl_cell hX a0, bl_cell hX a1, bl_cell hX a3, bl_cell hX d0, bl_cell hX d1⟩)
  have HFZ := Lib.hid hfz
  have HB0 := Lib.hid hB0
  have HZ0 := Lib.hid hz0
  clear hbx hbs hfz hB0 hz0
  go_upto_region 3 with (go_at_call 43; refine (sess3_any a b _).mono ?_; rintro e w1 ⟨rfl, hb1'⟩; rw [hyes]; have HB1 := Lib.hid hb1'; clear hb1')
  clear a0 a1 a2 a3 a4 a5 d0 d1
  have HSX := Lib.hid (show ∀ X, Below w1.heap.size w1 X → (fun W' : World => W'.cell? ⟨w.heap.size, 0, none⟩ = some (.int .i64 1) ∧ W'.cell? ⟨w.heap.size, 1, none⟩ = some (.int .i64 1) ∧ W'.cell? ⟨w.heap.size, 3, none⟩ = some (.func (.func 40) #[] #[]) ∧ W'.cell? ⟨w.heap.size + 1, 0, none⟩ = some (.int .i64 a) ∧ W'.cell? ⟨w.heap.size + 1, 1, none⟩ = some (.int .i64 b)) X from fun X hX => HS0.out X (bl_then HB1.out hX))
  refine wp_region_till 9 (S := (fun W' : World => W'.cell? ⟨w.heap.size, 0, none⟩ = some (.int .i64 1) ∧ W'.cell? ⟨w.heap.size, 1, none⟩ = some (.int .i64 1) ∧ W'.cell? ⟨w.heap.size, 3, none⟩ = some (.func (.func 40) #[] #[]) ∧ W'.cell? ⟨w.heap.size + 1, 0, none⟩ = some (.int .i64 a) ∧ W'.cell? ⟨w.heap.size + 1, 1, none⟩ = some (.int .i64 b))) (by kernel_rfl) (HSX.out _ (bl_drew (Below.refl _ _))) (fun hHeld => ?_)
  refine till_yes (i := 0) (v := ?_) rfl (by kernel_rfl) (by kernel_rfl) (by kernel_rfl) (by kernel_rfl) (by kernel_rfl) (fun _ _ _ h => h) (by kernel_rfl) (by assumption) ?_ ?_
  rotate_left 1
  · (intro w hSw; (try dsimp only at hSw); go_simp; try with_reducible rfl)
  try simp only [Act.put, List.setIfInBounds_toArray, List.set_cons_zero, List.set_cons_succ]

  refine till_yes (i := 1) (v := ?_) rfl (by kernel_rfl) (by kernel_rfl) (by kernel_rfl) (by kernel_rfl) (by kernel_rfl) (fun _ _ _ h => h) (by kernel_rfl) (by assumption) ?_ ?_
  rotate_left 1
  · (intro w hSw; (try dsimp only at hSw); go_simp; try with_reducible rfl)
  try simp only [Act.put, List.setIfInBounds_toArray, List.set_cons_zero, List.set_cons_succ]

  refine till_yes (i := 2) (v := ?_) rfl (by kernel_rfl) (by kernel_rfl) (by kernel_rfl) (by kernel_rfl) (by kernel_rfl) (fun _ _ _ h => h) (by kernel_rfl) (by assumption) ?_ ?_
  rotate_left 1
  · (intro w hSw; (try dsimp only at hSw); go_simp; try with_reducible rfl)
  try simp only [Act.put, List.setIfInBounds_toArray, List.set_cons_zero, List.set_cons_succ]

  refine till_yes (i := 3) (v := ?_) rfl (by kernel_rfl) (by kernel_rfl) (by kernel_rfl) (by kernel_rfl) (by kernel_rfl) (fun _ _ _ h => h) (by kernel_rfl) (by assumption) ?_ ?_
  rotate_left 1
  · (intro w hSw; (try dsimp only at hSw); go_simp; try with_reducible rfl)
  try simp only [Act.put, List.setIfInBounds_toArray, List.set_cons_zero, List.set_cons_succ]

  refine till_yes (i := 4) (v := ?_) rfl (by kernel_rfl) (by kernel_rfl) (by kernel_rfl) (by kernel_rfl) (by kernel_rfl) (fun _ _ _ h => h) (by kernel_rfl) (by assumption) ?_ ?_
  rotate_left 1
  · (intro w hSw; (try dsimp only at hSw); go_simp; try with_reducible rfl)
  try simp only [Act.put, List.setIfInBounds_toArray, List.set_cons_zero, List.set_cons_succ]

  refine till_yes (i := 5) (v := ?_) rfl (by kernel_rfl) (by kernel_rfl) (by kernel_rfl) (by kernel_rfl) (by kernel_rfl) (fun _ _ _ h => h) (by kernel_rfl) (by assumption) ?_ ?_
  rotate_left 1
  · (intro w hSw; (try dsimp only at hSw); go_simp; try with_reducible rfl)
  try simp only [Act.put, List.setIfInBounds_toArray, List.set_cons_zero, List.set_cons_succ]

  refine till_yes (i := 6) (v := ?_) rfl (by kernel_rfl) (by kernel_rfl) (by kernel_rfl) (by kernel_rfl) (by kernel_rfl) (fun _ _ _ h => h) (by kernel_rfl) (by assumption) ?_ ?_
  rotate_left 1
  · (intro w hSw; (try dsimp only at hSw); go_simp; try with_reducible rfl)
  try simp only [Act.put, List.setIfInBounds_toArray, List.set_cons_zero, List.set_cons_succ]

  refine till_one (i := 7) rfl (by kernel_rfl) (fun K' hK => ?_)
  go_simp
  refine (sess1_any a b hb0 hb1 _).mono ?_
  rintro e w4 ⟨p, rfl, hs4, hb4, hp4⟩
  go_simp
  have hb4' : Below w1.heap.size w1 w4 := bl_then (bl_drew (Below.refl _ _)) hb4
  rw [World.size_drew] at hp4
  refine hK.out _ _ (HSX.out _ hb4') (fun hHeld2 => ?_)
  clear hK K' hHeld hb4
  try simp only [Act.put, List.setIfInBounds_toArray, List.set_cons_zero, List.set_cons_succ]
  refine till_yes (i := 8) (v := ?_) rfl (by kernel_rfl) (by kernel_rfl) (by kernel_rfl) (by kernel_rfl) (by kernel_rfl) (fun _ _ _ h => h) (by kernel_rfl) (by assumption) ?_ ?_
  rotate_left 1
  · (intro w hSw; (try dsimp only at hSw); go_simp; try with_reducible rfl)
  try simp only [Act.put, List.setIfInBounds_toArray, List.set_cons_zero, List.set_cons_succ]

  have hz0 := HZ0.out
  have hz1 := HB1.out.size
  have hf4 := (hb4'.block (w.heap.size + 1 + 1) (by omega)).trans ((HB1.out.block (w.heap.size + 1 + 1) (by omega)).trans HFZ.out)
  obtain ⟨⟨y0, y1, y2⟩, z0, z1, z2⟩ := cells3 hf4
  refine till_late (i := 9) rfl (by decide) (by kernel_rfl) (fun K' hK => ?_)
  go_simp
  refine hK.out _ _ ?_
  clear hK K'
  try simp only [Act.put, List.setIfInBounds_toArray, List.set_cons_zero, List.set_cons_succ]
  refine till_late (i := 10) rfl (by decide) (by kernel_rfl) (fun K' hK => ?_)
  go_simp
  refine hK.out _ _ ?_
  clear hK K'
  refine till_done (by kernel_rfl) ?_ _
  rename_i Q' K hKK
  obtain ⟨w5, hw5, ⟨s0, s1, s2⟩, ho, hb5, -⟩ := threew (.int .i64 1) (.int .i64 1) (.slice (some ⟨p, 0, none⟩) 2 2) (show w.heap.size ≤ w.heap.size + 1 + 1 by omega) hf4
  rw [hw5]
  refine hKK _ _ ?_
  clear hKK K
  go_wp2
  exact bodyPost_ret (v := .tuple #[.agg #[.int .i64 1, .int .i64 1, .slice (some ⟨p, 0, none⟩) 2 2], .int .i64 0]) (by simp [results, Try.results29, go_sem, s0, s1, s2]) rfl ⟨_, rfl, sat_block hs4 (ho _ (by omega)), ((HB0.out.trans (HB1.out.mono (by omega))).trans ((hb4'.mono (by omega)).trans hb5)), by omega⟩
end Go.Proofs.Ytnflgikmljfakaa
