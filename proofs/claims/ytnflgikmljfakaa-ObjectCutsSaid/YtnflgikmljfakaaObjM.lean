/- Object: Session. -/
import Derived.Test.YtnflgikmljfakaaObjL
namespace Go.Proofs.Ytnflgikmljfakaa
open Go.RowKit Go.Shelf
set_option linter.unusedVariables false
set_option linter.unusedSimpArgs false
attribute [local go_sem] Oper.semAt_some
set_option maxRecDepth 100000 in
set_option maxHeartbeats 1000000 in
theorem session_any (a b : Int) (ha : wiB a 0 15 = true) (hb : wiB b 1 65535 = true) (w : World) :
    Calls Try.prog 15 #[.agg #[.int .i64 a, .int .i64 b]] w fun e w' => ∃ p, e = .returned (.tuple #[.agg #[.int .i64 1, .int .i64 1, .slice (some ⟨p, 0, none⟩) 2 2], .int .i64 0]) ∧ SAt iC 1 w' (.slice (some ⟨p, 0, none⟩) 2 2) [a, 285212672 + b] ∧ Below w.heap.size w w' ∧ w.heap.size ≤ p := by
  have HAB := Lib.hid (And.intro ha hb)
  clear ha hb
  go_enter Try.func15, Try.ntmps15
  go_upto_region 1 with fail
  obtain ⟨W0, hW0, hbs, hfz, hB0, hz0⟩ := two_new w #[.int .i64 a, .int .i64 b] #[.int .i64 0, .int .i64 0, .slice none 0 0] 45 32
  rw [hW0]
  clear hW0
  obtain ⟨⟨d0, d1⟩, -⟩ := cells2 hbs
  have HS0 := Lib.hid (show ∀ X, Below W0.heap.size W0 X → (fun W' : World => W'.cell? ⟨w.heap.size, 0, none⟩ = some (.int .i64 a) ∧ W'.cell? ⟨w.heap.size, 1, none⟩ = some (.int .i64 b)) X from fun X hX => ⟨bl_cell hX d0, bl_cell hX d1⟩)
  have HFZ := Lib.hid hfz
  have HB0 := Lib.hid hB0
  have HZ0 := Lib.hid hz0
  clear hbs hfz hB0 hz0 d0 d1
  refine wp_region_till 5 (S := (fun W' : World => W'.cell? ⟨w.heap.size, 0, none⟩ = some (.int .i64 a) ∧ W'.cell? ⟨w.heap.size, 1, none⟩ = some (.int .i64 b))) (by kernel_rfl) (HS0.out _ (bl_drew (Below.refl _ _))) (fun hHeld => ?_)
  refine till_yes (i := 1) (v := ?_) rfl (by kernel_rfl) (by kernel_rfl) (by kernel_rfl) (by kernel_rfl) (by kernel_rfl) (fun _ _ _ h => h) (by kernel_rfl) (by assumption) ?_ ?_
  rotate_left 1
  · (intro w hSw; (try dsimp only at hSw); go_simp; try with_reducible rfl)
  try simp only [Act.put, List.setIfInBounds_toArray, List.set_cons_zero, List.set_cons_succ]

  refine till_one (i := 0) rfl (by kernel_rfl) (fun K' hK => ?_)
  go_simp
  refine (sessions_any _).mono ?_
  rintro e w1 ⟨rfl, hb1⟩
  go_simp
  have hb1' : Below W0.heap.size W0 w1 := bl_then (bl_drew (Below.refl _ _)) hb1
  refine hK.out _ _ (HS0.out _ hb1') (fun hHeld2 => ?_)
  clear hK K' hHeld hb1
  try simp only [Act.put, List.setIfInBounds_toArray, List.set_cons_zero, List.set_cons_succ]
  refine till_one (i := 2) rfl (by kernel_rfl) (fun K' hK => ?_)
  go_simp
  refine (objS_any a b HAB.out.1 HAB.out.2 _).mono ?_
  rintro e w4 ⟨p, rfl, hs4, hb4, hp4⟩
  go_simp
  have hb4' : Below W0.heap.size W0 w4 := bl_then hb1' hb4
  refine hK.out _ _ (HS0.out _ hb4') (fun hHeld3 => ?_)
  clear hK K' hHeld2
  try simp only [Act.put, List.setIfInBounds_toArray, List.set_cons_zero, List.set_cons_succ]
  refine till_yes (i := 3) (v := ?_) rfl (by kernel_rfl) (by kernel_rfl) (by kernel_rfl) (by kernel_rfl) (by kernel_rfl) (fun _ _ _ h => h) (by kernel_rfl) (by assumption) ?_ ?_
  rotate_left 1
  · (intro w hSw; (try dsimp only at hSw); go_simp; try with_reducible rfl)
  try simp only [Act.put, List.setIfInBounds_toArray, List.set_cons_zero, List.set_cons_succ]

  refine till_yes (i := 4) (v := ?_) rfl (by kernel_rfl) (by kernel_rfl) (by kernel_rfl) (by kernel_rfl) (by kernel_rfl) (fun _ _ _ h => h) (by kernel_rfl) (by assumption) ?_ ?_
  rotate_left 1
  · (intro w hSw; (try dsimp only at hSw); go_simp; try with_reducible rfl)
  try simp only [Act.put, List.setIfInBounds_toArray, List.set_cons_zero, List.set_cons_succ]

  have hz0 := HZ0.out
  have hz1 := hb1'.size
  have hf4 := (hb4'.block (w.heap.size + 1) (by omega)).trans HFZ.out
  obtain ⟨⟨y0, y1, y2⟩, z0, z1, z2⟩ := cells3 hf4
  refine till_late (i := 5) rfl (by decide) (by kernel_rfl) (fun K' hK => ?_)
  go_simp
  refine hK.out _ _ ?_
  clear hK K'
  try simp only [Act.put, List.setIfInBounds_toArray, List.set_cons_zero, List.set_cons_succ]
  refine till_late (i := 6) rfl (by decide) (by kernel_rfl) (fun K' hK => ?_)
  go_simp
  refine hK.out _ _ ?_
  clear hK K'
  refine till_done (by kernel_rfl) ?_ _
  rename_i Q' K hKK
  obtain ⟨w5, hw5, ⟨s0, s1, s2⟩, ho, hb5, -⟩ := threew (.int .i64 1) (.int .i64 1) (.slice (some ⟨p, 0, none⟩) 2 2) (show w.heap.size ≤ w.heap.size + 1 by omega) hf4
  rw [hw5]
  refine hKK _ _ ?_
  clear hKK K
  go_wp2
  exact bodyPost_ret (v := .tuple #[.agg #[.int .i64 1, .int .i64 1, .slice (some ⟨p, 0, none⟩) 2 2], .int .i64 0]) (by simp [results, Try.results15, go_sem, s0, s1, s2]) rfl ⟨_, rfl, sat_block hs4 (ho _ (by omega)), ((HB0.out.trans (hb4'.mono (by omega))).trans hb5), by omega⟩
end Go.Proofs.Ytnflgikmljfakaa
