/- Object: Period, Session, AsSession. -/
import Derived.Test.YtnflgikmljfakaaObjJ
namespace Go.Proofs.Ytnflgikmljfakaa
open Go.RowKit Go.Shelf
set_option linter.unusedVariables false
set_option linter.unusedSimpArgs false
attribute [local go_sem] Oper.semAt_some
theorem word_yes {x l m : Int} (h0 : l ≤ x) (h1 : x ≤ m) : wiB x l m = true := by unfold wiB; simp [h0, h1]
set_option maxRecDepth 100000 in
theorem period_any (x : Int) (hx : wiB x 1 1000000 = true) (w : World) : Calls Try.prog 14 #[.int .i64 x] w fun e w' => ∃ b, e = .returned (.tuple #[.agg #[.int .i64 5, .int .i64 1, .slice (some ⟨b, 0, none⟩) 1 1], .int .i64 0]) ∧ SAt iC 1 w' (.slice (some ⟨b, 0, none⟩) 1 1) [x] ∧ Below w.heap.size w w' := by
  obtain ⟨Q, hQ⟩ : ∃ Q : Ending → World → Prop, Q = fun e w' => ∃ b, e = .returned (.tuple #[.agg #[.int .i64 5, .int .i64 1, .slice (some ⟨b, 0, none⟩) 1 1], .int .i64 0]) ∧ SAt iC 1 w' (.slice (some ⟨b, 0, none⟩) 1 1) [x] ∧ Below w.heap.size w w' := ⟨_, rfl⟩
  rw [← hQ]
  have HQ := Lib.hid hQ
  clear hQ
  go_enter Try.func14, Try.ntmps14
  go_upto_region 1 with fail
  obtain ⟨w0, hw0⟩ : ∃ w0, (w.alloc (.cells #[.int .i64 0, .int .i64 0, .slice none 0 0] 32)) = w0 := ⟨_, rfl⟩
  have hfz : w0.heap[w.heap.size]? = some (.cells #[.int .i64 0, .int .i64 0, .slice none 0 0] 32 (0, 0)) := by rw [← hw0]; exact new_block _ _
  have hB0 : Below w.heap.size w w0 := by rw [← hw0]; exact bl_alloc (Below.refl _ _) _
  have hz0 : w0.heap.size = w.heap.size + 1 := by rw [← hw0]; simp
  rw [hw0]
  clear hw0
  have HB0 := Lib.hid hB0
  have HFZ := Lib.hid hfz
  have HZ0 := Lib.hid hz0
  clear hB0 hfz hz0
  go_wp2_with (first | (go_at_call 26; refine (periods_any _).mono ?_; rintro e w1 ⟨b1, b2, rfl, hb1, hc1, hc2⟩; have HB1 := Lib.hid hb1; have HC1 := Lib.hid hc1; have HC2 := Lib.hid hc2; clear hb1 hc1 hc2) | fail)
  refine (obj64_any _ _ _ _ _ _ _ HC1.out HC2.out hx).mono ?_
  rintro e w2 ⟨b, rfl, hs2, hb2, hbb⟩
  have hbb : w.heap.size < b := by (have := HZ0.out; have := HB1.out.size; omega)
  have HBB := Lib.hid hbb
  have HB2 := Lib.hid (HB1.out.trans (hb2.mono HB1.out.size))
  have HS2 := Lib.hid hs2
  have HF2 := Lib.hid ((HB2.out.block w.heap.size (by have := HZ0.out; omega)).trans HFZ.out)
  obtain ⟨⟨y0, y1, y2⟩, z0, z1, z2⟩ := cells3 HF2.out
  clear hb2 hs2 hbb
  dsimp only
  go_wp2
  obtain ⟨w5, hw5, ⟨s0, s1, s2⟩, ho, hb5, -⟩ := threew (.int .i64 5) (.int .i64 1) (.slice (some ⟨b, 0, none⟩) 1 1) (Nat.le_refl w.heap.size) HF2.out
  rw [hw5]
  refine bodyPost_ret (v := .tuple #[.agg #[.int .i64 5, .int .i64 1, .slice (some ⟨b, 0, none⟩) 1 1], .int .i64 0]) (by simp [results, Try.results14, go_sem, s0, s1, s2]) rfl ?_
  rw [HQ.out]
  exact ⟨_, rfl, sat_block HS2.out (ho _ (by have := HBB.out; omega)), ((HB0.out.trans (HB2.out.mono HB0.out.size)).trans hb5)⟩
theorem node_any (x : Int) (w : World) : Calls Try.prog 44 #[.int .i64 x] w fun e w' => e = .returned (.bool (wiB x 0 15)) ∧ w = w' := by
  go_enter Try.func44, Try.ntmps44
  go_wp2_with (go_at_call 33; refine (within64_any _ _ _ _).mono ?_; rintro e w' ⟨rfl, rfl⟩)
  go_ret
  exact ⟨rfl, rfl⟩
theorem port_any (x : Int) (w : World) : Calls Try.prog 45 #[.int .i64 x] w fun e w' => e = .returned (.bool (wiB x 1 65535)) ∧ w = w' := by
  go_enter Try.func45, Try.ntmps45
  go_wp2_with (go_at_call 33; refine (within64_any _ _ _ _).mono ?_; rintro e w' ⟨rfl, rfl⟩)
  go_ret
  exact ⟨rfl, rfl⟩
theorem sess3_any (a b : Int) (w : World) : Calls Try.prog 43 #[.agg #[.int .i64 a, .int .i64 b]] w fun e w' => e = .returned (.bool (wiB a 0 15 && wiB b 1 65535)) ∧ Below w.heap.size w w' := by
  cases h : wiB a 0 15
  · go_enter Try.func43, Try.ntmps43
    go_wp2_with (go_at_call 44; refine (node_any _ _).mono ?_; rintro e w' ⟨rfl, rfl⟩; rw [h])
    go_ret
    exact ⟨by simp, bl_alloc (Below.refl _ _) _⟩
  · go_enter Try.func43, Try.ntmps43
    go_wp2_with (first | (go_at_call 44; refine (node_any _ _).mono ?_; rintro e w' ⟨rfl, rfl⟩; rw [h]) | (go_at_call 45; refine (port_any _ _).mono ?_; rintro e w' ⟨rfl, rfl⟩))
    go_ret
    exact ⟨by simp, bl_alloc (Below.refl _ _) _⟩
theorem sat_twoI (w : World) (x y : Int) {b : Nat} (hb : b = w.heap.size) : SAt iC 1 (w.alloc (.cells #[.int .i64 x, .int .i64 y] 2)) (.slice (some ⟨b, 0, none⟩) 2 2) [x, y] := by
  subst hb
  exact Or.inr ⟨_, 0, 2, rfl, Nat.le_refl _, by simp [maxLen], rowAt_new (enc := iC) (k := 1) (fun _ => rfl) w 2 [x, y] rfl rfl⟩
theorem sess1_any (a b : Int) (hb0 : 0 ≤ b) (hb1 : b ≤ 1000000000) (w : World) : Calls Try.prog 40 #[.agg #[.int .i64 a, .int .i64 b]] w fun e w' => ∃ p, e = .returned (.slice (some ⟨p, 0, none⟩) 2 2) ∧ SAt iC 1 w' (.slice (some ⟨p, 0, none⟩) 2 2) [a, 285212672 + b] ∧ Below w.heap.size w w' ∧ w.heap.size ≤ p := by
  go_enter Try.func40, Try.ntmps40
  go_wp2_with (go_at_call 41; refine (list_any _ _).mono ?_; rintro e w' ⟨rfl, rfl⟩)
  go_ret
  exact ⟨_, rfl, sat_twoI _ a _ (by simp), bl_alloc (bl_alloc (Below.refl _ _) _) _, by omega⟩
theorem cells2 {w : World} {b : Nat} {v0 v1 : Value} {t : TypeId} (h : w.heap[b]? = some (.cells #[v0, v1] t (0, 0))) :
    (w.cell? ⟨b, 0, none⟩ = some v0 ∧ w.cell? ⟨b, 1, none⟩ = some v1) ∧ w.frozen? ⟨b, 0, none⟩ = false ∧ w.frozen? ⟨b, 1, none⟩ = false := by
  refine ⟨⟨?_, ?_⟩, ?_, ?_⟩ <;> simp [World.cell?, World.frozen?, h]
theorem twow {w : World} {b B : Nat} {v0 v1 : Value} (a0 a1 : Value) {t : TypeId} (hB : B ≤ b) (h : w.heap[b]? = some (.cells #[v0, v1] t (0, 0))) :
    ∃ w2, ((w.setCell ⟨b, 0, none⟩ a0).setCell ⟨b, 1, none⟩ a1) = w2 ∧ (w2.cell? ⟨b, 0, none⟩ = some a0 ∧ w2.cell? ⟨b, 1, none⟩ = some a1) ∧
      (∀ (i : Nat), i ≠ b → w2.heap[i]? = w.heap[i]?) ∧ Below B w w2 ∧ w2.heap[b]? = some (.cells #[a0, a1] t (0, 0)) := by
  have hk : ((w.setCell ⟨b, 0, none⟩ a0).setCell ⟨b, 1, none⟩ a1).heap[b]? = some (.cells #[a0, a1] t (0, 0)) := by simp [World.setCell, Array.getElem?_modify, h]
  exact ⟨_, rfl, (cells2 hk).1, fun i hi => by simp [World.setCell, Array.getElem?_modify, Ne.symm hi], bl_set (bl_set (Below.refl _ _) hB _) hB _, hk⟩
theorem sess2_any (v : Value) (x y : Int) (hy0 : 0 ≤ y) (hy1 : y ≤ 4294967295) (w : World) (h : WsAt w v [x, y]) : Calls Try.prog 42 #[v] w fun e w' => e = .returned (.agg #[.int .i64 x, .int .i64 (y - 285212672)]) ∧ Below w.heap.size w w' := by
  obtain ⟨b, o, c, hv, g0⟩ := ws_get h (j := 0) rfl
  obtain ⟨b', o', c', hv', g1⟩ := ws_get h (j := 1) rfl
  rw [hv] at hv'
  cases hv'
  subst hv
  clear h
  go_enter Try.func42, Try.ntmps42
  go_upto_region 1 with fail
  obtain ⟨w0, hw0⟩ : ∃ w0, (w.alloc (.cells #[.int .i64 0, .int .i64 0] 45)) = w0 := ⟨_, rfl⟩
  have hfz : w0.heap[w.heap.size]? = some (.cells #[.int .i64 0, .int .i64 0] 45 (0, 0)) := by rw [← hw0]; exact new_block _ _
  have hB0 : Below w.heap.size w w0 := by rw [← hw0]; exact bl_alloc (Below.refl _ _) _
  rw [Nat.add_zero] at g0
  have g0' := bl_cell hB0 g0
  have g1' := bl_cell hB0 g1
  rw [hw0]
  clear hw0 g0 g1
  have hwr : IntKind.i64.wrap (y - 285212672) = y - 285212672 := by rw [IntWalk.i64_in _ (by omega)]
  refine wp_region_till 8 (S := (fun W' : World => W' = w0.drew)) (by kernel_rfl) rfl (fun hHeld => ?_)
  refine till_yes (i := 0) (v := ?_) rfl (by kernel_rfl) (by kernel_rfl) (by kernel_rfl) (by kernel_rfl) (by kernel_rfl) (fun _ _ _ h => h) (by kernel_rfl) (by assumption) ?_ ?_
  rotate_left 1
  · (intro w hSw; (try dsimp only at hSw); go_simp; try with_reducible rfl)
  try simp only [Act.put, List.setIfInBounds_toArray, List.set_cons_zero, List.set_cons_succ]

  refine till_yes (i := 1) (v := ?_) rfl (by kernel_rfl) (by kernel_rfl) (by kernel_rfl) (by kernel_rfl) (by kernel_rfl) (fun _ _ _ h => h) (by kernel_rfl) (by assumption) ?_ ?_
  rotate_left 1
  · (intro w hSw; (try dsimp only at hSw); go_simp; try with_reducible rfl)
  try simp only [Act.put, List.setIfInBounds_toArray, List.set_cons_zero, List.set_cons_succ]

  refine till_yes (i := 2) (v := ?_) rfl (by kernel_rfl) (by kernel_rfl) (by kernel_rfl) (by kernel_rfl) (by kernel_rfl) (fun _ _ _ h => h) (by kernel_rfl) (by assumption) ?_ ?_
  rotate_left 1
  · (intro w hSw; (try dsimp only at hSw); go_simp; try with_reducible rfl)
  try simp only [Act.put, List.setIfInBounds_toArray, List.set_cons_zero, List.set_cons_succ]

  refine till_yes (i := 3) (v := ?_) rfl (by kernel_rfl) (by kernel_rfl) (by kernel_rfl) (by kernel_rfl) (by kernel_rfl) (fun _ _ _ h => h) (by kernel_rfl) (by assumption) ?_ ?_
  rotate_left 1
  · (intro w hSw; (try dsimp only at hSw); go_simp; try with_reducible rfl)
  try simp only [Act.put, List.setIfInBounds_toArray, List.set_cons_zero, List.set_cons_succ]

  refine till_yes (i := 4) (v := ?_) rfl (by kernel_rfl) (by kernel_rfl) (by kernel_rfl) (by kernel_rfl) (by kernel_rfl) (fun _ _ _ h => h) (by kernel_rfl) (by assumption) ?_ ?_
  rotate_left 1
  · (intro w hSw; (try dsimp only at hSw); go_simp; try with_reducible rfl)
  try simp only [Act.put, List.setIfInBounds_toArray, List.set_cons_zero, List.set_cons_succ]

  refine till_yes (i := 5) (v := ?_) rfl (by kernel_rfl) (by kernel_rfl) (by kernel_rfl) (by kernel_rfl) (by kernel_rfl) (fun _ _ _ h => h) (by kernel_rfl) (by assumption) ?_ ?_
  rotate_left 1
  · (intro w hSw; (try dsimp only at hSw); go_simp; try with_reducible rfl)
  try simp only [Act.put, List.setIfInBounds_toArray, List.set_cons_zero, List.set_cons_succ]

  refine till_yes (i := 6) (v := ?_) rfl (by kernel_rfl) (by kernel_rfl) (by kernel_rfl) (by kernel_rfl) (by kernel_rfl) (fun _ _ _ h => h) (by kernel_rfl) (by assumption) ?_ ?_
  rotate_left 1
  · (intro w hSw; (try dsimp only at hSw); go_simp; try with_reducible rfl)
  try simp only [Act.put, List.setIfInBounds_toArray, List.set_cons_zero, List.set_cons_succ]

  refine till_yes (i := 7) (v := ?_) rfl (by kernel_rfl) (by kernel_rfl) (by kernel_rfl) (by kernel_rfl) (by kernel_rfl) (fun _ _ _ h => h) (by kernel_rfl) (by assumption) ?_ ?_
  rotate_left 1
  · (intro w hSw; (try dsimp only at hSw); go_simp; try with_reducible rfl)
  try simp only [Act.put, List.setIfInBounds_toArray, List.set_cons_zero, List.set_cons_succ]

  obtain ⟨⟨z0, z1⟩, z2, z3⟩ := cells2 hfz
  refine till_late (i := 8) rfl (by decide) (by kernel_rfl) (fun K' hK => ?_)
  go_simp
  refine hK.out _ _ ?_
  clear hK K'
  refine till_done (by kernel_rfl) ?_ _
  rename_i Q' K hKK
  obtain ⟨w5, hw5, ⟨s0, s1⟩, ho, hb5, -⟩ := twow (.int .i64 x) (.int .i64 (y - 285212672)) (Nat.le_refl w.heap.size) hfz
  rw [hw5]
  refine hKK _ _ ?_
  go_wp2
  exact bodyPost_ret (v := .agg #[.int .i64 x, .int .i64 (y - 285212672)]) (by simp [results, Try.results42, go_sem, s0, s1]) rfl ⟨rfl, bl_drew (hB0.trans hb5)⟩
theorem sessions_any (w : World) : Calls Try.prog 28 #[] w fun e w' => e = .returned (.agg #[.int .i64 1, .int .i64 1, .int .i64 2, .func (.func 40) #[] #[], .func (.func 42) #[] #[], .func (.func 43) #[] #[]]) ∧ Below w.heap.size w w' := by
  go_enter Try.func28, Try.ntmps28
  go_wp2
  exact bodyPost_ret (v := (.agg #[.int .i64 1, .int .i64 1, .int .i64 2, .func (.func 40) #[] #[], .func (.func 42) #[] #[], .func (.func 43) #[] #[]])) (by simp [results, Try.results28, go_sem]) rfl ⟨rfl, bl_alloc (Below.refl _ _) _⟩
end Go.Proofs.Ytnflgikmljfakaa
