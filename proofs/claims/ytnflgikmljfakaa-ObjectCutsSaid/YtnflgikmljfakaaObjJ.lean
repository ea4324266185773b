/- Object: Period. -/
import Derived.Test.YtnflgikmljfakaaObjI
import Derived.Test.YtnflgikmljfakaaRnd
namespace Go.Proofs.Ytnflgikmljfakaa
open Go.RowKit Go.Shelf
set_option linter.unusedVariables false
set_option linter.unusedSimpArgs false
attribute [local go_sem] Oper.semAt_some
theorem sat_oneI (w : World) (x : Int) {b : Nat} (hb : b = w.heap.size) : SAt iC 1 (w.alloc (.cells #[.int .i64 x] 2)) (.slice (some ⟨b, 0, none⟩) 1 1) [x] := by
  subst hb
  exact Or.inr ⟨_, 0, 1, rfl, Nat.le_refl _, by simp [maxLen], rowAt_new (enc := iC) (k := 1) (fun _ => rfl) w 2 [x] rfl rfl⟩
theorem list_any (v : Value) (w : World) : Calls Try.prog 41 #[v] w fun e w' => e = .returned v ∧ w = w' := by
  go_enter Try.func41, Try.ntmps41
  go_wp2
  go_ret
  exact ⟨rfl, rfl⟩
theorem num1_any (x : Int) (w : World) : Calls Try.prog 47 #[.int .i64 x] w fun e w' => e = .returned (.slice (some ⟨w.heap.size, 0, none⟩) 1 1) ∧ w' = w.alloc (.cells #[.int .i64 x] 2) := by
  go_enter Try.func47, Try.ntmps47
  go_wp2_with (go_at_call 41; refine (list_any _ _).mono ?_; rintro e w' ⟨rfl, rfl⟩)
  go_ret
  exact ⟨rfl, rfl⟩
theorem num3_any (x l m : Int) (b1 b2 : Nat) (w : World) (h1 : w.cell? ⟨b1, 0, none⟩ = some (.int .i64 l)) (h2 : w.cell? ⟨b2, 0, none⟩ = some (.int .i64 m)) :
    Calls Try.prog 49 #[.int .i64 x, .pointer (some ⟨b1, 0, none⟩), .pointer (some ⟨b2, 0, none⟩)] w fun e w' => e = .returned (.bool (wiB x l m)) ∧ w = w' := by
  go_enter Try.func49, Try.ntmps49
  go_wp2_with (go_at_call 33; refine (within64_any _ _ _ _).mono ?_; rintro e w' ⟨rfl, rfl⟩)
  go_ret
  exact ⟨rfl, rfl⟩
theorem cells6 {w : World} {b : Nat} {v0 v1 v2 v3 v4 v5 : Value} {t : TypeId} (h : w.heap[b]? = some (.cells #[v0, v1, v2, v3, v4, v5] t (0, 0))) :
    (w.cell? ⟨b, 0, none⟩ = some v0 ∧ w.cell? ⟨b, 1, none⟩ = some v1 ∧ w.cell? ⟨b, 2, none⟩ = some v2 ∧ w.cell? ⟨b, 3, none⟩ = some v3 ∧ w.cell? ⟨b, 4, none⟩ = some v4 ∧ w.cell? ⟨b, 5, none⟩ = some v5) ∧
    w.frozen? ⟨b, 0, none⟩ = false ∧ w.frozen? ⟨b, 1, none⟩ = false ∧ w.frozen? ⟨b, 2, none⟩ = false ∧ w.frozen? ⟨b, 3, none⟩ = false ∧ w.frozen? ⟨b, 4, none⟩ = false ∧ w.frozen? ⟨b, 5, none⟩ = false := by
  refine ⟨⟨?_, ?_, ?_, ?_, ?_, ?_⟩, ?_, ?_, ?_, ?_, ?_, ?_⟩ <;> simp [World.cell?, World.frozen?, h]
theorem set6 {w : World} {b : Nat} {v0 v1 v2 v3 v4 v5 a0 a1 a2 a3 a4 a5 : Value} {t : TypeId} {fr : Nat × Nat} (h : w.heap[b]? = some (.cells #[v0, v1, v2, v3, v4, v5] t fr)) :
    ((((((w.setCell ⟨b, 0, none⟩ a0).setCell ⟨b, 1, none⟩ a1).setCell ⟨b, 2, none⟩ a2).setCell ⟨b, 3, none⟩ a3).setCell ⟨b, 4, none⟩ a4).setCell ⟨b, 5, none⟩ a5).heap[b]? = some (.cells #[a0, a1, a2, a3, a4, a5] t fr) := by
  simp [World.setCell, Array.getElem?_modify, h]
theorem sixw {w : World} {b B : Nat} {v0 v1 v2 v3 v4 v5 : Value} (a0 a1 a2 a3 a4 a5 : Value) {t : TypeId} (hB : B ≤ b) (h : w.heap[b]? = some (.cells #[v0, v1, v2, v3, v4, v5] t (0, 0))) :
    ∃ w2, ((((((w.setCell ⟨b, 0, none⟩ a0).setCell ⟨b, 1, none⟩ a1).setCell ⟨b, 2, none⟩ a2).setCell ⟨b, 3, none⟩ a3).setCell ⟨b, 4, none⟩ a4).setCell ⟨b, 5, none⟩ a5) = w2 ∧
      (w2.cell? ⟨b, 0, none⟩ = some a0 ∧ w2.cell? ⟨b, 1, none⟩ = some a1 ∧ w2.cell? ⟨b, 2, none⟩ = some a2 ∧ w2.cell? ⟨b, 3, none⟩ = some a3 ∧ w2.cell? ⟨b, 4, none⟩ = some a4 ∧ w2.cell? ⟨b, 5, none⟩ = some a5) ∧
      (∀ (i : Nat), i ≠ b → w2.heap[i]? = w.heap[i]?) ∧ Below B w w2 :=
  ⟨_, rfl, (cells6 (set6 h)).1, fun i hi => by simp [World.setCell, Array.getElem?_modify, Ne.symm hi], by
    repeat (refine bl_set ?_ hB _)
    exact Below.refl _ _⟩
abbrev saysN (c : Int) (b1 b2 : Nat) : Value := .agg #[.int .i64 c, .int .i64 1, .int .i64 1, .func (.func 47) #[] #[], .func (.func 48) #[] #[], .func (.func 49) #[] #[.pointer (some ⟨b1, 0, none⟩), .pointer (some ⟨b2, 0, none⟩)]]
set_option maxRecDepth 100000 in
theorem numbers_any (c l m : Int) (w : World) : Calls Try.prog 39 #[.int .i64 c, .int .i64 l, .int .i64 m] w fun e w' => e = .returned (saysN c w.heap.size (w.heap.size + 1)) ∧ Below w.heap.size w w' ∧ w'.cell? ⟨w.heap.size, 0, none⟩ = some (.int .i64 l) ∧ w'.cell? ⟨w.heap.size + 1, 0, none⟩ = some (.int .i64 m) := by
  have hmf : ∀ (fn : Fn) (first cap : Array Value) (w : World), (Instr.makeFunc fn first cap).run Try.prog w = .ok (.func fn first cap) w := fun _ _ _ _ => rfl
  go_enter Try.func39, Try.ntmps39
  go_wp2_with fail
  refine bodyPost_ret (v := saysN c w.heap.size (w.heap.size + 1)) (by simp [results, Try.results39, go_sem]) rfl ⟨rfl, by repeat (first | exact Below.refl _ _ | refine bl_alloc ?_ _), ?_, ?_⟩
  · go_simp
  · go_simp
set_option maxRecDepth 100000 in
theorem periods_any (w : World) : Calls Try.prog 26 #[] w fun e w' => ∃ b1 b2, e = .returned (saysN 5 b1 b2) ∧ Below w.heap.size w w' ∧ w'.cell? ⟨b1, 0, none⟩ = some (.int .i64 1) ∧ w'.cell? ⟨b2, 0, none⟩ = some (.int .i64 1000000) := by
  go_enter Try.func26, Try.ntmps26
  go_wp2_with (go_at_call 39; refine (numbers_any _ _ _ _).mono ?_; rintro e w1 ⟨rfl, hb, hc1, hc2⟩; have hbk := (hb.block w.heap.size (by simp)).trans (new_block _ _); obtain ⟨⟨a0, a1, a2, a3, a4, a5⟩, f0, f1, f2, f3, f4, f5⟩ := cells6 hbk; have HB := Lib.hid hb; have HBK := Lib.hid hbk; have HC1 := Lib.hid hc1; have HC2 := Lib.hid hc2; clear hb hbk hc1 hc2)
  obtain ⟨w2, hw2, ⟨s0, s1, s2, s3, s4, s5⟩, ho, hb2⟩ := sixw (.int .i64 5) (.int .i64 1) (.int .i64 1) (.func (.func 47) #[] #[]) (.func (.func 48) #[] #[]) (.func (.func 49) #[] #[.pointer (some ⟨w.heap.size + 1, 0, none⟩), .pointer (some ⟨w.heap.size + 1 + 1, 0, none⟩)]) (Nat.le_refl w.heap.size) HBK.out
  rw [hw2]
  have h1 := HC1.out
  rw [World.size_alloc] at h1
  have h2 := HC2.out
  rw [World.size_alloc] at h2
  have h1' := (World.cell?_of_block (a := ⟨w.heap.size + 1, 0, none⟩) (ho (w.heap.size + 1) (by omega))).trans h1
  have h2' := (World.cell?_of_block (a := ⟨w.heap.size + 1 + 1, 0, none⟩) (ho (w.heap.size + 1 + 1) (by omega))).trans h2
  refine bodyPost_ret (v := saysN 5 (w.heap.size + 1) (w.heap.size + 1 + 1)) (by simp [results, Try.results26, go_sem, s0, s1, s2, s3, s4, s5]) rfl ⟨_, _, rfl, (bl_then (bl_alloc (Below.refl _ _) _) HB.out).trans hb2, h1', h2'⟩
theorem two_new (w : World) (a b : Array Value) (s t : TypeId) : ∃ W0, (w.alloc (.cells a s)).alloc (.cells b t) = W0 ∧ W0.heap[w.heap.size]? = some (.cells a s (0, 0)) ∧ W0.heap[w.heap.size + 1]? = some (.cells b t (0, 0)) ∧ Below w.heap.size w W0 ∧ W0.heap.size = w.heap.size + 1 + 1 :=
  ⟨_, rfl, ((bl_alloc (Below.refl _ _) _ : Below (w.alloc (.cells a s)).heap.size _ _).block w.heap.size (by simp)).trans (new_block _ _), by have := new_block (w.alloc (.cells a s)) (.cells b t); rwa [World.size_alloc] at this, bl_alloc (bl_alloc (Below.refl _ _) _) _, by simp⟩
theorem cells3 {w : World} {b : Nat} {v0 v1 v2 : Value} {t : TypeId} (h : w.heap[b]? = some (.cells #[v0, v1, v2] t (0, 0))) :
    (w.cell? ⟨b, 0, none⟩ = some v0 ∧ w.cell? ⟨b, 1, none⟩ = some v1 ∧ w.cell? ⟨b, 2, none⟩ = some v2) ∧ w.frozen? ⟨b, 0, none⟩ = false ∧ w.frozen? ⟨b, 1, none⟩ = false ∧ w.frozen? ⟨b, 2, none⟩ = false := by
  refine ⟨⟨?_, ?_, ?_⟩, ?_, ?_, ?_⟩ <;> simp [World.cell?, World.frozen?, h]
theorem threew {w : World} {b B : Nat} {v0 v1 v2 : Value} (a0 a1 a2 : Value) {t : TypeId} (hB : B ≤ b) (h : w.heap[b]? = some (.cells #[v0, v1, v2] t (0, 0))) :
    ∃ w2, (((w.setCell ⟨b, 0, none⟩ a0).setCell ⟨b, 1, none⟩ a1).setCell ⟨b, 2, none⟩ a2) = w2 ∧ (w2.cell? ⟨b, 0, none⟩ = some a0 ∧ w2.cell? ⟨b, 1, none⟩ = some a1 ∧ w2.cell? ⟨b, 2, none⟩ = some a2) ∧
      (∀ (i : Nat), i ≠ b → w2.heap[i]? = w.heap[i]?) ∧ Below B w w2 ∧ w2.heap[b]? = some (.cells #[a0, a1, a2] t (0, 0)) := by
  have hk : (((w.setCell ⟨b, 0, none⟩ a0).setCell ⟨b, 1, none⟩ a1).setCell ⟨b, 2, none⟩ a2).heap[b]? = some (.cells #[a0, a1, a2] t (0, 0)) := by simp [World.setCell, Array.getElem?_modify, h]
  exact ⟨_, rfl, (cells3 hk).1, fun i hi => by simp [World.setCell, Array.getElem?_modify, Ne.symm hi], bl_set (bl_set (bl_set (Below.refl _ _) hB _) hB _) hB _, hk⟩
theorem sat_block {α : Type} {enc : α → List Value} {k : Nat} {w W : World} {b o n c : Nat} {xs : List α} (h : SAt enc k w (.slice (some ⟨b, o, none⟩) n c) xs) (he : W.heap[b]? = w.heap[b]?) : SAt enc k W (.slice (some ⟨b, o, none⟩) n c) xs := by
  rcases h with ⟨h, -⟩ | ⟨b', o', c', h1, h2, h3, h4⟩
  · cases h
  · refine Or.inr ⟨b', o', c', h1, h2, h3, fun j x hj i u hi => ?_⟩
    cases h1
    exact (World.cell?_of_block (a := ⟨b, _, none⟩) he).trans (h4 j x hj i u hi)
theorem num1_sat (x : Int) (w : World) : Calls Try.prog 47 #[.int .i64 x] w fun e w' => e = .returned (.slice (some ⟨w.heap.size, 0, none⟩) 1 1) ∧ SAt iC 1 w' (.slice (some ⟨w.heap.size, 0, none⟩) 1 1) [x] ∧ Below w.heap.size w w' :=
  (num1_any x w).mono (by rintro e w' ⟨rfl, rfl⟩; exact ⟨rfl, sat_oneI w x rfl, bl_alloc (Below.refl _ _) _⟩)
set_option maxRecDepth 100000 in
set_option maxHeartbeats 1000000 in
theorem obj64_any (c l m x : Int) (b1 b2 : Nat) (w : World) (h1 : w.cell? ⟨b1, 0, none⟩ = some (.int .i64 l)) (h2 : w.cell? ⟨b2, 0, none⟩ = some (.int .i64 m)) (hx : wiB x l m = true) :
    Calls Try.prog 27 #[saysN c b1 b2, .int .i64 x] w fun e w' => ∃ b, e = .returned (.tuple #[.agg #[.int .i64 c, .int .i64 1, .slice (some ⟨b, 0, none⟩) 1 1], .int .i64 0]) ∧ SAt iC 1 w' (.slice (some ⟨b, 0, none⟩) 1 1) [x] ∧ Below w.heap.size w w' ∧ w.heap.size ≤ b := by
  go_enter Try.func27, Try.ntmps27
  go_upto_region 3 with (go_at_call 49; refine (num3_any x l m b1 b2 _ ?_ ?_).mono ?_; (· exact bl_cell (bl_alloc (bl_alloc (Below.refl _ _) _) _) h1); (· exact bl_cell (bl_alloc (bl_alloc (Below.refl _ _) _) _) h2); rintro e w' ⟨rfl, rfl⟩; rw [hx])
  obtain ⟨W0, hW0, hbx, hfz, hB0, hz0⟩ := two_new w #[.int .i64 c, .int .i64 1, .int .i64 1, .func (.func 47) #[] #[], .func (.func 48) #[] #[], .func (.func 49) #[] #[.pointer (some ⟨b1, 0, none⟩), .pointer (some ⟨b2, 0, none⟩)]] #[.int .i64 0, .int .i64 0, .slice none 0 0] 61 32
  rw [hW0]
  clear hW0
  obtain ⟨⟨a0, a1, -, a3, -, -⟩, -⟩ := cells6 hbx
  have HSX : Hid (∀ X, Below W0.heap.size W0 X → (fun W' : World => W'.cell? ⟨w.heap.size, 0, none⟩ = some (.int .i64 c) ∧ W'.cell? ⟨w.heap.size, 1, none⟩ = some (.int .i64 1) ∧ W'.cell? ⟨w.heap.size, 3, none⟩ = some (.func (.func 47) #[] #[])) X) := Lib.hid fun X hX => ⟨bl_cell hX a0, bl_cell hX a1, bl_cell hX a3⟩
  clear a0 a1 a3 hbx
  refine wp_region_till 9 (S := (fun W' : World => W'.cell? ⟨w.heap.size, 0, none⟩ = some (.int .i64 c) ∧ W'.cell? ⟨w.heap.size, 1, none⟩ = some (.int .i64 1) ∧ W'.cell? ⟨w.heap.size, 3, none⟩ = some (.func (.func 47) #[] #[]))) (by kernel_rfl) (HSX.out _ (bl_drew (Below.refl _ _))) (fun hHeld => ?_)
  refine till_yes (i := 0) (v := ?_) rfl (by kernel_rfl) (by kernel_rfl) (by kernel_rfl) (by kernel_rfl) (by kernel_rfl) (fun _ _ _ h => h) (by kernel_rfl) (by assumption) ?_ ?_
  rotate_left 1
  · (intro w hSw; (try dsimp only at hSw); go_simp; try with_reducible rfl)
  try simp only [Act.put, List.setIfInBounds_toArray, List.set_cons_zero, List.set_cons_succ]

  refine till_yes (i := 1) (v := ?_) rfl (by kernel_rfl) (by kernel_rfl) (by kernel_rfl) (by kernel_rfl) (by kernel_rfl) (fun _ _ _ h => h) (by kernel_rfl) (by assumption) ?_ ?_
  rotate_left 1
  · (intro w hSw; (try dsimp only at hSw); go_simp; try with_reducible rfl)
  try simp only [Act.put, List.setIfInBounds_toArray, List.set_cons_zero, List.set_cons_succ]

  refine till_yes (i := 2) (v := ?_) rfl (by kernel_rfl) (by kernel_rfl) (by kernel_rfl) (by kernel_rfl) (by kernel_rfl) (fun _ _ _ h => h) (by kernel_rfl) (by assumption) ?_ ?_
  rotate_left 1
  · (intro w hSw; (try dsimp only at hSw); go_simp; try with_reducible rfl)
  try simp only [Act.put, List.setIfInBounds_toArray, List.set_cons_zero, List.set_cons_succ]

  refine till_yes (i := 3) (v := ?_) rfl (by kernel_rfl) (by kernel_rfl) (by kernel_rfl) (by kernel_rfl) (by kernel_rfl) (fun _ _ _ h => h) (by kernel_rfl) (by assumption) ?_ ?_
  rotate_left 1
  · (intro w hSw; (try dsimp only at hSw); go_simp; try with_reducible rfl)
  try simp only [Act.put, List.setIfInBounds_toArray, List.set_cons_zero, List.set_cons_succ]

  refine till_yes (i := 4) (v := ?_) rfl (by kernel_rfl) (by kernel_rfl) (by kernel_rfl) (by kernel_rfl) (by kernel_rfl) (fun _ _ _ h => h) (by kernel_rfl) (by assumption) ?_ ?_
  rotate_left 1
  · (intro w hSw; (try dsimp only at hSw); go_simp; try with_reducible rfl)
  try simp only [Act.put, List.setIfInBounds_toArray, List.set_cons_zero, List.set_cons_succ]

  refine till_yes (i := 5) (v := ?_) rfl (by kernel_rfl) (by kernel_rfl) (by kernel_rfl) (by kernel_rfl) (by kernel_rfl) (fun _ _ _ h => h) (by kernel_rfl) (by assumption) ?_ ?_
  rotate_left 1
  · (intro w hSw; (try dsimp only at hSw); go_simp; try with_reducible rfl)
  try simp only [Act.put, List.setIfInBounds_toArray, List.set_cons_zero, List.set_cons_succ]

  refine till_yes (i := 6) (v := ?_) rfl (by kernel_rfl) (by kernel_rfl) (by kernel_rfl) (by kernel_rfl) (by kernel_rfl) (fun _ _ _ h => h) (by kernel_rfl) (by assumption) ?_ ?_
  rotate_left 1
  · (intro w hSw; (try dsimp only at hSw); go_simp; try with_reducible rfl)
  try simp only [Act.put, List.setIfInBounds_toArray, List.set_cons_zero, List.set_cons_succ]

  refine till_one (i := 7) rfl (by kernel_rfl) (fun K' hK => ?_)
  go_simp
  refine (num1_sat _ _).mono ?_
  rintro e w4 ⟨rfl, hs4, hb4⟩
  go_simp
  rw [World.size_drew] at hs4
  have hb4' : Below W0.heap.size W0 w4 := bl_then (bl_drew (Below.refl _ _)) hb4
  refine hK.out _ _ (HSX.out _ hb4') (fun hHeld2 => ?_)
  clear hK K' hHeld hb4
  try simp only [Act.put, List.setIfInBounds_toArray, List.set_cons_zero, List.set_cons_succ]
  refine till_yes (i := 8) (v := ?_) rfl (by kernel_rfl) (by kernel_rfl) (by kernel_rfl) (by kernel_rfl) (by kernel_rfl) (fun _ _ _ h => h) (by kernel_rfl) (by assumption) ?_ ?_
  rotate_left 1
  · (intro w hSw; (try dsimp only at hSw); go_simp; try with_reducible rfl)
  try simp only [Act.put, List.setIfInBounds_toArray, List.set_cons_zero, List.set_cons_succ]

  have hf4 := (hb4'.block (w.heap.size + 1) (by omega)).trans hfz
  obtain ⟨⟨y0, y1, y2⟩, z0, z1, z2⟩ := cells3 hf4
  refine till_late (i := 9) rfl (by decide) (by kernel_rfl) (fun K' hK => ?_)
  go_simp
  refine hK.out _ _ ?_
  clear hK K'
  try simp only [Act.put, List.setIfInBounds_toArray, List.set_cons_zero, List.set_cons_succ]
  refine till_late (i := 10) rfl (by decide) (by kernel_rfl) (fun K' hK => ?_)
  go_simp
  refine hK.out _ _ ?_
  clear hK K'
  refine till_done (by kernel_rfl) ?_ _
  rename_i Q' K hKK
  obtain ⟨w5, hw5, ⟨s0, s1, s2⟩, ho, hb5, -⟩ := threew (.int .i64 c) (.int .i64 1) (.slice (some ⟨w.heap.size + 1 + 1, 0, none⟩) 1 1) (show w.heap.size ≤ w.heap.size + 1 by omega) hf4
  rw [hw5]
  refine hKK _ _ ?_
  clear hKK K
  go_wp2
  rw [hz0] at hs4
  refine bodyPost_ret (v := .tuple #[.agg #[.int .i64 c, .int .i64 1, .slice (some ⟨w.heap.size + 1 + 1, 0, none⟩) 1 1], .int .i64 0]) (by simp [results, Try.results27, go_sem, s0, s1, s2]) rfl ⟨_, rfl, sat_block hs4 (ho _ (by omega)), ((hB0.trans (hb4'.mono (by omega))).trans hb5), by omega⟩
end Go.Proofs.Ytnflgikmljfakaa
