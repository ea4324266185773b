/- Soft: Go. -/
import Derived.Test.YtojeombljhmkaaaSoftO
import Derived.StillTailTactics
namespace Go.Proofs.Ytojeombljhmkaaa
open Go.RowKit Go.Shelf
set_option linter.unusedVariables false
set_option linter.unusedSimpArgs false
attribute [local go_sem] Oper.semAt_some
/-- Without things of some names. -/
def delT (es : List (Nat × Th)) (G : List Th) : List (Nat × Th) := es.filter fun e => G.all fun y => decide (e.2.name ≠ y.name)
theorem delT_nil (es : List (Nat × Th)) : delT es [] = es := by simp [delT]
theorem delT_snoc (es : List (Nat × Th)) (G : List Th) (x : Th) : (delT es G).filter (fun e => e.2.name ≠ x.name) = delT es (G ++ [x]) := by
  unfold delT
  rw [List.filter_filter]
  refine List.filter_congr fun e _ => ?_
  simp [Bool.and_comm]
/-- Some things' Next moved on. -/
def dueT (n : Int) (D : List Th) (es : List (Nat × Th)) : List (Nat × Th) := es.map fun e => if (D.any fun y => decide (y.name = e.2.name)) = true then (e.1, ⟨e.2.name, e.2.period, n + e.2.period, e.2.forgot⟩) else e
theorem dueT_nil (n : Int) (es : List (Nat × Th)) : dueT n [] es = es := by
  unfold dueT
  exact (List.map_congr_left fun e _ => by simp).trans (List.map_id es)
theorem dueT_blocks (n : Int) (D : List Th) (es : List (Nat × Th)) : (dueT n D es).map (·.1) = es.map (·.1) := by
  unfold dueT
  rw [List.map_map]
  refine List.map_congr_left fun e _ => ?_
  show (if _ then _ else _ : Nat × Th).1 = _
  split <;> rfl
theorem dueT_get {n : Int} {D : List Th} {es : List (Nat × Th)} {b : Nat} {x : Th} (hn : (es.map (·.2.name)).Nodup) (hb : (b, x) ∈ es) (hx : ∀ y ∈ D, y.name ≠ x.name) : getT (dueT n D es) x.name = some (b, x) := by
  unfold getT dueT
  rw [List.find?_map]
  have hp : ∀ e : Nat × Th, (((fun e : Nat × Th => decide (e.2.name = x.name)) ∘ fun e : Nat × Th => if (D.any fun y => decide (y.name = e.2.name)) = true then (e.1, (⟨e.2.name, e.2.period, n + e.2.period, e.2.forgot⟩ : Th)) else e) e) = decide (e.2.name = x.name) := fun e => by
    show decide ((if _ then _ else _ : Nat × Th).2.name = x.name) = _
    split <;> rfl
  have he : es.find? ((fun e : Nat × Th => decide (e.2.name = x.name)) ∘ fun e : Nat × Th => if (D.any fun y => decide (y.name = e.2.name)) = true then (e.1, (⟨e.2.name, e.2.period, n + e.2.period, e.2.forgot⟩ : Th)) else e) = some (b, x) := by
    rw [funext hp]
    cases hf : es.find? fun e => decide (e.2.name = x.name) with
    | none => exact absurd (List.find?_eq_none.1 hf _ hb) (by simp)
    | some f =>
      have hm := List.mem_of_find?_eq_some hf
      have hnm : f.2.name = x.name := by have := List.find?_some hf; simpa using this
      congr 1
      obtain ⟨i, hi⟩ := List.getElem?_of_mem hm
      obtain ⟨j, hj⟩ := List.getElem?_of_mem hb
      have hi2 : (es.map (·.2.name))[i]? = some x.name := by rw [List.getElem?_map, hi]; simp [hnm]
      have hj2 : (es.map (·.2.name))[j]? = some x.name := by rw [List.getElem?_map, hj]; rfl
      have hil := (List.getElem?_eq_some_iff.1 hi2).1
      have := (List.getElem?_inj hil hn).1 (hi2.trans hj2.symm)
      subst this
      rw [hi] at hj
      exact Option.some.inj hj
  rw [he]
  have : (D.any fun y => decide (y.name = x.name)) = false := List.any_eq_false.2 fun y hy => by simpa using hx y hy
  rw [Option.map_some]
  show some (if (D.any fun y => decide (y.name = x.name)) = true then _ else _) = _
  rw [this]
  rfl
theorem dueT_snoc {n : Int} {D : List Th} {es : List (Nat × Th)} {b : Nat} {x : Th} (hn : (es.map (·.2.name)).Nodup) (hbn : (es.map (·.1)).Nodup) (hb : (b, x) ∈ es) (hx : ∀ y ∈ D, y.name ≠ x.name) : updT (dueT n D es) b ⟨x.name, x.period, n + x.period, x.forgot⟩ = dueT n (D ++ [x]) es := by
  unfold updT dueT
  rw [List.map_map]
  refine List.map_congr_left fun e he => ?_
  show (if (if _ then _ else _ : Nat × Th).1 = b then _ else _) = _
  by_cases h1 : e.1 = b
  · have := nodup_fst hbn he hb h1
    subst this
    have h2 : (D.any fun y => decide (y.name = x.name)) = false := List.any_eq_false.2 fun y hy => by simpa using hx y hy
    simp [h2]
  · have h2 : e.2.name ≠ x.name := fun h => by
      obtain ⟨i, hi⟩ := List.getElem?_of_mem he
      obtain ⟨j, hj⟩ := List.getElem?_of_mem hb
      have hi2 : (es.map (·.2.name))[i]? = some x.name := by rw [List.getElem?_map, hi]; simp [h]
      have hj2 : (es.map (·.2.name))[j]? = some x.name := by rw [List.getElem?_map, hj]; rfl
      have hil := (List.getElem?_eq_some_iff.1 hi2).1
      have := (List.getElem?_inj hil hn).1 (hi2.trans hj2.symm)
      subst this
      rw [hi] at hj
      rw [Option.some.inj hj] at h1
      exact h1 rfl
    have h3 : ¬ x.name = e.2.name := fun h => h2 h.symm
    rw [List.any_append]
    simp only [List.any_cons, List.any_nil, decide_eq_false h3, Bool.or_false]
    split
    · next hc => simp [hc, h1]
    · next hc => simp [hc, h1]
theorem MovS.own {S : Nat → Prop} {w W : World} (hm : MovS S w W) {base e k n : Nat} {v : Value} {cs : List Value} (h : w.ownsRow base e k v n cs) (hS : ∀ i, S i → i < base) : W.ownsRow base e k v n cs := by
  refine ⟨h.1, ?_⟩
  rcases h.2 with h2 | ⟨g, cap, cur, h1, h2, h3, h4⟩
  · exact .inl h2
  · exact .inr ⟨g, cap, cur, h1, h2, (hm.block g (Array.getElem?_eq_some_iff.1 h3).1 (fun hs => by have := hS g hs; omega)).trans h3, h4⟩
theorem MovS.cell {S : Nat → Prop} {w W : World} (hm : MovS S w W) {b o : Nat} {v : Value} (h : w.cell? ⟨b, o, none⟩ = some v) (hS : ¬ S b) : W.cell? ⟨b, o, none⟩ = some v :=
  (World.cell?_of_block (w := w) (a := ⟨b, o, none⟩) (hm.block b (World.block_lt_of_cell? w ⟨b, o, none⟩ h) hS)).trans h
abbrev goNil (y : Int) : Value := .tuple #[.slice none 0 0, .slice none 0 0, .int .i64 y]
set_option maxRecDepth 100000 in
set_option maxHeartbeats 400000 in
theorem go_none (v : Value) (n : Int) (w : World) (h : NoTab w v) :
    Calls Try.prog 13 #[v, .int .i64 n] w fun e w' => e = .returned (goNil 1) ∧ Below w.heap.size w w' := by
  have HN := Lib.hid (none_yes v _ (h.below (bl_alloc (Below.refl _ _) (.cells #[.int .i64 n] 2))))
  clear h
  go_enter Try.func13, Try.ntmps13
  go_wp2_with (go_at_call 30; refine HN.out.mono ?_; rintro e w' ⟨rfl, rfl⟩)
  exact bodyPost_ret (v := goNil 1) (by simp [results, Try.results13, go_sem]) rfl ⟨rfl, bl_alloc (Below.refl _ _) _⟩
set_option maxRecDepth 100000 in
set_option maxHeartbeats 400000 in
theorem go_arg (p r : Nat) (now : Int) (es : List (Nat × Th)) (n : Int) (w : World) (h : TAt w p r now es) (hn : n < now ∨ 2147483647 < n) :
    Calls Try.prog 13 #[.pointer (some ⟨p, 0, none⟩), .int .i64 n] w fun e w' => e = .returned (goNil 2) ∧ Below w.heap.size w w' := by
  have hb := bl_alloc (Below.refl w.heap.size w) (.cells #[.int .i64 n] 2)
  obtain ⟨c0, c1⟩ := (h.below hb).cells
  have HN := Lib.hid (none_no p r _ c1)
  clear h hb c1
  by_cases h1 : n < now
  · clear hn
    go_enter Try.func13, Try.ntmps13
    go_upto_region 3 with (go_at_call 30; refine HN.out.mono ?_; rintro e w' ⟨rfl, rfl⟩)
    go_quiet (fail)
    go_wp2_with fail
    exact bodyPost_ret (v := goNil 2) (by simp [results, Try.results13, go_sem]) rfl ⟨rfl, by repeat (first | exact Below.refl _ _ | refine bl_drew ?_ | refine bl_drewN ?_ _ | refine bl_alloc ?_ _)⟩
  · have h2 : 2147483647 < n := by omega
    clear hn
    go_enter Try.func13, Try.ntmps13
    go_upto_region 3 with (go_at_call 30; refine HN.out.mono ?_; rintro e w' ⟨rfl, rfl⟩)
    go_quiet (fail)
    go_wp2_with fail
    exact bodyPost_ret (v := goNil 2) (by simp [results, Try.results13, go_sem]) rfl ⟨rfl, by repeat (first | exact Below.refl _ _ | refine bl_drew ?_ | refine bl_drewN ?_ _ | refine bl_alloc ?_ _)⟩
end Go.Proofs.Ytojeombljhmkaaa
