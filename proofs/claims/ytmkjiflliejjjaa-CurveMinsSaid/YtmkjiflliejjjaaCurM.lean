/- Curve: what is made is one; known. -/
import Derived.Test.YtmkjiflliejjjaaCurL
namespace Go.Proofs.Ytmkjiflliejjjaa
open Go.RowKit Go.Shelf Go.Sort
set_option linter.unusedVariables false
set_option linter.unusedSimpArgs false
attribute [local go_sem] Oper.semAt_some
instance (x y : Ln) : Decidable (leLn x y) := by unfold leLn; infer_instance
theorem leLn_trans {a b c : Ln} (h : leLn a b) (k : leLn b c) : leLn a c := by unfold leLn at *; omega
theorem leLn_total (a b : Ln) : leLn a b ∨ leLn b a := by unfold leLn; omega
def sortL (ls : List Ln) : List Ln := ls.mergeSort fun x y => decide (leLn x y)
theorem sortL_perm (ls : List Ln) : (sortL ls).Perm ls := List.mergeSort_perm _ _
theorem sortL_sorted (ls : List Ln) : (sortL ls).Pairwise leLn := by
  have h := List.pairwise_mergeSort (le := fun x y => decide (leLn x y)) (fun a b c h1 h2 => by simp only [decide_eq_true_eq] at *; exact leLn_trans h1 h2) (fun a b => by simp only [Bool.or_eq_true, decide_eq_true_eq]; exact leLn_total a b) ls
  exact h.imp fun h => by simpa using h
/-- The lines that are the only least ones somewhere. -/
def lowL (ls : List Ln) : List Ln := ((sortL ls).foldl stepL []).reverse
theorem lowL_is (ls : List Ln) : IsLow ls (lowL ls) := ⟨_, sortL_perm ls, sortL_sorted ls, rfl⟩
theorem low_is {ls out : List Ln} (h : IsLow ls out) : out = lowL ls := by
  obtain ⟨ys, h1, h2, rfl⟩ := h
  rw [sorted_one (h1.trans (sortL_perm ls).symm) h2 (sortL_sorted ls)]
  rfl
/-- May they be a curve? -/
def madeB (ls : List Ln) : Bool := decide ((lowL ls).length ≤ 32) && eachB (lowL ls)
/-- What made tells, of one list. -/
def MadeIs (ls : List Ln) (w : World) (e : Ending) (w' : World) : Prop :=
  ((madeB ls = true ∧ ∃ v', e = .returned (.tuple #[v', .int .i64 0]) ∧ SAt Ln.cells 2 w' v' (lowL ls)) ∨ (madeB ls = false ∧ e = .returned (.tuple #[.slice none 0 0, .int .i64 3]))) ∧ Below w.heap.size w w'
theorem made_is {ls : List Ln} {w : World} {e : Ending} {w' : World} (h : MadePost ls w e w') : MadeIs ls w e w' := by
  obtain ⟨⟨out, hl, h⟩, hb⟩ := h
  rw [low_is hl] at h
  refine ⟨?_, hb⟩
  unfold madeB
  rcases h with ⟨h1, h2, h3⟩ | ⟨h1, h2⟩
  · exact .inl ⟨by simp [h1, h2], h3⟩
  · refine .inr ⟨?_, h2⟩
    cases he : eachB (lowL ls) with
    | false => simp
    | true => simp; exact Nat.lt_of_not_le fun hn => h1 ⟨hn, he⟩
theorem later_any (v : Value) (c : List Ln) (t : Int) (w : World) (h : SAt Ln.cells 2 w v c) :
    Calls Try.prog 19 #[v, .int .i64 t] w fun e w' =>
      ((okC c && inB t 2147483647) = false ∧ e = .returned (.tuple #[.slice none 0 0, .int .i64 2]) ∧ Below w.heap.size w w') ∨ ((okC c && inB t 2147483647) = true ∧ LaterPost c t w e w') := by
  cases h1 : okC c && inB t 2147483647 with
  | false =>
    have h2 : okC c = false ∨ inB t 2147483647 = false := by rcases Bool.and_eq_false_iff.1 h1 with h | h <;> simp [h]
    exact (later_no v c t w h h2).mono fun e w' hh => .inl ⟨rfl, hh⟩
  | true =>
    simp only [Bool.and_eq_true] at h1
    exact (later_yes v c t w h h1.1 h1.2).mono fun e w' hh => .inr ⟨rfl, hh⟩
theorem sat_manyL (w : World) (xs : List Ln) {b n : Nat} {v : Value} {cells : Array Value} (e : TypeId) (hb : b = w.heap.size) (hn : n = xs.length) (hv : v = .slice (some ⟨b, 0, none⟩) n n) (hc : cells = (xs.flatMap Ln.cells).toArray) (hm : xs.length ≤ maxLen) : SAt Ln.cells 2 (w.alloc (.cells cells e)) v xs := by
  subst hv hb hn
  exact Or.inr ⟨_, 0, _, rfl, Nat.le_refl _, hm, rowAt_new (enc := Ln.cells) (k := 2) (fun _ => rfl) w e xs rfl hc⟩
set_option maxRecDepth 100000 in
set_option maxHeartbeats 2000000 in
theorem known_any (w : World) :
    Calls Try.prog 11 #[] w fun e w' => e = .returned (.bool true) ∧ Below w.heap.size w w' := by
  have k1 : lowL [⟨0, 5⟩, ⟨10, 1⟩, ⟨2, 5⟩, ⟨4, 3⟩] = [⟨0, 5⟩, ⟨4, 3⟩, ⟨10, 1⟩] := (low_is ⟨[⟨0, 5⟩, ⟨2, 5⟩, ⟨4, 3⟩, ⟨10, 1⟩], by decide, by simp [leLn], by decide⟩).symm
  have k2 : madeB [⟨0, 5⟩, ⟨10, 1⟩, ⟨2, 5⟩, ⟨4, 3⟩] = true := by unfold madeB; rw [k1]; decide
  have k3 : okC [⟨0, 5⟩, ⟨4, 3⟩, ⟨10, 1⟩] = true := by decide
  have k4 : atC [⟨0, 5⟩, ⟨4, 3⟩, ⟨10, 1⟩] 3 = 13 := by decide
  have k5 : laterL [⟨0, 5⟩, ⟨4, 3⟩, ⟨10, 1⟩] 2 = [⟨10, 3⟩, ⟨12, 1⟩] := by decide
  have K1 := Lib.hid k1
  have K2 := Lib.hid k2
  have K3 := Lib.hid k3
  have K4 := Lib.hid k4
  have K5 := Lib.hid k5
  clear k1 k2 k3 k4 k5
  go_enter Try.func11, Try.ntmps11
  go_wp2_with fail
  refine (make_yes _ [⟨0, 5⟩, ⟨10, 1⟩, ⟨2, 5⟩, ⟨4, 3⟩] _ (sat_manyL w _ _ rfl rfl rfl rfl (by decide)) (by decide) (by decide)).mono ?_
  rintro e w1 hm
  obtain ⟨⟨-, v1, rfl, hs1⟩ | ⟨hx, -⟩, hb1⟩ := made_is hm
  rotate_left 1
  · rw [K2.out] at hx; cases hx
  clear hm
  have hB1 := bl_then (bl_alloc (Below.refl _ _) _) hb1
  rw [K1.out] at hs1
  obtain ⟨A1, c1, rfl⟩ := hs1.slice
  have HB1 := Lib.hid hB1
  have HS1 : Hid (SAt Ln.cells 2 w1 (.slice A1 3 c1) [⟨0, 5⟩, ⟨4, 3⟩, ⟨10, 1⟩]) := Lib.hid hs1
  clear hb1 hB1 hs1
  simp only [List.length_cons, List.length_nil, Nat.reduceAdd]
  go_wp2_with fail
  refine (at_yes _ _ 3 _ HS1.out K3.out (by decide)).mono ?_
  rintro e w2 ⟨rfl, hb2⟩
  rw [K4.out]
  have HB2 := Lib.hid hb2
  clear hb2
  go_wp2_with fail
  refine (later_yes _ _ 2 _ (HS1.out.below HB2.out) K3.out (by decide)).mono ?_
  rintro e w3 ⟨⟨-, v3, rfl, hs3⟩ | ⟨hx, -⟩, hb3⟩
  rotate_left 1
  · rw [K5.out] at hx; exact absurd hx (by decide)
  rw [K5.out] at hs3
  obtain ⟨A3, c3, rfl⟩ := hs3.slice
  have HB3 := Lib.hid hb3
  have HS3 : Hid (SAt Ln.cells 2 w3 (.slice A3 2 c3) [⟨10, 3⟩, ⟨12, 1⟩]) := Lib.hid hs3
  clear hb3 hs3
  simp only [List.length_cons, List.length_nil, Nat.reduceAdd]
  go_wp2_with fail
  refine (rsame_any _ _ [⟨0, 5⟩, ⟨4, 3⟩, ⟨10, 1⟩] [⟨0, 5⟩, ⟨4, 3⟩, ⟨10, 1⟩] _ (HS1.out.below (bl_then HB2.out (bl_then HB3.out (bl_alloc (Below.refl _ _) _)))) (sat_manyL w3 _ _ rfl rfl rfl rfl (by decide))).mono ?_
  rintro e w4 ⟨rfl, hb4⟩
  rw [show decide (([⟨0, 5⟩, ⟨4, 3⟩, ⟨10, 1⟩] : List Ln) = [⟨0, 5⟩, ⟨4, 3⟩, ⟨10, 1⟩]) = true by decide]
  have HB4 := Lib.hid (bl_then (bl_alloc (Below.refl _ _) _) hb4)
  clear hb4
  go_wp2_with fail
  refine (rsame_any _ _ [⟨10, 3⟩, ⟨12, 1⟩] [⟨10, 3⟩, ⟨12, 1⟩] _ (HS3.out.below (bl_then HB4.out (bl_alloc (Below.refl _ _) _))) (sat_manyL w4 _ _ rfl rfl rfl rfl (by decide))).mono ?_
  rintro e w5 ⟨rfl, hb5⟩
  rw [show decide (([⟨10, 3⟩, ⟨12, 1⟩] : List Ln) = [⟨10, 3⟩, ⟨12, 1⟩]) = true by decide]
  have HB5 := Lib.hid (bl_then (bl_alloc (Below.refl _ _) _) hb5)
  clear hb5
  go_wp2_with fail
  go_ret
  exact ⟨rfl, bl_then HB1.out (bl_then HB2.out (bl_then HB3.out (bl_then HB4.out HB5.out)))⟩
end Go.Proofs.Ytmkjiflliejjjaa
