/- Curve: the document's Least: what it drops, plain. -/
import Derived.Test.YtmkjiflliejjjaaCurT
namespace Go.Proofs.Ytmkjiflliejjjaa
open Go.RowKit Go.Shelf Go.Sort
set_option linter.unusedVariables false
set_option linter.unusedSimpArgs false
/-- May the line of a place go? -/
def Gone (c : List Ln) (i : Nat) : Prop := ∃ j x y, i = j + 1 ∧ c[j]? = some x ∧ c[i]? = some y ∧ (x.r ≤ y.r ∨ ∃ z, c[i + 1]? = some z ∧ z.r < y.r ∧ needB x y z = true)
theorem mem_less {c : List Ln} {i m : Nat} {u : Ln} (h : c[m]? = some u) (hm : m ≠ i) : u ∈ c.take i ++ c.drop (i + 1) := by
  rw [List.mem_append]
  by_cases hlt : m < i
  · exact .inl (List.mem_of_getElem? (i := m) (by rw [List.getElem?_take]; simp [hlt, h]))
  · exact .inr (List.mem_of_getElem? (i := m - (i + 1)) (by rw [List.getElem?_drop, ← h]; congr 1; omega))
theorem less_mem {c : List Ln} {i : Nat} {u : Ln} (h : u ∈ c.take i ++ c.drop (i + 1)) : u ∈ c := by
  rcases List.mem_append.1 h with h | h
  · exact List.mem_of_mem_take h
  · exact List.mem_of_mem_drop h
theorem less_sorted {c : List Ln} {i : Nat} (h : c.Pairwise leLn) : (c.take i ++ c.drop (i + 1)).Pairwise leLn := by
  refine h.sublist ?_
  conv => rhs; rw [← List.take_append_drop i c]
  refine List.Sublist.append (List.Sublist.refl _) ?_
  rw [← List.drop_drop]
  exact List.drop_sublist _ _
theorem sorted_at {c : List Ln} (h : c.Pairwise leLn) {i j : Nat} {x y : Ln} (hij : i < j) (hx : c[i]? = some x) (hy : c[j]? = some y) : leLn x y := by
  obtain ⟨h1, rfl⟩ := List.getElem?_eq_some_iff.1 hx
  obtain ⟨h2, rfl⟩ := List.getElem?_eq_some_iff.1 hy
  exact List.pairwise_iff_getElem.1 h i j h1 h2 hij
theorem gone_dom {c : List Ln} {i : Nat} (hs : c.Pairwise leLn) (h : Gone c i) : Dom (c.take i ++ c.drop (i + 1)) c := by
  obtain ⟨j, x, y, rfl, hx, hy, h⟩ := h
  intro u hu n d h0 hd
  obtain ⟨m, hm⟩ := List.getElem?_of_mem hu
  by_cases hmi : m = j + 1
  · subst hmi
    rw [hy] at hm
    cases hm
    have hxy := sorted_at hs (by omega) hx hy
    unfold leLn at hxy
    by_cases hr : x.r ≤ y.r
    · refine ⟨x, mem_less hx (by omega), ?_⟩
      have h1 := Int.mul_le_mul_of_nonneg_right (show x.b ≤ y.b by omega) (Int.le_of_lt hd)
      have h2 := Int.mul_le_mul_of_nonneg_right hr h0
      unfold ht
      omega
    · obtain ⟨z, hz, hzr, hn⟩ := h.resolve_left hr
      have hyz := sorted_at hs (by omega) hy hz
      unfold leLn at hyz
      rcases need_dom (a := x) (b := y) (c := z) (by omega) (by omega) (by omega) (by omega) hn h0 hd with h1 | h1
      · exact ⟨x, mem_less hx (by omega), h1⟩
      · exact ⟨z, mem_less hz (by omega), h1⟩
  · exact ⟨u, mem_less hm hmi, Int.le_refl _⟩
theorem none_gone {c : List Ln} (hs : c.Pairwise leLn) (h : ∀ i, i < c.length → ¬ Gone c i) : NormI c := by
  have hr : ∀ (i : Nat) (x y : Ln), c[i]? = some x → c[i + 1]? = some y → x.b < y.b ∧ y.r < x.r := fun i x y hx hy => by
    have hl := (List.getElem?_eq_some_iff.1 hy).1
    have hxy := sorted_at hs (by omega) hx hy
    unfold leLn at hxy
    by_cases hr : x.r ≤ y.r
    · exact absurd ⟨i, x, y, rfl, hx, hy, .inl hr⟩ (h (i + 1) hl)
    · omega
  refine ⟨hr, fun i x y z hx hy hz => ?_⟩
  have hl := (List.getElem?_eq_some_iff.1 hy).1
  cases hn : needB x y z with
  | false => rfl
  | true => exact absurd ⟨i, x, y, rfl, hx, hy, .inr ⟨z, hz, (hr _ _ _ hy hz).2, hn⟩⟩ (h (i + 1) hl)
theorem least_one {ls c : List Ln} (hs : c.Pairwise leLn) (hm : ∀ z ∈ c, z ∈ ls) (hd : Dom c ls) (h : ∀ i, i < c.length → ¬ Gone c i) : c = lowL ls := low_one (none_gone hs h) hm hd
theorem not_gone_zero (c : List Ln) : ¬ Gone c 0 := fun ⟨j, x, y, e, _⟩ => by omega
end Go.Proofs.Ytmkjiflliejjjaa
