/- Soft: Go, where it goes on. -/
import Derived.Test.YtojeombljhmkaaaSoftP
namespace Go.Proofs.Ytojeombljhmkaaa
open Go.RowKit Go.Shelf
set_option linter.unusedVariables false
set_option linter.unusedSimpArgs false
attribute [local go_sem] Oper.semAt_some
/-- What Go has told. -/
def GoneL (n : Int) (L G : List Th) : Prop := IsF G (L.filter fun x => decide (x.forgot ≤ n))
def dueL (n : Int) (L : List Th) : List Th := (L.filter fun x => !decide (x.forgot ≤ n)).filter fun x => decide (x.next ≤ n)
def goT (n : Int) (L : List Th) (es : List (Nat × Th)) : List (Nat × Th) := dueT n (dueL n L) (es.filter fun e => !decide (e.2.forgot ≤ n))
theorem isL_mem {L : List Th} {es : List (Nat × Th)} (h : IsL L es) {x : Th} : x ∈ L ↔ ∃ b, (b, x) ∈ es := by
  rw [h.1.mem_iff, List.mem_map]
  constructor
  · rintro ⟨e, he, rfl⟩
    exact ⟨e.1, he⟩
  · rintro ⟨b, hb⟩
    exact ⟨_, hb, rfl⟩
theorem isL_filter {L : List Th} {es : List (Nat × Th)} (h : IsL L es) (q : Th → Bool) : IsL (L.filter q) (es.filter fun e => q e.2) := by
  refine ⟨?_, h.2.filter _⟩
  have := h.1.filter q
  rw [List.filter_map] at this
  exact this
theorem name_inj {es : List (Nat × Th)} (hn : (es.map (·.2.name)).Nodup) {e f : Nat × Th} (he : e ∈ es) (hf : f ∈ es) (h : e.2.name = f.2.name) : e = f := by
  obtain ⟨i, hi⟩ := List.getElem?_of_mem he
  obtain ⟨j, hj⟩ := List.getElem?_of_mem hf
  have hi2 : (es.map (·.2.name))[i]? = some f.2.name := by rw [List.getElem?_map, hi]; simp [h]
  have hj2 : (es.map (·.2.name))[j]? = some f.2.name := by rw [List.getElem?_map, hj]; rfl
  have := (List.getElem?_inj (List.getElem?_eq_some_iff.1 hi2).1 hn).1 (hi2.trans hj2.symm)
  subst this
  rw [hi] at hj
  exact Option.some.inj hj
theorem delT_gone {L G : List Th} {es : List (Nat × Th)} {n : Int} (hn : (es.map (·.2.name)).Nodup) (hL : IsL L es) (hG : GoneL n L G) : delT es G = es.filter fun e => !decide (e.2.forgot ≤ n) := by
  unfold delT
  refine List.filter_congr fun e he => ?_
  have hmem : ∀ y, y ∈ G ↔ (∃ b, (b, y) ∈ es) ∧ y.forgot ≤ n := fun y => by
    rw [hG.1.mem_iff, List.mem_filter, isL_mem hL]
    simp
  by_cases hf : e.2.forgot ≤ n
  · rw [decide_eq_true hf]
    refine List.all_eq_false.2 ⟨e.2, (hmem _).2 ⟨⟨e.1, he⟩, hf⟩, by simp⟩
  · rw [decide_eq_false hf]
    refine List.all_eq_true.2 fun y hy => ?_
    obtain ⟨⟨b, hb⟩, hyf⟩ := (hmem y).1 hy
    have : e.2.name ≠ y.name := fun h => by
      have := name_inj hn he hb h
      subst this
      exact hf hyf
    simpa using this
end Go.Proofs.Ytojeombljhmkaaa
