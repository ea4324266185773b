/- Topo: plain facts on lists of links. -/
import Derived.Test.YtfifmkjidljeeaaTopoG
namespace Go.Proofs.Ytfifmkjidljeeaa
open Go.RowKit

/-- The first link of two nodes. -/
def pos (ls : List Lk) (x y : Int) : Option Nat := ls.findIdx? fun l => l.a == x && l.b == y
theorem mget_idxs_from (x y : Int) : ∀ (ls : List Lk) (n : Nat), mget ((ls.zipIdx n).map fun p => ((p.1.a, p.1.b), Value.int .i64 (p.2 : Nat))) (x, y) = (pos ls x y).map fun k => Value.int .i64 ((k + n : Nat) : Int)
  | [], n => by simp [mget, pos]
  | l :: ls, n => by
    have ih := mget_idxs_from x y ls (n + 1)
    unfold mget at ih ⊢
    simp only [List.zipIdx_cons, List.map_cons, List.find?_cons, pos, List.findIdx?_cons] at ih ⊢
    by_cases h : l.a = x ∧ l.b = y
    · simp [h]
    · have h1 : decide ((l.a, l.b) = (x, y)) = false := by simp; exact fun h1 h2 => h ⟨h1, h2⟩
      have h2 : (l.a == x && l.b == y) = false := by
        rw [Bool.eq_false_iff]
        intro h3
        simp at h3
        exact h h3
      rw [h1, h2]
      simp only [Bool.false_eq_true, if_false]
      rw [ih, Option.map_map]
      congr 1
      funext k
      simp only [Function.comp]
      congr 2
      omega
theorem btw_pos (ls : List Lk) (x y : Int) : btw ls x y = (pos ls x y).map fun k => Value.int .i64 (k : Nat) := by
  unfold btw idxs
  rw [mget_idxs_from]
  simp
theorem pos_isSome {ls : List Lk} {x y : Int} : (pos ls x y).isSome = true ↔ ∃ l ∈ ls, l.a = x ∧ l.b = y := by
  unfold pos
  rw [List.findIdx?_isSome, List.any_eq_true]
  simp
theorem btw_isSome {ls : List Lk} {x y : Int} : (btw ls x y).isSome = true ↔ ∃ l ∈ ls, l.a = x ∧ l.b = y := by
  rw [btw_pos, Option.isSome_map, pos_isSome]
/-- No two links of the same two nodes. -/
def Apart (ls : List Lk) : Prop := ls.Pairwise fun p q => ¬ (p.a = q.a ∧ p.b = q.b)
theorem dup_iff {ls : List Lk} : dupB ls = false ↔ Apart ls := by
  unfold dupB Apart
  rw [List.any_eq_false, List.pairwise_iff_getElem]
  constructor
  · intro h i j hi hj hij hk
    have h1 := h j (List.mem_range.2 hj)
    apply h1
    have : (btw (ls.take j) (ls.getD j Lk0).a (ls.getD j Lk0).b).isSome = true := by
      rw [btw_isSome]
      refine ⟨ls[i], ?_, ?_⟩
      · exact List.mem_take_iff_getElem.2 ⟨i, by omega, rfl⟩
      · simpa [List.getD, hj] using hk
    exact this
  · intro h j hj h1
    have hjl := List.mem_range.1 hj
    have h2 : (btw (ls.take j) (ls.getD j Lk0).a (ls.getD j Lk0).b).isSome = true := h1
    rw [btw_isSome] at h2
    obtain ⟨l, hl, hk⟩ := h2
    obtain ⟨i, hi, rfl⟩ := List.mem_take_iff_getElem.1 hl
    have hil : i < j := by omega
    refine h i j (by omega) hjl hil ?_
    simpa [List.getD, hjl] using hk
theorem apart_reverse {ls : List Lk} : Apart ls.reverse ↔ Apart ls := by
  unfold Apart
  rw [List.pairwise_reverse]
  constructor
  · exact fun h => h.imp fun {a b} h1 h2 => h1 ⟨h2.1.symm, h2.2.symm⟩
  · exact fun h => h.imp fun {a b} h1 h2 => h1 ⟨h2.1.symm, h2.2.symm⟩
theorem dup_reverse (ls : List Lk) : dupB ls.reverse = dupB ls := by
  cases h : dupB ls with
  | false => exact dup_iff.2 (apart_reverse.2 (dup_iff.1 h))
  | true =>
    cases h2 : dupB ls.reverse with
    | true => rfl
    | false =>
      have := dup_iff.2 (apart_reverse.1 (dup_iff.1 h2))
      rw [h] at this
      cases this
theorem back_reverse (ls : List Lk) : backB ls.reverse = backB ls := by
  unfold backB
  rw [List.all_reverse]
  congr 1
  funext l
  rw [Bool.eq_iff_iff, btw_isSome, btw_isSome]
  simp
theorem newErr_reverse (nodes : Int) (ls : List Lk) : newErr nodes ls.reverse = newErr nodes ls := by
  unfold newErr
  rw [List.any_reverse, List.length_reverse, dup_reverse, back_reverse]
theorem pos_some {ls : List Lk} {x y : Int} {m : Nat} (h : pos ls x y = some m) : ∃ l, ls[m]? = some l ∧ l.a = x ∧ l.b = y := by
  unfold pos at h
  obtain ⟨hm, h1, _⟩ := List.findIdx?_eq_some_iff_getElem.1 h
  simp at h1
  exact ⟨ls[m], List.getElem?_eq_getElem hm, h1⟩
/-- Where links are apart, the place of a link is its place. -/
theorem pos_of {ls : List Lk} (ha : Apart ls) {m : Nat} {l : Lk} (hl : ls[m]? = some l) : pos ls l.a l.b = some m := by
  obtain ⟨hm, rfl⟩ := List.getElem?_eq_some_iff.1 hl
  unfold pos
  refine List.findIdx?_eq_some_iff_getElem.2 ⟨hm, by simp, fun j hj => ?_⟩
  have := (List.pairwise_iff_getElem.1 ha) j m (by omega) hm hj
  simp only [Bool.not_eq_true, Bool.and_eq_false_iff, beq_eq_false_iff_ne]
  by_cases h1 : ls[j].a = ls[m].a
  · right; exact fun h2 => this ⟨h1, h2⟩
  · left; exact h1
theorem pos_reverse {ls : List Lk} (ha : Apart ls) {x y : Int} {m : Nat} (h : pos ls x y = some m) : m < ls.length ∧ pos ls.reverse x y = some (ls.length - 1 - m) := by
  obtain ⟨l, hl, rfl, rfl⟩ := pos_some h
  have hm : m < ls.length := (List.getElem?_eq_some_iff.1 hl).1
  refine ⟨hm, pos_of (apart_reverse.2 ha) ?_⟩
  rw [List.getElem?_reverse (by omega), show ls.length - 1 - (ls.length - 1 - m) = m by omega]
  exact hl
theorem pos_reverse_none {ls : List Lk} {x y : Int} (h : pos ls x y = none) : pos ls.reverse x y = none := by
  cases h2 : pos ls.reverse x y with
  | none => rfl
  | some m =>
    have h3 : (pos ls.reverse x y).isSome = true := by rw [h2]; rfl
    obtain ⟨l, hl, hk⟩ := pos_isSome.1 h3
    have := pos_isSome.2 ⟨l, List.mem_reverse.1 hl, hk⟩
    rw [h] at this
    cases this
theorem newErr_zero {nodes : Int} {ls : List Lk} (h : newErr nodes ls = 0) : wi nodes 1 16 = true ∧ (ls.any fun l => !okLink l nodes) = false ∧ ls.length ≤ 48 ∧ Apart ls ∧ backB ls = true := by
  unfold newErr at h
  split at h
  · cases h
  · rename_i h1
    split at h
    · cases h
    · rename_i h2
      split at h
      · cases h
      · rename_i h3
        split at h
        · cases h
        · rename_i h4
          simp at h1 h3 h4
          exact ⟨h1.1, by simpa using h1.2, by omega, dup_iff.1 h3, h4⟩
/-- A node more changes nothing of them. -/
theorem newErr_more {nodes : Int} {ls : List Lk} (h : newErr nodes ls = 0) : newErr (nodes + 1) ls = 0 ∨ (newErr (nodes + 1) ls ≠ 0 ∧ nodes = 16) := by
  obtain ⟨h1, h2, h3, h4, h5⟩ := newErr_zero h
  have hn : 1 ≤ nodes ∧ nodes ≤ 16 := by simpa [wi] using h1
  by_cases hn2 : nodes = 16
  · right
    subst hn2
    exact ⟨by simp [newErr, wi], rfl⟩
  · left
    refine newErr_ok (by simp [wi]; omega) ?_ h3 (dup_iff.2 h4) (fun i l hi => List.all_eq_true.1 h5 l (List.mem_of_getElem? hi))
    rw [List.any_eq_false] at h2 ⊢
    intro l hl
    have hl2 := h2 l hl
    have hok : okLink l nodes = true := by simpa using hl2
    rw [right_ok] at hok
    have h1 : okLink l (nodes + 1) = true := by
      rw [right_ok]
      simp only [rightB, decide_eq_true_eq] at hok ⊢
      omega
    rw [h1]
    decide
end Go.Proofs.Ytfifmkjidljeeaa
