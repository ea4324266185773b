/- Topo: links of another Far. -/
import Derived.Test.YtfifmkjidljeeaaTopoL
namespace Go.Proofs.Ytfifmkjidljeeaa
open Go.RowKit
def far (l : Lk) : Lk := ⟨l.a, l.b, l.c, l.d, 1000 - l.e, l.f, l.g, l.h⟩
theorem far_ok {l : Lk} {n : Int} (h : okLink l n = true) : okLink (far l) n = true := by
  rw [right_ok] at h ⊢
  unfold rightB far at *
  simp only [decide_eq_true_eq] at h ⊢
  omega
theorem newErr_far {nodes : Int} {ls : List Lk} (h : newErr nodes ls = 0) : newErr nodes (ls.map far) = 0 := by
  obtain ⟨h1, h2, h3, h4, h5⟩ := newErr_zero h
  refine newErr_ok h1 ?_ (by simpa using h3) (dup_iff.2 ?_) (fun i l hi => ?_)
  · rw [List.any_eq_false] at h2 ⊢
    intro l hl
    obtain ⟨m, hm, rfl⟩ := List.mem_map.1 hl
    have := far_ok (by simpa using h2 m hm)
    simp [this]
  · unfold Apart at *
    rw [List.pairwise_map]
    exact h4
  · obtain ⟨m, hm, rfl⟩ := List.mem_map.1 (List.mem_of_getElem? hi)
    have := List.all_eq_true.1 h5 m hm
    rw [btw_isSome] at this ⊢
    obtain ⟨z, hz, hk⟩ := this
    exact ⟨far z, List.mem_map.2 ⟨z, hz, rfl⟩, hk⟩
/-- The first k turned, the others not. -/
def mix (ls : List Lk) (k : Nat) : List Lk := (ls.take k).map far ++ ls.drop k
theorem mix_len (ls : List Lk) (k : Nat) : (mix ls k).length = ls.length := by simp [mix]; omega
theorem mix_all (ls : List Lk) : mix ls ls.length = ls.map far := by simp [mix]
theorem mix_get {ls : List Lk} {k : Nat} {l : Lk} (h : ls[k]? = some l) : (mix ls k)[k]? = some l := by
  have hk : k < ls.length := (List.getElem?_eq_some_iff.1 h).1
  unfold mix
  rw [List.getElem?_append_right (by simp; omega)]
  simp
  rw [show k + (k - min k ls.length) = k by omega]
  exact h
theorem mix_set {ls : List Lk} {k : Nat} {l : Lk} (h : ls[k]? = some l) : ((mix ls k).flatMap Lk.cells).set (k * 8 + 4) (.int .i64 (1000 - l.e)) = (mix ls (k + 1)).flatMap Lk.cells := by
  obtain ⟨hk, rfl⟩ := List.getElem?_eq_some_iff.1 h
  have h1 : mix ls k = (ls.take k).map far ++ ls[k] :: ls.drop (k + 1) := by unfold mix; rw [← List.drop_eq_getElem_cons hk]
  have h2 : mix ls (k + 1) = (ls.take k).map far ++ far ls[k] :: ls.drop (k + 1) := by
    unfold mix
    rw [List.take_succ_eq_append_getElem hk, List.map_append, List.append_assoc]
    rfl
  rw [h1, h2, List.flatMap_append, List.flatMap_append, List.flatMap_cons, List.flatMap_cons]
  have hl : (((ls.take k).map far).flatMap Lk.cells).length = k * 8 := by rw [flat_length (k := 8) (fun _ => rfl)]; simp; omega
  rw [List.set_append_right _ _ (by omega), hl, show k * 8 + 4 - k * 8 = 4 by omega]
  rfl
/-- Is the Far of one of the first k 500? -/
def halfB (ls : List Lk) (k : Nat) : Bool := (ls.take k).any fun l => l.e == 500
theorem halfB_succ {ls : List Lk} {k : Nat} {l : Lk} (h : ls[k]? = some l) : halfB ls (k + 1) = (halfB ls k || (l.e == 500)) := by
  obtain ⟨hk, rfl⟩ := List.getElem?_eq_some_iff.1 h
  unfold halfB
  rw [List.take_succ_eq_append_getElem hk, List.any_append]
  simp
/-- Where no Far is 500, links that are turned are others. -/
theorem far_other {ls : List Lk} (hne : ls ≠ []) : (halfB ls ls.length || !eqLs (ls.map far) ls) = true := by
  cases hh : halfB ls ls.length with
  | true => rfl
  | false =>
    obtain ⟨l, t, rfl⟩ := List.exists_cons_of_ne_nil hne
    have h1 : l.e ≠ 500 := by
      unfold halfB at hh
      rw [List.take_length, List.any_eq_false] at hh
      simpa using hh l (by simp)
    have h2 : eqLs ((l :: t).map far) (l :: t) = false := by
      refine eqLs_no (k := 0) (x := far l) (y := l) rfl rfl ?_
      unfold sameLk far
      have : (1000 - l.e == l.e) = false := by simp; omega
      simp [this]
    rw [h2]
    rfl
end Go.Proofs.Ytfifmkjidljeeaa
