/- Soft: slices.symMergeCmpFunc, of any two runs. -/
import Derived.Test.YtojeombljhmkaaaSoftAE
namespace Go.Proofs.Ytojeombljhmkaaa
open Go.RowKit Go.Shelf Go.Sort
set_option linter.unusedVariables false
set_option linter.unusedSimpArgs false
attribute [local go_sem] Oper.semAt_some
/-- Two runs, cut so that the first parts lie below the second ones. -/
theorem cut_plain {X1 X2 Y1 Y2 Z1 Z2 : List Th} (hX : ByL (X1 ++ X2)) (hY : ByL (Y1 ++ Y2)) (h1 : ∀ x ∈ X1, ∀ y ∈ Y2, ltL x y = true) (h2 : ∀ y ∈ Y1, ∀ x ∈ X2, ltL y x = true)
    (p1 : Z1.Perm (X1 ++ Y1)) (s1 : ByL Z1) (p2 : Z2.Perm (X2 ++ Y2)) (s2 : ByL Z2) : (Z1 ++ Z2).Perm ((X1 ++ X2) ++ (Y1 ++ Y2)) ∧ ByL (Z1 ++ Z2) := by
  obtain ⟨_, _, a3⟩ := List.pairwise_append.1 hX
  obtain ⟨_, _, b3⟩ := List.pairwise_append.1 hY
  refine ⟨?_, List.pairwise_append.2 ⟨s1, s2, fun u hu v hv => ?_⟩⟩
  · refine (p1.append p2).trans ?_
    rw [List.append_assoc, List.append_assoc]
    refine List.Perm.append_left X1 ?_
    rw [← List.append_assoc, ← List.append_assoc]
    exact (List.perm_append_comm).append_right Y2
  · rcases List.mem_append.1 (p1.mem_iff.1 hu) with hu | hu <;> rcases List.mem_append.1 (p2.mem_iff.1 hv) with hv | hv
    · exact a3 u hu v hv
    · exact h1 u hu v hv
    · exact h2 u hu v hv
    · exact b3 u hu v hv
/-- Where the search ends. -/
theorem seek_plain {X Y : List Th} {a m b mid s LO HI : Nat} (hX : ByL X) (hY : ByL Y) (hnm : ∀ x ∈ X, ∀ y ∈ Y, ltS x.name y.name = true) (hm : a + X.length = m) (hb : m + Y.length = b) (hmid : mid = (a + b) / 2)
    (hLH : (mid < m ∧ LO + b = mid + m ∧ HI = mid) ∨ (m ≤ mid ∧ LO = a ∧ HI = m)) (h1 : LO ≤ s) (h2 : s ≤ HI)
    (hL : ∀ c x y, LO ≤ c → c < s → X[c - a]? = some x → Y[mid + m - 1 - c - m]? = some y → ltL y x = false)
    (hG : ∀ c x y, s ≤ c → c < HI → X[c - a]? = some x → Y[mid + m - 1 - c - m]? = some y → ltL y x = true) :
    ∃ X1 X2 Y1 Y2, X = X1 ++ X2 ∧ Y = Y1 ++ Y2 ∧ X1.length + a = s ∧ Y1.length + s = mid ∧ (∀ x ∈ X1, ∀ y ∈ Y2, ltL x y = true) ∧ (∀ y ∈ Y1, ∀ x ∈ X2, ltL y x = true) := by
  refine ⟨X.take (s - a), X.drop (s - a), Y.take (mid - s), Y.drop (mid - s), (List.take_append_drop _ _).symm, (List.take_append_drop _ _).symm, by simp; omega, by simp; omega, fun x hx y hy => ?_, fun y hy x hx => ?_⟩
  · obtain ⟨i, hi⟩ := List.getElem?_of_mem hx
    obtain ⟨j, hj⟩ := List.getElem?_of_mem hy
    have hil := (List.getElem?_eq_some_iff.1 hi).1
    rw [List.length_take] at hil
    rw [List.getElem?_take_of_lt (by omega)] at hi
    rw [List.getElem?_drop] at hj
    have hjl := (List.getElem?_eq_some_iff.1 hj).1
    have e1 : X[s - 1 - a]? = some X[s - 1 - a] := List.getElem?_eq_getElem (by omega)
    have e2 : Y[mid - s]? = some Y[mid - s] := List.getElem?_eq_getElem (by omega)
    generalize X[s - 1 - a] = x1 at e1
    generalize Y[mid - s] = y1 at e2
    have h3 := ltL_of (hL (s - 1) x1 y1 (by omega) (by omega) e1 (by rw [show mid + m - 1 - (s - 1) - m = mid - s by omega]; exact e2)) (hnm x1 (List.mem_of_getElem? e1) y1 (List.mem_of_getElem? e2))
    have h4 : ltL x y1 = true := by
      by_cases he : i = s - 1 - a
      · subst he; rw [e1] at hi; cases hi; exact h3
      · exact ltL_trans (pair_at hX hi e1 (by omega)) h3
    by_cases he : mid - s + j = mid - s
    · rw [he, e2] at hj; cases hj; exact h4
    · exact ltL_trans h4 (pair_at hY e2 hj (by omega))
  · obtain ⟨j, hj⟩ := List.getElem?_of_mem hy
    obtain ⟨i, hi⟩ := List.getElem?_of_mem hx
    have hjl := (List.getElem?_eq_some_iff.1 hj).1
    rw [List.length_take] at hjl
    rw [List.getElem?_take_of_lt (by omega)] at hj
    rw [List.getElem?_drop] at hi
    have hil := (List.getElem?_eq_some_iff.1 hi).1
    have e1 : X[s - a]? = some X[s - a] := List.getElem?_eq_getElem (by omega)
    have e2 : Y[mid - 1 - s]? = some Y[mid - 1 - s] := List.getElem?_eq_getElem (by omega)
    generalize X[s - a] = x1 at e1
    generalize Y[mid - 1 - s] = y1 at e2
    have h3 := hG s x1 y1 (Nat.le_refl _) (by omega) e1 (by rw [show mid + m - 1 - s - m = mid - 1 - s by omega]; exact e2)
    have h4 : ltL y x1 = true := by
      by_cases he : j = mid - 1 - s
      · subst he; rw [e2] at hj; cases hj; exact h3
      · exact ltL_trans (pair_at hY hj e2 (by omega)) h3
    by_cases he : s - a + i = s - a
    · rw [he, e1] at hi; cases hi; exact h4
    · exact ltL_trans h4 (pair_at hX e1 hi (by omega))
/-- The merge's contract, of at most so many. -/
def MergeIs (sz : Nat) : Prop := ∀ (base g cap N a m b : Nat) (Pre X Y Post : List Th) (w : World), RowS base g cap (Pre ++ (X ++ (Y ++ Post))) w → base ≤ w.heap.size → 0 < X.length → 0 < Y.length → X.length + Y.length ≤ sz → ByL X → ByL Y → (∀ x ∈ X, ∀ y ∈ Y, ltS x.name y.name = true) →
    (Pre ++ (X ++ (Y ++ Post))).length = N → N ≤ 1000000 → Pre.length = a → a + X.length = m → m + Y.length = b →
    Calls Try.prog 59 #[.slice (some ⟨g, 0, none⟩) N cap, .int .i64 (a : Int), .int .i64 (m : Int), .int .i64 (b : Int), .func (.func 35) #[] #[]] w fun e w' =>
      e = .returned (.tuple #[]) ∧ (∃ Z, Z.Perm (X ++ Y) ∧ ByL Z ∧ RowS base g cap (Pre ++ (Z ++ Post)) w') ∧ Below base w w'
end Go.Proofs.Ytojeombljhmkaaa
