/- Ledger: plain laws for LedgerMany. -/
import Derived.Test.YtfnijjjfodpnnaaLedU
namespace Go.Proofs.Ytfnijjjfodpnnaa
open Go.RowKit Go.Shelf
set_option linter.unusedVariables false
set_option linter.unusedSimpArgs false
def manyL (k : Nat) : List En := (List.range k).map fun i : Nat => ⟨(i : Int), 1, 1⟩
theorem manyL_len (k : Nat) : (manyL k).length = k := by simp [manyL]
theorem manyL_succ (k : Nat) : manyL (k + 1) = manyL k ++ [⟨(k : Int), 1, 1⟩] := by simp [manyL, List.range_succ]
theorem manyL_none (k j : Nat) (h : k ≤ j) : getE (manyL k) (j : Int) = none := by
  unfold getE manyL
  rw [List.find?_eq_none]
  intro x hx
  obtain ⟨i, hi, rfl⟩ := List.mem_map.1 hx
  have := List.mem_range.1 hi
  simp
  omega
theorem manyL_sum (k : Nat) : sumR (manyL k) = k ∧ sumM (manyL k) = k := by
  induction k with
  | zero => simp [manyL, sumR, sumM]
  | succ k ih =>
    rw [manyL_succ, sumR_append, sumM_append, ih.1, ih.2]
    simp [sumR, sumM]
theorem manyL_fine (k : Nat) (h : k ≤ 1000) : Fine (manyL k) [] := by
  refine ⟨fun x hx => ?_, by simp, by rw [manyL_len]; exact h, by simp⟩
  obtain ⟨i, -, rfl⟩ := List.mem_map.1 hx
  dsimp only
  omega
theorem mayB_many (k : Nat) (h : k ≤ 40) : mayB ⟨(k : Int), 1, 1⟩ [0] = true := by
  simp [mayB, wi]
  omega
theorem many_ok (k : Nat) (h : k < 32) : firstQ (fitsQs 1000 1000 (manyL k) [] ⟨(k : Int), 1, 1⟩ 0) = 0 := by
  unfold fitsQs roomQs
  have h1 := mayB_many k (by omega)
  have h2 := manyL_none k k (Nat.le_refl _)
  have h3 := manyL_sum k
  have h4 : takG [] (0 : Int) = 0 := rfl
  rw [tooMuch_in (by dsimp only; omega) (by dsimp only; omega), tooMuch_in (by dsimp only; omega) (by dsimp only; omega)]
  simp only [h1, h2, h3.1, h3.2, h4, manyL_len, firstQ, List.cons_append, List.nil_append, Bool.not_true, Option.isSome_none, Bool.false_eq_true, if_false]
  rw [if_neg (by simp; omega), if_neg (by simp; omega), if_neg (by simp; omega)]
theorem many_no (k : Nat) (h : 32 ≤ k) (h2 : k ≤ 40) : firstQ (fitsQs 1000 1000 (manyL 32) [] ⟨(k : Int), 1, 1⟩ 0) = 270 := by
  unfold fitsQs roomQs
  have h1 := mayB_many k h2
  have h3 := manyL_none 32 k h
  simp only [h1, h3, manyL_len, firstQ, List.cons_append, List.nil_append, Bool.not_true, Option.isSome_none, Bool.false_eq_true, if_false]
  rw [if_pos (by decide)]
theorem manyL_give (k : Nat) (h : k < 32) : giveE (manyL k) ⟨(k : Int), 1, 1⟩ 0 = manyL (k + 1) := by
  unfold giveE
  rw [if_pos rfl, putE, manyL_none k k (Nat.le_refl _), manyL_succ]
  rfl
end Go.Proofs.Ytfnijjjfodpnnaa
