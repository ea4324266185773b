/- Object: what bytes of objects are, in plain Lean. -/
import Derived.Test.YtnflgikmljfakaaObjP
namespace Go.Proofs.Ytnflgikmljfakaa
open Go.RowKit Go.Shelf
set_option linter.unusedVariables false
set_option linter.unusedSimpArgs false
abbrev O3 : Type := Int × Int × List Int
def Ob.key (q : Ob) : O3 := (q.c, q.t, q.ws)
def word4 (bs : List Int) (j : Nat) : Int := numOf ((bs.drop (4 * j)).take 4) 0
def wordsOf (k : Nat) (bs : List Int) : List Int := (List.range k).map (word4 bs)
theorem wordsOf_succ (k : Nat) (bs : List Int) : wordsOf (k + 1) bs = wordsOf k bs ++ [word4 bs k] := by
  unfold wordsOf
  rw [List.range_succ, List.map_append]
  rfl
theorem wordsOf_len (k : Nat) (bs : List Int) : (wordsOf k bs).length = k := by simp [wordsOf]
/-- An object's bytes ahead: the object, and what follows. -/
def stepO (bs : List Int) : Option (O3 × List Int) :=
  if bs.length < 2 then none else
  if numOf (bs.take 2) 0 % 4 = 0 ∧ 8 ≤ numOf (bs.take 2) 0 ∧ numOf (bs.take 2) 0 ≤ 260 ∧ numOf (bs.take 2) 0 ≤ bs.length then
    some ((numOf ((bs.drop 2).take 1) 0, numOf ((bs.drop 3).take 1) 0, wordsOf ((numOf (bs.take 2) 0).toNat / 4 - 1) (bs.drop 4)), bs.drop (numOf (bs.take 2) 0).toNat)
  else none
theorem stepO_lt {bs : List Int} {q : O3} {rest : List Int} (h : stepO bs = some (q, rest)) : rest.length < bs.length := by
  unfold stepO at h
  split at h
  · cases h
  · split at h
    · rename_i h1 h2
      simp only [Option.some.injEq, Prod.mk.injEq] at h
      rw [← h.2, List.length_drop]
      omega
    · cases h
/-- The objects of bytes, as far as they go; true: to their end. -/
def readO : Nat → List Int → List O3 × Bool
  | 0, bs => ([], bs.isEmpty)
  | f + 1, bs => if bs.isEmpty then ([], true) else match stepO bs with
    | none => ([], false)
    | some (q, rest) => (q :: (readO f rest).1, (readO f rest).2)
theorem readO_nil : ∀ f, readO f [] = ([], true)
  | 0 => rfl
  | _ + 1 => rfl
theorem readO_enough : ∀ (f g : Nat) (bs : List Int), bs.length ≤ f → bs.length ≤ g → readO f bs = readO g bs
  | 0, g, bs, hf, hg => by
    have : bs = [] := List.eq_nil_of_length_eq_zero (by omega)
    subst this
    rw [readO_nil, readO_nil]
  | f + 1, 0, bs, hf, hg => by
    have : bs = [] := List.eq_nil_of_length_eq_zero (by omega)
    subst this
    rw [readO_nil, readO_nil]
  | f + 1, g + 1, bs, hf, hg => by
    unfold readO
    cases hb : bs.isEmpty with
    | true => rfl
    | false =>
      cases hs : stepO bs with
      | none => rfl
      | some p =>
        obtain ⟨q, rest⟩ := p
        have := stepO_lt hs
        simp only [Bool.false_eq_true, if_false]
        rw [readO_enough f g rest (by omega) (by omega)]
def rd (bs : List Int) : List O3 × Bool := readO bs.length bs
theorem rd_nil : rd [] = ([], true) := rfl
theorem rd_none {bs : List Int} (h0 : 0 < bs.length) (h : stepO bs = none) : rd bs = ([], false) := by
  unfold rd
  cases bs with
  | nil => simp at h0
  | cons b bs => simp [readO, h]
theorem rd_some {bs rest : List Int} {q : O3} (h0 : 0 < bs.length) (h : stepO bs = some (q, rest)) : rd bs = (q :: (rd rest).1, (rd rest).2) := by
  have hl := stepO_lt h
  unfold rd
  cases bs with
  | nil => simp at h0
  | cons b bs =>
    have := readO_enough bs.length rest.length rest (by simp at hl; omega) (Nat.le_refl _)
    simp [readO, h, this]
/-- What Parse tells. -/
def parseO (bs : List Int) : Option (List O3) := if (rd bs).2 = true ∧ (rd bs).1.length ≤ 40 then some (rd bs).1 else none
theorem numB_lt (n : Int) : ∀ k, BytesIn (numB n k)
  | 0 => fun x hx => by simp [numB] at hx
  | k + 1 => fun x hx => by
    simp only [numB, List.mem_cons] at hx
    rcases hx with rfl | hx
    · omega
    · exact numB_lt n k x hx
theorem num2 (n : Int) (h0 : 0 ≤ n) (h1 : n < 65536) : numOf (numB n 2) 0 = n := by
  simp only [numB, numOf, Nat.mul_zero, Nat.mul_one, Nat.reduceMul, Int.reducePow]
  omega
theorem num4 (n : Int) (h0 : 0 ≤ n) (h1 : n ≤ 4294967295) : numOf (numB n 4) 0 = n := by
  simp only [numB, numOf, Nat.mul_zero, Nat.mul_one, Nat.reduceMul, Int.reducePow]
  omega
theorem words_raw : ∀ (ws rest : List Int), (∀ n ∈ ws, 0 ≤ n ∧ n ≤ 4294967295) → wordsOf ws.length ((ws.flatMap fun n => numB n 4) ++ rest) = ws := by
  intro ws rest h
  refine List.ext_getElem (by rw [wordsOf_len]) fun j h1 h2 => ?_
  have hw : (wordsOf ws.length ((ws.flatMap fun n => numB n 4) ++ rest))[j] = word4 ((ws.flatMap fun n => numB n 4) ++ rest) j := by simp [wordsOf]
  rw [hw]
  unfold word4
  have hsp : (ws.flatMap fun n => numB n 4) = ((ws.take j).flatMap fun n => numB n 4) ++ (numB ws[j] 4 ++ ((ws.drop (j + 1)).flatMap fun n => numB n 4)) := by
    have e : ws = ws.take j ++ ws[j] :: ws.drop (j + 1) := (List.take_append_drop j ws).symm.trans (by rw [List.drop_eq_getElem_cons h2])
    exact (congrArg (fun l => l.flatMap fun n => numB n 4) e).trans (by rw [List.flatMap_append, List.flatMap_cons])
  have hl : ((ws.take j).flatMap fun n => numB n 4).length = 4 * j := by rw [rawW_len, List.length_take]; omega
  rw [hsp, List.append_assoc, ← hl, List.drop_left, List.append_assoc, List.take_append_of_le_length (by rw [numB_len]; exact Nat.le_refl _), List.take_of_length_le (by rw [numB_len]; exact Nat.le_refl _)]
  exact num4 _ (h _ (List.getElem_mem h2)).1 (h _ (List.getElem_mem h2)).2
/-- The bytes of an object that may be, read. -/
theorem step_raw (q : Ob) (rest : List Int) (h : mayB q = true) : stepO (rawO q ++ rest) = some (q.key, rest) := by
  obtain ⟨h1, h2, h3, h4, h5, h6, h7⟩ := mayB_iff h
  have hl : (rawO q ++ rest).length = 4 + 4 * q.ws.length + rest.length := by rw [List.length_append, rawO_len]
  have ht : numOf ((rawO q ++ rest).take 2) 0 = 4 + 4 * (q.ws.length : Int) := by
    unfold rawO
    rw [List.append_assoc, List.take_append_of_le_length (by rw [numB_len]; exact Nat.le_refl _), List.take_of_length_le (by rw [numB_len]; exact Nat.le_refl _)]
    exact num2 _ (by omega) (by omega)
  have hd2 : (rawO q ++ rest).drop 2 = [q.c % 256, q.t % 256] ++ ((q.ws.flatMap fun n => numB n 4) ++ rest) := by
    unfold rawO
    rw [List.append_assoc, List.drop_append_of_le_length (by rw [numB_len]; exact Nat.le_refl _), List.drop_of_length_le (by rw [numB_len]; exact Nat.le_refl _), List.nil_append, List.append_assoc]
  have hd3 : (rawO q ++ rest).drop 3 = [q.t % 256] ++ ((q.ws.flatMap fun n => numB n 4) ++ rest) := by
    rw [show 3 = 2 + 1 by rfl, ← List.drop_drop, hd2]
    rfl
  have hd4 : (rawO q ++ rest).drop 4 = (q.ws.flatMap fun n => numB n 4) ++ rest := by
    rw [show 4 = 2 + 2 by rfl, ← List.drop_drop, hd2]
    rfl
  unfold stepO
  rw [if_neg (by omega), ht, if_pos ⟨by omega, by omega, by omega, by rw [hl]; omega⟩, hd2, hd3, hd4, show (4 + 4 * (q.ws.length : Int)).toNat / 4 - 1 = q.ws.length by omega, words_raw _ _ h7]
  have e1 : q.c % 256 = q.c := by omega
  have e2 : q.t % 256 = q.t := by omega
  have e3 : (rawO q ++ rest).drop (4 + 4 * (q.ws.length : Int)).toNat = rest := by
    rw [show (4 + 4 * (q.ws.length : Int)).toNat = (rawO q).length by rw [rawO_len]; omega, List.drop_left]
  rw [e3]
  simp [numOf, Ob.key, e1, e2]
theorem rd_raw : ∀ (qs : List Ob), (∀ q ∈ qs, mayB q = true) → rd (rawL qs) = (qs.map Ob.key, true)
  | [], _ => rfl
  | q :: qs, h => by
    have e : rawL (q :: qs) = rawO q ++ rawL qs := by simp [rawL]
    have hl : 0 < (rawO q ++ rawL qs).length := by rw [List.length_append, rawO_len]; omega
    rw [e, rd_some hl (step_raw q _ (h q (by simp))), rd_raw qs fun x hx => h x (by simp [hx])]
    rfl
end Go.Proofs.Ytnflgikmljfakaa
