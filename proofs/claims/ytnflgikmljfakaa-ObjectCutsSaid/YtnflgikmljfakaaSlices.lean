/- Slices, said as a list: what is read where. Over any program. -/
import Derived.Test.YtnflgikmljfakaaLib
namespace Go.Proofs.Ytnflgikmljfakaa
open Go.RowKit

theorem flat_get {α : Type} {enc : α → List Value} {k : Nat} (hk : ∀ x, (enc x).length = k) : ∀ (xs : List α) (j : Nat) (x : α) (i : Nat) (u : Value), xs[j]? = some x → (enc x)[i]? = some u → (xs.flatMap enc)[j * k + i]? = some u
  | [], _, _, _, _, h, _ => by simp at h
  | y :: ys, 0, x, i, u, h, hi => by
    simp at h
    subst h
    have : i < (enc y).length := (List.getElem?_eq_some_iff.1 hi).1
    rw [List.flatMap_cons, List.getElem?_append_left (by omega)]
    simpa using hi
  | y :: ys, j + 1, x, i, u, h, hi => by
    simp at h
    rw [List.flatMap_cons, List.getElem?_append_right (by rw [hk, Nat.succ_mul]; omega), hk, show (j + 1) * k + i - k = j * k + i by rw [Nat.succ_mul]; omega]
    exact flat_get hk ys j x i u h hi
theorem flat_inv {α : Type} {enc : α → List Value} {k : Nat} (hk : ∀ x, (enc x).length = k) : ∀ (xs : List α) (m : Nat) (u : Value), (xs.flatMap enc)[m]? = some u → ∃ j x i, m = j * k + i ∧ i < k ∧ xs[j]? = some x ∧ (enc x)[i]? = some u
  | [], _, _, h => by simp at h
  | y :: ys, m, u, h => by
    rw [List.flatMap_cons] at h
    by_cases hm : m < k
    · rw [List.getElem?_append_left (by rw [hk]; exact hm)] at h
      exact ⟨0, y, m, by simp, hm, rfl, h⟩
    · rw [List.getElem?_append_right (by rw [hk]; omega), hk] at h
      obtain ⟨j, x, i, h1, h2, h3, h4⟩ := flat_inv hk ys (m - k) u h
      exact ⟨j + 1, x, i, by rw [Nat.succ_mul]; omega, h2, by simpa using h3, h4⟩
theorem flat_length {α : Type} {enc : α → List Value} {k : Nat} (hk : ∀ x, (enc x).length = k) (xs : List α) : (xs.flatMap enc).length = xs.length * k := by
  induction xs with
  | nil => simp
  | cons y ys ih => rw [List.flatMap_cons, List.length_append, ih, hk, List.length_cons, Nat.succ_mul]; omega

/-- The elements at a place. -/
def RowAt {α : Type} (enc : α → List Value) (k : Nat) (w : World) (b o : Nat) (xs : List α) : Prop :=
  ∀ j x, xs[j]? = some x → ∀ i u, (enc x)[i]? = some u → w.cell? ⟨b, o + j * k + i, none⟩ = some u
/-- v is a slice that reads as these. -/
def SAt {α : Type} (enc : α → List Value) (k : Nat) (w : World) (v : Value) (xs : List α) : Prop :=
  (v = .slice none 0 0 ∧ xs = []) ∨ ∃ b o c, v = .slice (some ⟨b, o, none⟩) xs.length c ∧ xs.length ≤ c ∧ c ≤ maxLen ∧ RowAt enc k w b o xs
section
variable {α : Type} {enc : α → List Value} {k : Nat}
theorem RowAt.below {w W : World} {b o : Nat} {xs : List α} (h : RowAt enc k w b o xs) (hb : Below w.heap.size w W) : RowAt enc k W b o xs := fun j x hj i u hi => bl_cell hb (h j x hj i u hi)
theorem SAt.below {w W : World} {v : Value} {xs : List α} (h : SAt enc k w v xs) (hb : Below w.heap.size w W) : SAt enc k W v xs := by
  rcases h with h | ⟨b, o, c, h1, h2, h3, h4⟩
  · exact Or.inl h
  · exact Or.inr ⟨b, o, c, h1, h2, h3, h4.below hb⟩
/-- All that was read is read as before. -/
def CellsKept (w W : World) : Prop := ∀ b o v, w.cell? ⟨b, o, none⟩ = some v → W.cell? ⟨b, o, none⟩ = some v
theorem Below.cellsKept {w W : World} (hb : Below w.heap.size w W) : CellsKept w W := fun _ _ _ h => bl_cell hb h
theorem cellsKept_map {w W : World} {r : Nat} {es : Array MapEntry} {clock : Nat} (hr : w.heap[r]? = some (.map es clock)) (hg : w.grownBy W (some r)) : CellsKept w W := fun b o v h => by
  have hlt : b < w.heap.size := World.block_lt_of_cell? w ⟨b, o, none⟩ h
  have hne : b ≠ r := fun e => by
    subst e
    simp [World.cell?, hr] at h
  exact (World.cell?_of_block (w := w) (a := ⟨b, o, none⟩) (hg.block b hlt (by simpa using hne))).trans h
theorem SAt.kept {w W : World} {v : Value} {xs : List α} (h : SAt enc k w v xs) (hb : CellsKept w W) : SAt enc k W v xs := by
  rcases h with h | ⟨b, o, c, h1, h2, h3, h4⟩
  · exact Or.inl h
  · exact Or.inr ⟨b, o, c, h1, h2, h3, fun j x hj i u hi => hb _ _ _ (h4 j x hj i u hi)⟩
theorem SAt.slice {w : World} {v : Value} {xs : List α} (h : SAt enc k w v xs) : ∃ A c, v = .slice A xs.length c := by
  rcases h with ⟨rfl, rfl⟩ | ⟨b, o, c, h1, h2, h3, h4⟩
  · exact ⟨none, 0, rfl⟩
  · exact ⟨_, _, h1⟩
theorem SAt.len {w : World} {v : Value} {xs : List α} (h : SAt enc k w v xs) : xs.length ≤ maxLen := by
  rcases h with ⟨_, rfl⟩ | ⟨b, o, c, h1, h2, h3, h4⟩
  · simp
  · omega
theorem RowAt.flat {w : World} {b o : Nat} {xs : List α} (hk : ∀ x, (enc x).length = k) (h : RowAt enc k w b o xs) : ∀ j u, (xs.flatMap enc)[j]? = some u → w.cell? ⟨b, o + j, none⟩ = some u := fun m u hm => by
  obtain ⟨j, x, i, h1, h2, h3, h4⟩ := flat_inv hk xs m u hm
  rw [h1, ← Nat.add_assoc]
  exact h j x h3 i u h4
theorem SAt.ofOwn {w : World} {base e n : Nat} {v : Value} {xs : List α} (hk : ∀ x, (enc x).length = k) (hn : xs.length = n) (h : w.ownsRow base e k v n (xs.flatMap enc)) : SAt enc k w v xs := by
  obtain ⟨hl, h⟩ := h
  rcases h with ⟨h1, h2⟩ | ⟨g, cap, cur, h1, h2, h3, h4, h5, h6, h7⟩
  · left
    refine ⟨h1, List.eq_nil_of_length_eq_zero (by omega)⟩
  · right
    refine ⟨g, 0, cap, by rw [hn]; exact h1, by omega, h5, fun j x hj i u hi => ?_⟩
    have h8 := flat_get hk xs j x i u hj hi
    rw [← h7] at h8
    have h9 : cur.toList[j * k + i]? = some u := by
      rw [List.getElem?_take] at h8
      split at h8
      · exact h8
      · cases h8
    rw [Nat.zero_add]
    unfold World.cell?
    simp only [h3, Option.isSome_none, Bool.false_eq_true, if_false]
    simpa using h9
/-- A block that has just been laid. -/
theorem rowAt_new (hk : ∀ x, (enc x).length = k) (W : World) (e : TypeId) (xs : List α) {b : Nat} (hb : b = W.heap.size) {cells : Array Value} (hc : cells = (xs.flatMap enc).toArray) : RowAt enc k (W.alloc (.cells cells e)) b 0 xs := fun j x hj i u hi => by
  have h1 := flat_get hk xs j x i u hj hi
  subst hb hc
  have h2 : (W.alloc (.cells (xs.flatMap enc).toArray e)).heap[W.heap.size]? = some (.cells (xs.flatMap enc).toArray e) := by
    show (W.heap.push _)[W.heap.size]? = _
    simp
  simp only [World.cell?, h2, Nat.zero_add]
  simpa using h1
theorem SAt.nil {w : World} : SAt enc k w (.slice none 0 0) ([] : List α) := Or.inl ⟨rfl, rfl⟩
/-- A slice, cut behind so many. -/
theorem RowAt.take {w : World} {b o : Nat} {xs : List α} (h : RowAt enc k w b o xs) (n : Nat) : RowAt enc k w b o (xs.take n) := fun j x hj i u hi => by
  rw [List.getElem?_take] at hj
  split at hj
  · exact h j x hj i u hi
  · cases hj
theorem RowAt.drop {w : World} {b o : Nat} {xs : List α} (h : RowAt enc k w b o xs) (n : Nat) : RowAt enc k w b (o + n * k) (xs.drop n) := fun j x hj i u hi => by
  rw [List.getElem?_drop] at hj
  have := h (n + j) x hj i u hi
  rwa [show o + (n + j) * k + i = o + n * k + j * k + i by rw [Nat.add_mul]; omega] at this
end
end Go.Proofs.Ytnflgikmljfakaa
