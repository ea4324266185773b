/- Rows of elements of k cells, sorted: between ownsRow and the sort's words. Over any program. -/
import Derived.Test.YtojeombljhmkaaaSlices
import Derived.Shelf.SlSortCmp.InsertionK
import Derived.Sort.Statements
namespace Go.Proofs.Ytojeombljhmkaaa
open Go.RowKit Go.Shelf Go.Sort
set_option linter.unusedVariables false
section
variable {α : Type} [Inhabited α] {enc : α → List Value} {k : Nat}
theorem flatK_toList (hk : ∀ x, (enc x).length = k) (d : Array α) : (flatK enc k d).toList = d.toList.flatMap enc := by
  apply List.ext_getElem?
  intro t
  by_cases ht : t < d.size * k
  · have hk0 : 0 < k := by
      rcases Nat.eq_zero_or_pos k with h | h
      · subst h; simp at ht
      · exact h
    have hj : t / k < d.size := Nat.div_lt_of_lt_mul (by rw [Nat.mul_comm]; exact ht)
    have hi : t % k < k := Nat.mod_lt _ hk0
    have h1 : d.toList[t / k]? = some d[t / k]! := by
      rw [Array.getElem?_toList, Array.getElem?_eq_getElem hj, getElem!_pos d _ hj]
    have h2 : (enc d[t / k]!)[t % k]? = some (enc d[t / k]!)[t % k]! := by
      have h3 : t % k < (enc d[t / k]!).length := by rw [hk]; exact hi
      rw [List.getElem?_eq_getElem h3, getElem!_pos (enc d[t / k]!) _ h3]
    have h4 := flat_get hk d.toList (t / k) _ (t % k) _ h1 h2
    rw [show t / k * k + t % k = t from Nat.div_add_mod' t k] at h4
    rw [h4, Array.getElem?_toList]
    have h5 : t < (flatK enc k d).size := by simpa using ht
    rw [Array.getElem?_eq_getElem h5, ← get_flatK enc k d t ht, getElem!_pos (flatK enc k d) t h5]
  · rw [List.getElem?_eq_none (by simp; omega), List.getElem?_eq_none (by rw [flat_length hk]; simp; omega)]
theorem holdsK_of {w : World} {g : Nat} {cur : Array Value} {e : TypeId} {xs : List α} (hk : ∀ x, (enc x).length = k) (hb : w.heap[g]? = some (.cells cur e (0, 0))) (ht : cur.toList.take (xs.length * k) = xs.flatMap enc) : HoldsK enc k w g 0 xs.toArray := by
  intro j hj
  have hF := flatK_toList hk xs.toArray
  simp only at hF
  rw [← ht] at hF
  have hj' : j < xs.length * k := by simpa using hj
  refine ⟨?_, by simp [World.frozen?, hb]⟩
  have h1 := congrArg (fun l => l[j]?) hF
  simp only [Array.getElem?_toList] at h1
  rw [List.getElem?_take_of_lt hj', Array.getElem?_eq_getElem hj] at h1
  simp only [World.cell?, hb, Nat.zero_add, Option.isSome_none, Bool.false_eq_true, if_false]
  rw [← Array.getElem?_toList, ← h1, id, getElem!_pos (flatK enc k xs.toArray) j hj]
theorem take_put (cur : Array Value) (ts : List Value) (h : ts.length ≤ cur.size) : (putCells id 0 ts.toArray cur).toList.take ts.length = ts := by
  apply List.ext_getElem?
  intro j
  by_cases hj : j < ts.length
  · rw [List.getElem?_take_of_lt hj, Array.getElem?_toList]
    simp [putCells, hj, show j < cur.size by omega]
  · rw [List.getElem?_take_eq_none (by omega), List.getElem?_eq_none (by omega)]
theorem grownBy_sortedK {w : World} {g n : Nat} {os : Array Obj} (d : Array α) : w.grownBy (sortWorldK enc k w g 0 n d os) (some g) := by
  unfold sortWorldK putRowK
  refine ⟨rfl, rfl, rfl, by simp, fun j hj hne => ?_⟩
  rw [heap_grow_old _ _ (by simpa using hj)]
  have : g ≠ j := fun e => hne (by rw [e])
  simp [putRow, mapBlock, Sort.ahead, Array.getElem?_modify, this]
theorem ownsRow_sortedK {w : World} {base g cap n : Nat} {e : TypeId} {os : Array Obj} {cur : Array Value} {ys : List α} (hk : ∀ x, (enc x).length = k) (hbase : base ≤ g) (hb : w.heap[g]? = some (.cells cur e (0, 0)))
    (h1 : ys.length ≤ cap) (h2 : cap ≤ maxLen) (h3 : cur.size = cap * k) :
    (sortWorldK enc k w g 0 n ys.toArray os).ownsRow base e k (.slice (some ⟨g, 0, none⟩) ys.length cap) ys.length (ys.flatMap enc) := by
  have hF := flatK_toList hk ys.toArray
  simp only at hF
  have hg : g < w.heap.size := (Array.getElem?_eq_some_iff.1 hb).1
  have hl : (ys.flatMap enc).length ≤ cur.size := by rw [flat_length hk, h3]; exact Nat.mul_le_mul_right k h1
  have hF2 : flatK enc k ys.toArray = (ys.flatMap enc).toArray := by rw [← hF]
  refine ⟨flat_length hk ys, .inr ⟨g, cap, putCells id 0 (ys.flatMap enc).toArray cur, rfl, hbase, ?_, h1, h2, by simp [putCells, h3], ?_⟩⟩
  · unfold sortWorldK putRowK
    rw [heap_grow_old _ _ (by simpa using hg), hF2]
    simp [putRow, mapBlock, Sort.ahead, Array.getElem?_modify, hb, onCells]
  · have := take_put cur (ys.flatMap enc) hl
    rwa [flat_length hk] at this
end
/-- Of no two the later one is less. -/
def SortedBy {α : Type} (cf : α → α → Int) (ys : List α) : Prop := ys.Pairwise fun a b => ¬ cf b a < 0
theorem sortedBy_of {α : Type} [Inhabited α] {cf : α → α → Int} {d : Array α} (h : SortedIn (ltOf cf) 0 d.size d) : SortedBy cf d.toList := by
  unfold SortedBy
  rw [List.pairwise_iff_getElem]
  intro i j hi hj hij
  have hi' : i < d.size := by simpa using hi
  have hj' : j < d.size := by simpa using hj
  have := h i j (Nat.zero_le _) hij hj'
  rw [getElem!_pos d i hi', getElem!_pos d j hj'] at this
  simpa [ltOf] using this
theorem perm_of {α : Type} [Inhabited α] {d d' : Array α} (h : PermIn 0 d.size d d') : d'.toList.Perm d.toList := by
  obtain ⟨h1, h2, h3⟩ := h
  have e1 : d'.extract 0 d.size = d' := by rw [← h1]; simp
  have e2 : d.extract 0 d.size = d := by simp
  rw [e1, e2] at h3
  exact h3
end Go.Proofs.Ytojeombljhmkaaa
