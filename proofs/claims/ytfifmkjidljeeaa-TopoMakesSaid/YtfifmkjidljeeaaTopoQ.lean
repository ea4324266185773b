/- Topo: plain facts on a node's links. -/
import Derived.Test.YtfifmkjidljeeaaTopoP
namespace Go.Proofs.Ytfifmkjidljeeaa
open Go.RowKit

/-- Two lists of the same members, both by a rising key, are one. -/
theorem eq_of_rising {α : Type} (key : α → Int) : ∀ (a b : List α), (a.Pairwise fun x y => key x < key y) → (b.Pairwise fun x y => key x < key y) → (∀ x, x ∈ a ↔ x ∈ b) → a = b
  | [], [], _, _, _ => rfl
  | [], y :: b, _, _, h => by have := (h y).2 (by simp); simp at this
  | x :: a, [], _, _, h => by have := (h x).1 (by simp); simp at this
  | x :: a, y :: b, ha, hb, h => by
    rw [List.pairwise_cons] at ha hb
    have hxy : x = y := by
      have h1 := (h x).1 (by simp)
      have h2 := (h y).2 (by simp)
      simp only [List.mem_cons] at h1 h2
      rcases h1 with h1 | h1
      · exact h1
      · rcases h2 with h2 | h2
        · exact h2.symm
        · have := hb.1 x h1
          have := ha.1 y h2
          omega
    subst hxy
    refine congrArg _ (eq_of_rising key a b ha.2 hb.2 fun z => ?_)
    constructor
    · intro hz
      have := (h z).1 (List.mem_cons_of_mem _ hz)
      simp only [List.mem_cons] at this
      rcases this with rfl | this
      · have := ha.1 _ hz
        omega
      · exact this
    · intro hz
      have := (h z).2 (List.mem_cons_of_mem _ hz)
      simp only [List.mem_cons] at this
      rcases this with rfl | this
      · have := hb.1 _ hz
        omega
      · exact this
/-- A node's links, by the nodes to which they go. -/
def outL (nodes : Nat) (ls : List Lk) (node : Int) : List Nat := (List.range nodes).filterMap fun (tn : Nat) => pos ls node (tn : Int)
/-- The numbers of a node's links. -/
def frm (ls : List Lk) (node : Int) : List Nat := (List.range ls.length).filter fun i => (ls.getD i Lk0).a == node
theorem mem_frm {ls : List Lk} {node : Int} {i : Nat} : i ∈ frm ls node ↔ ∃ l, ls[i]? = some l ∧ l.a = node := by
  unfold frm
  rw [List.mem_filter, List.mem_range]
  constructor
  · rintro ⟨h1, h2⟩
    refine ⟨ls[i], List.getElem?_eq_getElem h1, ?_⟩
    simpa [List.getD, h1] using h2
  · rintro ⟨l, h1, h2⟩
    obtain ⟨hi, rfl⟩ := List.getElem?_eq_some_iff.1 h1
    exact ⟨hi, by simpa [List.getD, hi] using h2⟩
def To (ls : List Lk) (i : Nat) : Int := (ls.getD i Lk0).b
theorem to_eq {ls : List Lk} {i : Nat} {l : Lk} (h : ls[i]? = some l) : To ls i = l.b := by
  unfold To
  rw [List.getD_eq_getElem?_getD, h]
  rfl
theorem mem_outL {nodes : Nat} {ls : List Lk} {node : Int} (ha : Apart ls) (hb : ∀ l ∈ ls, 0 ≤ l.b ∧ l.b < nodes) {i : Nat} : i ∈ outL nodes ls node ↔ i ∈ frm ls node := by
  unfold outL
  rw [List.mem_filterMap, mem_frm]
  constructor
  · rintro ⟨tn, -, h⟩
    obtain ⟨l, hl, h1, -⟩ := pos_some h
    exact ⟨l, hl, h1⟩
  · rintro ⟨l, hl, rfl⟩
    have hm := hb l (List.mem_of_getElem? hl)
    refine ⟨l.b.toNat, List.mem_range.2 (by omega), ?_⟩
    rw [show ((l.b.toNat : Nat) : Int) = l.b by omega]
    exact pos_of ha hl
theorem rising_filterMap (ls : List Lk) (node : Int) : ∀ (n k : Nat), ((List.range' k n).filterMap fun (tn : Nat) => pos ls node (tn : Int)).Pairwise (fun x y => To ls x < To ls y)
  | 0, k => by simp
  | n + 1, k => by
    rw [List.range'_succ, List.filterMap_cons]
    have ih := rising_filterMap ls node n (k + 1)
    cases h : pos ls node (k : Int) with
    | none => exact ih
    | some m =>
      refine List.pairwise_cons.2 ⟨fun y hy => ?_, ih⟩
      obtain ⟨tn, ht, hy⟩ := List.mem_filterMap.1 hy
      obtain ⟨l, hl, -, h1⟩ := pos_some h
      obtain ⟨l2, hl2, -, h2⟩ := pos_some hy
      rw [to_eq hl, to_eq hl2, h1, h2]
      have := (List.mem_range'_1.1 ht).1
      omega
theorem outL_rising (nodes : Nat) (ls : List Lk) (node : Int) : (outL nodes ls node).Pairwise (fun x y => To ls x < To ls y) := by
  unfold outL
  rw [List.range_eq_range']
  exact rising_filterMap ls node nodes 0
theorem sorted_eq {nodes : Nat} {ls : List Lk} {node : Int} {ys : List Nat} (ha : Apart ls) (hb : ∀ l ∈ ls, 0 ≤ l.b ∧ l.b < nodes) (hp : ys.Perm (frm ls node)) (hs : ys.Pairwise fun x y => ¬ To ls y < To ls x) : ys = outL nodes ls node := by
  have hmem : ∀ i, i ∈ ys ↔ i ∈ outL nodes ls node := fun i => (hp.mem_iff).trans (mem_outL ha hb).symm
  refine eq_of_rising (To ls) _ _ ?_ (outL_rising _ _ _) hmem
  have hnd : ys.Nodup := hp.nodup_iff.2 (List.nodup_range.filter _)
  have hand := List.pairwise_and_iff.2 ⟨hs, hnd⟩
  refine List.Pairwise.imp_of_mem ?_ hand
  rintro i j hi hj ⟨h1, h2⟩
  rcases Int.lt_or_le (To ls i) (To ls j) with h | h
  · exact h
  · exfalso
    have he : To ls i = To ls j := by omega
    obtain ⟨l, hl, hl1⟩ := mem_frm.1 ((hp.mem_iff).1 hi)
    obtain ⟨m, hm, hm1⟩ := mem_frm.1 ((hp.mem_iff).1 hj)
    rw [to_eq hl, to_eq hm] at he
    have e1 := pos_of ha hl
    have e2 := pos_of ha hm
    rw [hl1, he, ← hm1, e2] at e1
    cases e1
    exact h2 rfl
theorem outL_perm {nodes : Nat} {ls : List Lk} (node : Int) (ha : Apart ls) (hb : ∀ l ∈ ls, 0 ≤ l.b ∧ l.b < nodes) : (outL nodes ls node).Perm (frm ls node) := by
  have hp := List.mergeSort_perm (frm ls node) (fun x y => decide (To ls x ≤ To ls y))
  have hs := List.pairwise_mergeSort (le := fun x y => decide (To ls x ≤ To ls y)) (fun a b c h1 h2 => by simp at h1 h2 ⊢; omega) (fun a b => by simp; omega) (frm ls node)
  rw [← sorted_eq ha hb hp (hs.imp (fun h => by simp at h; omega))]
  exact hp
/-- The links of all nodes are all links. -/
theorem frm_sum (ls : List Lk) : ∀ (n : Nat), ((List.range n).map fun (k : Nat) => (frm ls (k : Int)).length).sum = ((List.range ls.length).filter fun i => decide (0 ≤ (ls.getD i Lk0).a ∧ (ls.getD i Lk0).a < (n : Int))).length
  | 0 => by
    simp only [List.range_zero, List.map_nil, List.sum_nil]
    symm
    rw [List.length_eq_zero_iff, List.filter_eq_nil_iff]
    intro i _ h
    simp at h
    omega
  | n + 1 => by
    rw [List.range_succ, List.map_append, List.sum_append, frm_sum ls n]
    unfold frm
    simp only [List.map_cons, List.map_nil, List.sum_cons, List.sum_nil, Nat.add_zero]
    generalize List.range ls.length = r
    induction r with
    | nil => rfl
    | cons i r ih =>
      simp only [List.filter_cons]
      generalize (ls.getD i Lk0).a = x
      by_cases h1 : x = (n : Int)
      · rw [if_neg (by simp; omega), if_pos (by simp [h1]), if_pos (by simp; omega), List.length_cons, List.length_cons]
        omega
      · by_cases h2 : 0 ≤ x ∧ x < (n : Int)
        · rw [if_pos (by simpa using h2), if_neg (by simpa using h1), if_pos (by simp; omega), List.length_cons, List.length_cons]
          omega
        · rw [if_neg (by simpa using h2), if_neg (by simpa using h1), if_neg (by simp; omega)]
          exact ih
theorem out_sum {nodes : Nat} {ls : List Lk} (ha : Apart ls) (hr : ∀ l ∈ ls, 0 ≤ l.a ∧ l.a < nodes) (hb : ∀ l ∈ ls, 0 ≤ l.b ∧ l.b < nodes) : ((List.range nodes).map fun (k : Nat) => (outL nodes ls (k : Int)).length).sum = ls.length := by
  have h1 : ((List.range nodes).map fun (k : Nat) => (outL nodes ls (k : Int)).length) = (List.range nodes).map fun (k : Nat) => (frm ls (k : Int)).length := List.map_congr_left fun k _ => (outL_perm _ ha hb).length_eq
  rw [h1, frm_sum, List.filter_eq_self.2, List.length_range]
  intro i hi
  have hi' := List.mem_range.1 hi
  have := hr ls[i] (List.getElem_mem hi')
  simpa [List.getD, hi'] using this
end Go.Proofs.Ytfifmkjidljeeaa
