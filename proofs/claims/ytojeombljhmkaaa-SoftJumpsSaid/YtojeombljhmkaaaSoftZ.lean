/- Soft: two tables side by side; how ticks go by (plain). -/
import Derived.Test.YtojeombljhmkaaaSoftT
namespace Go.Proofs.Ytojeombljhmkaaa
open Go.RowKit Go.Shelf Go.Sort
set_option linter.unusedVariables false
set_option linter.unusedSimpArgs false
attribute [local go_sem] Oper.semAt_some
/-- Two tables that share nothing, in blocks behind a place. -/
structure Two (B : Nat) (w : World) (pa ra : Nat) (na : Int) (La : List Th) (ea : List (Nat × Th)) (pb rb : Nat) (nb : Int) (Lb : List Th) (eb : List (Nat × Th)) : Prop where
  a : Tb w pa ra na La ea
  b : Tb w pb rb nb Lb eb
  dis : ∀ i, TSet pa ra ea i → ¬ TSet pb rb eb i
  loa : ∀ i, TSet pa ra ea i → B ≤ i
  lob : ∀ i, TSet pb rb eb i → B ≤ i
theorem Two.swap {B : Nat} {w : World} {pa ra : Nat} {na : Int} {La : List Th} {ea : List (Nat × Th)} {pb rb : Nat} {nb : Int} {Lb : List Th} {eb : List (Nat × Th)} (h : Two B w pa ra na La ea pb rb nb Lb eb) : Two B w pb rb nb Lb eb pa ra na La ea :=
  ⟨h.b, h.a, fun i hi k => h.dis i k hi, h.lob, h.loa⟩
theorem Two.below {B : Nat} {w W : World} {pa ra : Nat} {na : Int} {La : List Th} {ea : List (Nat × Th)} {pb rb : Nat} {nb : Int} {Lb : List Th} {eb : List (Nat × Th)} (h : Two B w pa ra na La ea pb rb nb Lb eb) (hb : Below w.heap.size w W) : Two B W pa ra na La ea pb rb nb Lb eb :=
  ⟨h.a.below hb, h.b.below hb, h.dis, h.loa, h.lob⟩
theorem Two.did {B : Nat} {w w' : World} {pa ra : Nat} {na na' : Int} {La La' : List Th} {ea : List (Nat × Th)} {pb rb : Nat} {nb : Int} {Lb : List Th} {eb : List (Nat × Th)} (h : Two B w pa ra na La ea pb rb nb Lb eb) (hd : Did pa ra ea w na' La' w') (hB : B ≤ w.heap.size) :
    ∃ ea', Two B w' pa ra na' La' ea' pb rb nb Lb eb ∧ Below B w w' := by
  obtain ⟨ea', ht, hg, hm⟩ := hd
  have hsub : ∀ i, TSet pa ra ea' i → TSet pa ra ea i ∨ w.heap.size ≤ i := by
    rintro i (hi | hi | hi)
    · exact .inl (.inl hi)
    · exact .inl (.inr (.inl hi))
    · obtain ⟨e, he, rfl⟩ := List.mem_map.1 hi
      rcases hg e he with k | k
      · exact .inl (.inr (.inr k))
      · exact .inr k
  refine ⟨ea', ⟨ht, h.b.mov hm fun i hi k => h.dis i k hi, fun i hi k => ?_, fun i hi => ?_, h.lob⟩, hm.below h.loa hB⟩
  · rcases hsub i hi with q | q
    · exact h.dis i q k
    · have := h.b.tab.lt i k; omega
  · rcases hsub i hi with q | q
    · exact h.loa i q
    · omega
/-- The same names, forgotten at the same ticks. -/
def NF (L1 L2 : List Th) : Prop := L1.map (fun x => (x.name, x.forgot)) = L2.map (fun x => (x.name, x.forgot))
theorem NF.len {L1 L2 : List Th} (h : NF L1 L2) : L1.length = L2.length := by have := congrArg List.length h; simpa using this
theorem NF.filter {n : Int} : ∀ {L1 L2 : List Th}, NF L1 L2 → NF (L1.filter fun x => !decide (x.forgot ≤ n)) (L2.filter fun x => !decide (x.forgot ≤ n))
  | [], [], _ => rfl
  | [], _ :: _, h => by simp [NF] at h
  | _ :: _, [], h => by simp [NF] at h
  | x :: L1, y :: L2, h => by
    unfold NF at h
    simp only [List.map_cons, List.cons.injEq, Prod.mk.injEq] at h
    have ih := NF.filter (n := n) (L1 := L1) (L2 := L2) h.2
    unfold NF at ih ⊢
    by_cases hx : x.forgot ≤ n
    · rw [List.filter_cons_of_neg (by simpa using hx), List.filter_cons_of_neg (by rw [← h.1.2]; simpa using hx)]
      exact ih
    · rw [List.filter_cons_of_pos (by simpa using hx), List.filter_cons_of_pos (by rw [← h.1.2]; simpa using hx)]
      simp only [List.map_cons, List.cons.injEq, Prod.mk.injEq]
      exact ⟨h.1, ih⟩
theorem nf_said (n : Int) (L : List Th) : NF (L.map (saidT n)) L := by
  unfold NF
  rw [List.map_map]
  refine List.map_congr_left fun x _ => ?_
  show ((saidT n x).name, (saidT n x).forgot) = _
  unfold saidT
  split <;> rfl
theorem NF.find {L1 L2 : List Th} (h : NF L1 L2) (s : ByteArray) : (findL L1 s).map (·.forgot) = (findL L2 s).map (·.forgot) := by
  unfold NF at h
  induction L1 generalizing L2 with
  | nil => cases L2 with
    | nil => rfl
    | cons y l => simp at h
  | cons x l ih => cases L2 with
    | nil => simp at h
    | cons y m =>
      simp only [List.map_cons, List.cons.injEq, Prod.mk.injEq] at h
      unfold findL
      by_cases hx : x.name = s
      · rw [List.find?_cons_of_pos (by simpa using hx), List.find?_cons_of_pos (by rw [← h.1.1]; simpa using hx)]
        simp [h.1.2]
      · rw [List.find?_cons_of_neg (by simpa using hx), List.find?_cons_of_neg (by rw [← h.1.1]; simpa using hx)]
        exact ih h.2
theorem NF.get {L1 L2 : List Th} (h : NF L1 L2) (s : ByteArray) : (getL L1 s).2 = (getL L2 s).2 ∧ (getL L1 s).1.forgot = (getL L2 s).1.forgot := by
  unfold getL
  by_cases hs : namedB s = true
  · rw [if_pos hs, if_pos hs]
    have := h.find s
    cases h1 : findL L1 s with
    | none =>
      rw [h1] at this
      cases h2 : findL L2 s with
      | none => exact ⟨rfl, rfl⟩
      | some y => rw [h2] at this; simp at this
    | some x =>
      rw [h1] at this
      cases h2 : findL L2 s with
      | none => rw [h2] at this; simp at this
      | some y => rw [h2] at this; simp at this; exact ⟨rfl, this⟩
  · rw [if_neg hs, if_neg hs]
    exact ⟨rfl, rfl⟩
/-- Behind so many ticks, one by one. -/
structure Ticked (L0 : List Th) (k : Int) (La : List Th) (g : Nat) : Prop where
  nf : NF La (L0.filter fun x => !decide (x.forgot ≤ k))
  sum : g + La.length = L0.length
theorem filter_sum (L : List Th) (q : Th → Bool) : (L.filter q).length + (L.filter fun x => !q x).length = L.length := by
  induction L with
  | nil => rfl
  | cons x l ih =>
    cases hq : q x with
    | true => rw [List.filter_cons_of_pos hq, List.filter_cons_of_neg (by simp [hq])]; simp; omega
    | false => rw [List.filter_cons_of_neg (by simp [hq]), List.filter_cons_of_pos (by simp [hq])]; simp; omega
theorem gone_len (n : Int) (L : List Th) : (goneL n L).length + (goTo n L).length = L.length := by
  unfold goneL goTo
  rw [List.length_mergeSort, List.length_map]
  exact filter_sum L fun x => decide (x.forgot ≤ n)
theorem Ticked.step {L0 La : List Th} {k n : Int} {g : Nat} (h : Ticked L0 k La g) (hn : k ≤ n) : Ticked L0 n (goTo n La) (g + (goneL n La).length) := by
  refine ⟨?_, ?_⟩
  · have h1 := NF.filter (n := n) h.nf
    rw [List.filter_filter] at h1
    have h2 : (L0.filter fun x => !decide (x.forgot ≤ n) && !decide (x.forgot ≤ k)) = L0.filter fun x => !decide (x.forgot ≤ n) := List.filter_congr fun x _ => by
      by_cases hx : x.forgot ≤ n
      · simp [hx]
      · have : ¬ x.forgot ≤ k := by omega
        simp [hx, this]
    rw [h2] at h1
    exact (nf_said n _).trans h1
  · have := gone_len n La
    have := h.sum
    omega
theorem ticked_zero {L0 : List Th} (h : ∀ x ∈ L0, 0 < x.forgot) : Ticked L0 0 L0 0 := by
  refine ⟨?_, by omega⟩
  have : (L0.filter fun x => !decide (x.forgot ≤ 0)) = L0 := List.filter_eq_self.2 fun x hx => by have := h x hx; simp; omega
  rw [this]
  rfl
theorem ticked_once {L0 La : List Th} {n : Int} {g : Nat} (h : Ticked L0 n La g) : (goneL n L0).length = g ∧ NF La (goTo n L0) ∧ (goTo n L0).length = La.length := by
  have h1 : NF La (goTo n L0) := h.nf.trans (nf_said n _).symm
  have h2 := gone_len n L0
  have h3 := h1.len
  have := h.sum
  exact ⟨by omega, h1, h3.symm⟩
theorem keep_pos {L : List Th} {s : ByteArray} {n : Int} (h : ∀ x ∈ L, 0 < x.forgot) : ∀ x ∈ (keepL 0 L s n).1, 0 < x.forgot := by
  unfold keepL
  by_cases hc : namedB s = true ∧ lifeI n ≠ 0
  · rw [if_pos hc]
    have hl : 5 < lifeI n := (life_pos (by have := mt life_zero.2 hc.2; omega)).1
    cases hf : findL L s with
    | none =>
      show ∀ x ∈ (if 256 ≤ L.length then _ else _ : List Th × Bool × Int).1, _
      split
      · exact h
      · intro x hx
        rcases withL_mem.1 hx with rfl | ⟨hx, -⟩
        · simp only; omega
        · exact h x hx
    | some y =>
      intro x hx
      rcases withL_mem.1 hx with rfl | ⟨hx, -⟩
      · simp only; omega
      · exact h x hx
  · rw [if_neg hc]
    exact h
theorem withL_len1 (L : List Th) (x : Th) : (withL L x).length ≤ L.length + 1 := by
  unfold withL
  rw [(insL_perm _ _).length_eq, List.length_cons]
  have := List.length_filter_le (fun y : Th => decide (y.name ≠ x.name)) L
  omega
theorem keep_len1 (L : List Th) (s : ByteArray) (n now : Int) : (keepL now L s n).1.length ≤ L.length + 1 := by
  unfold keepL
  by_cases hc : namedB s = true ∧ lifeI n ≠ 0
  · rw [if_pos hc]
    cases hf : findL L s with
    | none =>
      show (if 256 ≤ L.length then _ else _ : List Th × Bool × Int).1.length ≤ _
      split
      · exact Nat.le_succ _
      · exact withL_len1 _ _
    | some y => exact withL_len1 _ _
  · rw [if_neg hc]
    exact Nat.le_succ _
end Go.Proofs.Ytojeombljhmkaaa
