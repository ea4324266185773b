/- Arguments that are slices of slices of plain types, opened. Over any program. -/
import Derived.Test.YtnflgikmljfakaaOpen
namespace Go.Proofs.Ytnflgikmljfakaa
open Go.RowKit Go.ChangeShapes Go.WideShapes Go.Deep
set_option linter.unusedVariables false
/-- A slice of so many cells each: it reads as these, or is empty. -/
def RowEl {α : Type} (en : α → List Value) (k : Nat) (w : World) (v : Value) (xs : List α) : Prop := SAt en k w v xs ∨ ∃ A c, v = .slice A 0 c ∧ xs = []
section
variable {H : Type} {enc : TypeId × Value → H} {P : Program} {w : World} {base : Nat} {spare : Nat → Bool} {held : Bool}
theorem spot_none {a : Addr} {v : Value} (h : w.cell? a = some v) : a.spot = none := by
  unfold World.cell? at h
  split at h
  · cases hs : a.spot with
    | none => rfl
    | some s => simp [hs] at h
  · cases h
theorem flats_in {n fuel : Nat} {t e : TypeId} {ks : List CK} {v : Value} {x : DataW H × List MemPlace} (ht : P.underlying t = some (.slice e)) (hk : flatKinds P n e = some ks) (hc : P.cellsOf e = ks.length) (hk0 : 0 < ks.length)
    (h : DataW.trod enc P w base spare held fuel t [v] = some x) : ∃ xs : List (List Value), (∀ c ∈ xs, CKs ks c) ∧ RowEl (fun c => c) ks.length w v xs := by
  rcases open_slice ht h with ⟨h0, _⟩ | ⟨a, len, cap, m, n', D, Pl, h0, _, hl, hcm, hm, _, hi⟩
  · simp at h0
    subst h0
    exact ⟨[], by simp, .inl (Or.inl ⟨rfl, rfl⟩)⟩
  · simp at h0
    subst h0
    by_cases hl0 : len = 0
    · subst hl0
      exact ⟨[], by simp, .inr ⟨_, _, rfl, rfl⟩⟩
    have hlm : len ≤ m := by rw [hm]; split <;> omega
    have hs : a.spot = none := by
      obtain ⟨c, h1, h2⟩ := hi 0 (by omega)
      obtain ⟨_, hcl, hat⟩ := World.cells?_some h1
      have h3 := hat 0 (by omega)
      rw [Nat.zero_mul] at h3
      obtain ⟨u, hu⟩ : ∃ u, c[0]? = some u := ⟨_, List.getElem?_eq_getElem (by omega)⟩
      rw [hu] at h3
      have : (a.add 0).add 0 = a := by unfold Addr.add; simp
      rw [this] at h3
      exact spot_none h3
    obtain ⟨ab, ao, asp⟩ := a
    cases hs
    have hch : ∀ i, ∃ c : List Value, i < len → CKs ks c ∧ w.cells? base (Addr.add ⟨ab, ao, none⟩ (i * P.cellsOf e)) (P.cellsOf e) = some c := fun i => by
      by_cases hil : i < len
      · obtain ⟨c, h1, h2⟩ := hi i (by omega)
        exact ⟨c, fun _ => ⟨flat_trod n e ks hk _ _ _ h2, h1⟩⟩
      · exact ⟨[], fun h => absurd h hil⟩
    let f := fun i => Classical.choose (hch i)
    have hf : ∀ i, i < len → CKs ks (f i) ∧ w.cells? base (Addr.add ⟨ab, ao, none⟩ (i * P.cellsOf e)) (P.cellsOf e) = some (f i) := fun i => Classical.choose_spec (hch i)
    refine ⟨(List.range len).map f, fun c hcm => ?_, .inl (Or.inr ⟨ab, ao, cap, by simp, by simpa using hl, hcm, fun j x hj i u hu => ?_⟩)⟩
    · obtain ⟨i, hi1, rfl⟩ := List.mem_map.1 hcm
      exact (hf i (List.mem_range.1 hi1)).1
    · rw [List.getElem?_map] at hj
      obtain ⟨i', hi', rfl⟩ := Option.map_eq_some_iff.1 hj
      have hjl : j < len := by
        have := (List.getElem?_eq_some_iff.1 hi').1
        simpa using this
      rw [List.getElem?_range hjl] at hi'
      cases hi'
      obtain ⟨h1, h2⟩ := hf j hjl
      obtain ⟨_, hcl, hat⟩ := World.cells?_some h2
      have hlen := h1.length
      have hil : i < (f j).length := (List.getElem?_eq_some_iff.1 hu).1
      have h3 := hat i (by omega)
      rw [hu] at h3
      rw [← h3]
      congr 1
      rw [hc]
      unfold Addr.add
      by_cases e1 : j * ks.length = 0 <;> by_cases e2 : i = 0 <;> simp [e1, e2]
/-- A slice of slices of flats. -/
theorem open_rows {r : Reach} {b0 n : Nat} {t e f : TypeId} {ks : List CK} {v : Value} {d : DataW H} {p : List MemPlace} (ht : P.underlying t = some (.slice e)) (he : P.underlying e = some (.slice f)) (ce : P.cellsOf e = 1) (hk : flatKinds P n f = some ks) (hc : P.cellsOf f = ks.length) (hk0 : 0 < ks.length)
    (hv : Value.okWide P w r b0 t v) (h : DataW.Trod enc P w base spare held t v d p) : ∃ rows : List (Value × List (List Value)), (∀ q ∈ rows, (∀ c ∈ q.2, CKs ks c) ∧ RowEl (fun c => c) ks.length w q.1 q.2) ∧ SAt (fun q : Value × List (List Value) => [q.1]) 1 w v rows := by
  obtain ⟨A, len, cap, rfl⟩ := okWide_slice ht hv
  obtain ⟨fuel, h⟩ := h
  rcases open_slice1 ht ce h with ⟨h0, _⟩ | ⟨a, len', cap', m, n', V, D, Pl, h0, _, hl, hcm, hm, _, hi⟩
  · simp [Value.cells] at h0
    obtain ⟨rfl, rfl, rfl⟩ := h0
    exact ⟨[], by simp, Or.inl ⟨rfl, rfl⟩⟩
  · simp [Value.cells] at h0
    obtain ⟨rfl, rfl, rfl⟩ := h0
    have hs : a.spot = none := by
      simp only [Value.okWide, ht, Cell.okWide, Cell.ok] at hv
      exact hv.2.2.2.1
    obtain ⟨ab, ao, asp⟩ := a
    cases hs
    have hlm : len ≤ m := by rw [hm]; split <;> omega
    have hch : ∀ i, ∃ xs : List (List Value), i < len → (∀ c ∈ xs, CKs ks c) ∧ RowEl (fun c => c) ks.length w (V i) xs := fun i => by
      by_cases hil : i < len
      · obtain ⟨xs, h1, h2⟩ := flats_in he hk hc hk0 (hi i (by omega)).2
        exact ⟨xs, fun _ => ⟨h1, h2⟩⟩
      · exact ⟨[], fun h => absurd h hil⟩
    let g := fun i => Classical.choose (hch i)
    have hg : ∀ i, i < len → (∀ c ∈ g i, CKs ks c) ∧ RowEl (fun c => c) ks.length w (V i) (g i) := fun i => Classical.choose_spec (hch i)
    refine ⟨(List.range len).map fun i => (V i, g i), fun q hq => ?_, Or.inr ⟨ab, ao, cap, by simp, by simpa using hl, hcm, fun j x hj i u hu => ?_⟩⟩
    · obtain ⟨i, hi1, rfl⟩ := List.mem_map.1 hq
      exact hg i (List.mem_range.1 hi1)
    · rw [List.getElem?_map] at hj
      obtain ⟨i', hi', rfl⟩ := Option.map_eq_some_iff.1 hj
      have hjl : j < len := by
        have := (List.getElem?_eq_some_iff.1 hi').1
        simpa using this
      rw [List.getElem?_range hjl] at hi'
      cases hi'
      obtain rfl : i = 0 := by
        have := (List.getElem?_eq_some_iff.1 hu).1
        simp at this
        omega
      have h3 := (hi j (by omega)).1
      simp at hu
      subst hu
      rw [← h3]
      congr 1
      unfold Addr.add
      by_cases e1 : j = 0 <;> simp [e1]
end
theorem typed_rows {α : Type} {en : α → List Value} {p : α → Prop} {k : Nat} {w : World} {ks : List CK} : ∀ {rows : List (Value × List (List Value))}, (∀ q ∈ rows, (∀ c ∈ q.2, CKs ks c) ∧ RowEl (fun c => c) k w q.1 q.2) → (∀ c, CKs ks c → ∃ l, c = en l ∧ p l) →
    ∃ qs : List (Value × List α), rows.map (·.1) = qs.map (·.1) ∧ ∀ q ∈ qs, RowEl en k w q.1 q.2
  | [], _, _ => ⟨[], rfl, by simp⟩
  | (v, xs) :: rows, h, ht => by
    obtain ⟨qs, h1, h2⟩ := typed_rows (rows := rows) (fun q hq => h q (by simp [hq])) ht
    obtain ⟨h3, h4⟩ := h (v, xs) (by simp)
    obtain ⟨ls, rfl, -⟩ := typed_list (enc := en) (p := p) (fun c hc => ht c (h3 c hc))
    refine ⟨(v, ls) :: qs, by simp [h1], fun q hq => ?_⟩
    rcases List.mem_cons.1 hq with rfl | hq
    · rcases h4 with h4 | ⟨A, c, h5, h6⟩
      · exact .inl (SAt.typed h4)
      · exact .inr ⟨A, c, h5, by simpa using h6⟩
    · exact h2 q hq
theorem SAt.renamed {α β : Type} {w : World} {v : Value} {rows : List α} {qs : List β} {f : α → Value} {g : β → Value} (h : SAt (fun q => [f q]) 1 w v rows) (he : rows.map f = qs.map g) : SAt (fun q => [g q]) 1 w v qs := by
  have hl : rows.length = qs.length := by simpa using congrArg List.length he
  rcases h with ⟨h1, h2⟩ | ⟨b, o, c, h1, h2, h3, h4⟩
  · subst h2
    simp at hl
    exact Or.inl ⟨h1, List.eq_nil_of_length_eq_zero hl.symm⟩
  · refine Or.inr ⟨b, o, c, by rw [← hl]; exact h1, by omega, h3, fun j x hj i u hu => ?_⟩
    have hjl := (List.getElem?_eq_some_iff.1 hj).1
    obtain ⟨y, hy⟩ : ∃ y, rows[j]? = some y := ⟨_, List.getElem?_eq_getElem (by omega)⟩
    have he2 : (rows.map f)[j]? = (qs.map g)[j]? := by rw [he]
    rw [List.getElem?_map, List.getElem?_map, hy, hj] at he2
    simp at he2
    refine h4 j y hy i u ?_
    simpa [he2] using hu
end Go.Proofs.Ytnflgikmljfakaa
