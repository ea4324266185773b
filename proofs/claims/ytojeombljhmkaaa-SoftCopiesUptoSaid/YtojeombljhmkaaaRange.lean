/- 'for k, v := range m', said with the list of what is still to come. Over any program. -/
import Derived.Test.YtojeombljhmkaaaMaps
namespace Go.Proofs.Ytojeombljhmkaaa
open Go.RowKit Go.MapKept
open Go.ChangeMaps (setBlock heap_setBlock_same heap_setBlock_other)
theorem perm_eraseIdx {α : Type} : ∀ (l : List α) (i : Nat) (x : α), l[i]? = some x → l.Perm (x :: l.eraseIdx i)
  | [], _, _, h => by simp at h
  | y :: l, 0, x, h => by
    simp at h
    subst h
    exact List.Perm.refl _
  | y :: l, i + 1, x, h => by
    simp at h
    rw [List.eraseIdx_cons_succ]
    exact ((perm_eraseIdx l i x h).cons y).trans (List.Perm.swap x y _)
section
variable {P : Program} {κ : Type} {enc : κ → Value}

/-- Block m is a map that holds l, block r an iterator over it, left what is still to come. -/
def RangeAt (enc : κ → Value) (w : World) (m r : Nat) (l left : List (κ × Value)) : Prop :=
  ∃ es clock since seen c0, w.heap[m]? = some (.map es clock) ∧ es.toList.map (fun e => (e.key, e.val)) = l.map (fun p => (enc p.1, p.2)) ∧ (∀ x ∈ es.toList, x.born < clock) ∧ (es.toList.map (·.born)).Nodup ∧ (l.map (·.1)).Nodup ∧
    w.heap[r]? = some (.mapIter (some m) since seen c0) ∧ (∀ x ∈ es.toList, x.born < since) ∧ since ≤ c0 ∧ since ≤ clock ∧
    (es.toList.filter fun e => !seen.contains e.born).map (fun e => (e.key, e.val)) = left.map (fun p => (enc p.1, p.2))

theorem RangeAt.step {w w1 : World} {m r : Nat} {l left : List (κ × Value)} (h : RangeAt enc w m r l left) (e1 : w1.heap[m]? = w.heap[m]?) (e2 : w1.heap[r]? = w.heap[r]?) : RangeAt enc w1 m r l left := by
  obtain ⟨es, cl, si, se, c0, h1, h2, h3, h4, h5, h6, rest⟩ := h
  exact ⟨es, cl, si, se, c0, e1.trans h1, h2, h3, h4, h5, e2.trans h6, rest⟩
theorem RangeAt.lt {w : World} {m r : Nat} {l left : List (κ × Value)} (h : RangeAt enc w m r l left) : m < w.heap.size ∧ r < w.heap.size := by
  obtain ⟨es, cl, si, se, c0, h1, h2, h3, h4, h5, h6, rest⟩ := h
  exact ⟨(Array.getElem?_eq_some_iff.1 h1).1, (Array.getElem?_eq_some_iff.1 h6).1⟩
theorem RangeAt.below {w w1 : World} {m r : Nat} {l left : List (κ × Value)} (h : RangeAt enc w m r l left) (hb : Below w.heap.size w w1) : RangeAt enc w1 m r l left := h.step (hb.block m h.lt.1) (hb.block r h.lt.2)
theorem RangeAt.map {w : World} {m r : Nat} {l left : List (κ × Value)} (h : RangeAt enc w m r l left) : MapOf enc w m l := by
  obtain ⟨es, cl, si, se, c0, h1, h2, h3, h4, h5, h6, rest⟩ := h
  exact ⟨es, cl, h1, h2, h3, h4, h5⟩

/-- 'range m'. -/
theorem run_range {t k e : TypeId} (ht : P.underlying t = some (.map k e)) {w : World} {m : Nat} {l : List (κ × Value)} (h : MapOf enc w m l) :
    ∃ o, (Instr.range t (.map (some m))).run P w = .ok (.pointer (some ⟨w.heap.size, 0, none⟩)) (w.alloc o) ∧ RangeAt enc (w.alloc o) m w.heap.size l l := by
  have hlt := h.lt
  obtain ⟨es, clock, hb, hl, hs1, hs2, hn⟩ := h
  refine ⟨_, run_range_map w t k e m es clock ht hb, es, clock, clock, #[], clock, ?_, hl, hs1, hs2, hn, (heap_alloc w _).1, hs1, Nat.le_refl _, Nat.le_refl _, ?_⟩
  · exact ((heap_alloc w _).2 m hlt).trans hb
  · rw [List.filter_eq_self.2 (by simp)]; exact hl

/-- The step: nothing is left; or one of what is left comes out. -/
theorem run_next {w : World} {m r : Nat} {l left : List (κ × Value)} (h : RangeAt enc w m r l left) :
    (left = [] ∧ ∀ ty, (Instr.next (.pointer (some ⟨r, 0, none⟩)) false ty).run P w = .ok (.tuple #[.bool false]) w) ∨
    ∃ (k : κ) (v : Value) (i : Nat) (w' : World), left[i]? = some (k, v) ∧ (∀ ty, (Instr.next (.pointer (some ⟨r, 0, none⟩)) false ty).run P w = .ok (.tuple #[.bool true, enc k, v]) w') ∧
      RangeAt enc w' m r l (left.eraseIdx i) ∧ (Instr.entry (.pointer (some ⟨r, 0, none⟩))).run P w' = .ok (.tuple #[enc k, v]) w' ∧ w.grownBy w' (some r) ∧ w'.heap.size = w.heap.size := by
  obtain ⟨es, clock, since, seen, c0, h1, h2, h3, h4, h5, h6, h7, h8, h9, h10⟩ := h
  have hmr : m ≠ r := fun e => by rw [e, h6] at h1; cases h1
  have hlo : (leftOf es seen).toList = es.toList.filter fun e => !seen.contains e.born := by simp [leftOf]
  rcases run_next_at (P := P) w 0 r m since c0 seen es clock h6 h1 h7 h8 with ⟨h0, hrun⟩ | ⟨e, he, w1, hal, hrun⟩
  · left
    have : es.toList.filter (fun e => !seen.contains e.born) = [] := by
      rw [← hlo]; exact List.eq_nil_of_length_eq_zero (by simpa using h0)
    rw [this] at h10
    refine ⟨by cases left with | nil => rfl | cons a b => simp at h10, fun ty => hrun⟩
  · right
    rw [hlo] at he
    obtain ⟨hem, hes⟩ := List.mem_filter.1 he
    -- the place of e among what is left
    obtain ⟨i, hi⟩ := List.getElem?_of_mem he
    have hle : ∃ p, left[i]? = some p ∧ e.key = enc p.1 ∧ e.val = p.2 := by
      have h11 := congrArg (fun x => x[i]?) h10
      simp only [List.getElem?_map, hi, Option.map_some] at h11
      cases hl : left[i]? with
      | none => rw [hl] at h11; simp at h11
      | some p => rw [hl] at h11; simp at h11; exact ⟨p, rfl, h11.1, h11.2⟩
    obtain ⟨⟨k, v⟩, hp, hk, hv⟩ := hle
    simp only at hk hv
    have hr1 : w1.heap[r]? = some (.mapIter (some m) since seen c0) := by rcases hal with rfl | rfl <;> exact h6
    have hm1 : w1.heap[m]? = some (.map es clock) := by rcases hal with rfl | rfl <;> exact h1
    have hset := heap_set (o' := .mapIter (some m) since (seen.push e.born) clock) hr1
    have hm' : (setBlock w1 r (.mapIter (some m) since (seen.push e.born) clock)).heap[m]? = some (.map es clock) := (hset.2 m hmr).trans hm1
    have hnf : ((es.toList.filter fun e => !seen.contains e.born).map (·.born)).Nodup := h4.sublist ((List.filter_sublist).map _)
    have hfilt : (es.toList.filter fun x => !(seen.push e.born).contains x.born) = (es.toList.filter fun e => !seen.contains e.born).eraseIdx i := by
      have e1 : (es.toList.filter fun x => !(seen.push e.born).contains x.born) = (es.toList.filter fun e => !seen.contains e.born).filter fun x => x.born ≠ e.born := by
        rw [List.filter_filter]
        apply List.filter_congr
        intro x _
        rw [Array.contains_push]
        cases seen.contains x.born <;> cases hxe : (x.born == e.born) <;> simp_all
      rw [e1]
      have gen : ∀ (L : List MapEntry) (i : Nat), (L.map (·.born)).Nodup → L[i]? = some e → (L.filter fun x => decide (x.born ≠ e.born)) = L.eraseIdx i := by
        intro L
        induction L with
        | nil => intro i _ h; simp at h
        | cons a L ih =>
          intro i hn hj
          simp only [List.map_cons, List.nodup_cons] at hn
          cases i with
          | zero =>
            simp at hj
            subst hj
            simp only [List.eraseIdx_zero, List.tail_cons]
            rw [List.filter_cons_of_neg (by simp)]
            exact List.filter_eq_self.2 fun q hq => by simpa using fun (h : q.born = a.born) => hn.1 (h ▸ List.mem_map.2 ⟨q, hq, rfl⟩)
          | succ j =>
            simp at hj
            have : a.born ≠ e.born := fun h => hn.1 (h ▸ List.mem_map.2 ⟨e, List.mem_of_getElem? hj, rfl⟩)
            rw [List.filter_cons_of_pos (by simpa using this), List.eraseIdx_cons_succ, ih j hn.2 hj]
      exact gen _ i hnf hi
    refine ⟨k, v, i, _, hp, fun ty => ?_, ⟨es, clock, since, seen.push e.born, clock, hm', h2, h3, h4, h5, hset.1, h7, h9, h9, ?_⟩, ?_, ?_, ?_⟩
    · rw [← hk, ← hv]; exact hrun
    · rw [hfilt, ChangeMaps.map_eraseIdx, ChangeMaps.map_eraseIdx, h10]
    · rw [← hk, ← hv]
      exact run_entry_at _ r m since seen es clock e hset.1 hm' hem h4
    · rcases hal with rfl | rfl <;> exact ⟨rfl, rfl, rfl, by simp [setBlock], fun i _ hi => hset.2 i (fun e1 => hi (by rw [e1]))⟩
    · rcases hal with rfl | rfl <;> simp [setBlock]
end
end Go.Proofs.Ytojeombljhmkaaa
