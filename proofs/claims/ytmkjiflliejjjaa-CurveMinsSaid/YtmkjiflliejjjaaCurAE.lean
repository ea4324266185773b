/- Curve, plain: a sum has as many lines as each of the two. -/
import Derived.Test.YtmkjiflliejjjaaCurAC
namespace Go.Proofs.Ytmkjiflliejjjaa
set_option linter.unusedVariables false
/-- Each line of a normal list is the only least one somewhere. -/
theorem only_least {c : List Ln} (h : NormI c) {x : Ln} (hx : x ∈ c) : ∃ n d : Int, 0 ≤ n ∧ 0 < d ∧ ∀ z ∈ c, z ≠ x → ht x n d < ht z n d := by
  obtain ⟨i, hi⟩ := List.getElem?_of_mem hx
  obtain ⟨n, d, m, e, h1, h2, h3, h4, h5, h6, h7⟩ := two_places h hi
  refine ⟨n + m, d + e, by omega, by omega, fun z hz hne => ?_⟩
  have g1 := h6 z hz
  have g2 := h7 z hz
  have s1 : ht z (n + m) (d + e) = ht z n d + ht z m e := by unfold ht; rw [Int.mul_add, Int.mul_add]; omega
  have s2 : ht x (n + m) (d + e) = ht x n d + ht x m e := by unfold ht; rw [Int.mul_add, Int.mul_add]; omega
  rw [s1, s2]
  refine Int.not_le.1 fun hle => hne ?_
  exact same_line h5 (by omega) (by omega)
theorem length_le_of_inj {α β : Type} [DecidableEq β] : ∀ {l : List α} {m : List β} (f : α → β), l.Nodup → (∀ x ∈ l, f x ∈ m) → (∀ x ∈ l, ∀ y ∈ l, f x = f y → x = y) → l.length ≤ m.length
  | [], _, _, _, _, _ => by simp
  | x :: l, m, f, hn, hm, hi => by
    rw [List.nodup_cons] at hn
    have hx := hm x (by simp)
    have ih := length_le_of_inj (l := l) (m := m.erase (f x)) f hn.2 (fun y hy => by
      have hne : f y ≠ f x := fun e => hn.1 (by rw [← hi y (by simp [hy]) x (by simp) e]; exact hy)
      exact (List.mem_erase_of_ne hne).2 (hm y (by simp [hy]))) (fun a ha b hb => hi a (by simp [ha]) b (by simp [hb]))
    rw [List.length_erase_of_mem hx] at ih
    have := List.length_pos_of_mem hx
    simp
    omega
theorem norm_nodup {c : List Ln} (h : NormI c) : c.Nodup := (norm_sorted h).imp fun hlt e => by subst e; omega
theorem len_mono {a b : List Ln} (ha : NormI a) (hb : b ≠ []) : a.length ≤ (lowL (sumsL a b)).length := by
  by_cases hae : a = []
  · simp [hae]
  have hch : ∀ x : Ln, ∃ u : Ln, x ∈ a → u ∈ lowL (sumsL a b) ∧ ∃ n d : Int, 0 ≤ n ∧ 0 < d ∧ (∀ z ∈ a, z ≠ x → ht x n d < ht z n d) ∧ ht u n d = ht x n d + htC b n d := fun x => by
    by_cases hx : x ∈ a
    · obtain ⟨n, d, h0, hd, hlt⟩ := only_least ha hx
      obtain ⟨y, hy, hye⟩ := htC_mem hb n d
      obtain ⟨u, hu, hle⟩ := low_dom (lowL_is (sumsL a b)) _ (sums_mem.2 ⟨x, hx, y, hy, rfl⟩) n d h0 hd
      refine ⟨u, fun _ => ⟨hu, n, d, h0, hd, hlt, ?_⟩⟩
      rw [ht_sum] at hle
      obtain ⟨x', hx', y', hy', e⟩ := sums_mem.1 (low_mem (lowL_is _) u hu)
      rw [e, ht_sum] at hle ⊢
      have h2 := htC_le (n := n) (d := d) hy'
      have h1 : ht x n d ≤ ht x' n d := by
        by_cases e' : x' = x
        · rw [e']; exact Int.le_refl _
        · exact Int.le_of_lt (hlt x' hx' e')
      omega
    · exact ⟨Ln0, fun h => absurd h hx⟩
  let f := fun x => Classical.choose (hch x)
  have hf : ∀ x, x ∈ a → f x ∈ lowL (sumsL a b) ∧ ∃ n d : Int, 0 ≤ n ∧ 0 < d ∧ (∀ z ∈ a, z ≠ x → ht x n d < ht z n d) ∧ ht (f x) n d = ht x n d + htC b n d := fun x hx => Classical.choose_spec (hch x) hx
  refine length_le_of_inj f (norm_nodup ha) (fun x hx => (hf x hx).1) (fun x hx y hy e => ?_)
  obtain ⟨hu, n, d, h0, hd, hlt, he⟩ := hf x hx
  obtain ⟨hu2, n2, d2, h02, hd2, hlt2, he2⟩ := hf y hy
  rw [← e] at he2
  -- f x is a sum of a line of a and one of b: at each of both places that line is the only least one
  obtain ⟨x', hx', y', hy', ef⟩ := sums_mem.1 (low_mem (lowL_is _) (f x) hu)
  rw [ef, ht_sum] at he he2
  have b1 := htC_le (n := n) (d := d) hy'
  have b2 := htC_le (n := n2) (d := d2) hy'
  have e1 : x' = x := by
    refine Decidable.byContradiction fun hne => ?_
    have := hlt x' hx' hne
    omega
  have e2 : x' = y := by
    refine Decidable.byContradiction fun hne => ?_
    have := hlt2 x' hx' hne
    omega
  rw [← e1, e2]
theorem sumAt_norm {c : List Ln} {qs : List Cv} (hc : NormI c) : ∀ k, NormI (sumAt c qs k)
  | 0 => by rw [sumAt_zero]; exact hc
  | k + 1 => by
    cases hk : qs[k]? with
    | none =>
      have : sumAt c qs (k + 1) = sumAt c qs k := by
        have hl := List.getElem?_eq_none_iff.1 hk
        unfold sumAt
        rw [List.take_of_length_le (by omega), List.take_of_length_le (by omega)]
      rw [this]
      exact sumAt_norm hc k
    | some p => rw [sumAt_succ hk]; exact lowL_norm _
theorem sumAt_len {c : List Ln} {qs : List Cv} (hc : NormI c) (hq : ∀ p ∈ qs, p.2 ≠ []) : ∀ j k, (sumAt c qs k).length ≤ (sumAt c qs (k + j)).length
  | 0, k => Nat.le_refl _
  | j + 1, k => by
    refine Nat.le_trans (sumAt_len hc hq j k) ?_
    cases hk : qs[k + j]? with
    | none =>
      have : sumAt c qs (k + (j + 1)) = sumAt c qs (k + j) := by
        have hl := List.getElem?_eq_none_iff.1 hk
        unfold sumAt
        rw [List.take_of_length_le (by omega), List.take_of_length_le (by omega)]
      rw [this]
      exact Nat.le_refl _
    | some p =>
      rw [show k + (j + 1) = k + j + 1 by omega, sumAt_succ hk]
      exact len_mono (sumAt_norm hc _) (hq p (List.mem_of_getElem? hk))
theorem sumAt_small {c : List Ln} {qs : List Cv} (hc : c.length ≤ 8) (hq : ∀ p ∈ qs, p.2.length ≤ 8) : ∀ k, (sumAt c qs k).length ≤ 8 ^ (k + 1)
  | 0 => by rw [sumAt_zero]; simpa using hc
  | k + 1 => by
    cases hk : qs[k]? with
    | none =>
      have : sumAt c qs (k + 1) = sumAt c qs k := by
        have hl := List.getElem?_eq_none_iff.1 hk
        unfold sumAt
        rw [List.take_of_length_le (by omega), List.take_of_length_le (by omega)]
      rw [this]
      exact Nat.le_trans (sumAt_small hc hq k) (Nat.pow_le_pow_right (by omega) (by omega))
    | some p =>
      rw [sumAt_succ hk]
      refine Nat.le_trans (low_len (lowL_is _)) ?_
      rw [sums_len, Nat.pow_succ]
      exact Nat.mul_le_mul (sumAt_small hc hq k) (hq p (List.mem_of_getElem? hk))
end Go.Proofs.Ytmkjiflliejjjaa
