/- Curve, plain: what the document's loop over sums tells, and what Sum does. -/
import Derived.Test.YtmkjiflliejjjaaCurAH
namespace Go.Proofs.Ytmkjiflliejjjaa
open Go.RowKit
set_option linter.unusedVariables false
/-- The sum so far, and why there is none. -/
def refAt (c : List Ln) (qs : List Cv) : Nat → List Ln × Int
  | 0 => (c, 0)
  | k + 1 => match qs[k]? with
    | none => refAt c qs k
    | some p => if (refAt c qs k).2 = 0 then (if madeB (sumsL (refAt c qs k).1 p.2) = true then (lowL (sumsL (refAt c qs k).1 p.2), 0) else ([], 3)) else refAt c qs k
theorem refAt_ok {c : List Ln} {qs : List Cv} : ∀ {k : Nat}, k ≤ qs.length → (refAt c qs k).2 = 0 → refAt c qs k = (sumAt c qs k, 0) ∧ ∀ j p, j < k → qs[j]? = some p → madeB (sumsL (sumAt c qs j) p.2) = true
  | 0, _, _ => ⟨by rw [sumAt_zero]; rfl, fun j p hj => by omega⟩
  | k + 1, hk, h => by
    obtain ⟨p, hp⟩ : ∃ p, qs[k]? = some p := ⟨_, List.getElem?_eq_getElem (by omega)⟩
    have h0 : (refAt c qs k).2 = 0 := by
      refine Decidable.byContradiction fun hne => ?_
      simp only [refAt, hp, hne, if_false] at h
    obtain ⟨h1, h2⟩ := refAt_ok (k := k) (by omega) h0
    by_cases hm : madeB (sumsL (sumAt c qs k) p.2) = true
    · refine ⟨?_, fun j q hj hq => ?_⟩
      · rw [sumAt_succ hp]
        simp only [refAt, hp, h1, if_true, hm]
      · by_cases e : j = k
        · subst e; rw [hp] at hq; cases hq; exact hm
        · exact h2 j q (by omega) hq
    · simp only [refAt, hp, h1, if_true, hm] at h
      simp at h
theorem refAt_bad {c : List Ln} {qs : List Cv} : ∀ {k : Nat}, k ≤ qs.length → (refAt c qs k).2 ≠ 0 → refAt c qs k = ([], 3) ∧ ∃ j p, j < k ∧ qs[j]? = some p ∧ madeB (sumsL (sumAt c qs j) p.2) = false
  | 0, _, h => absurd rfl h
  | k + 1, hk, h => by
    obtain ⟨p, hp⟩ : ∃ p, qs[k]? = some p := ⟨_, List.getElem?_eq_getElem (by omega)⟩
    by_cases h0 : (refAt c qs k).2 = 0
    · obtain ⟨h1, h2⟩ := refAt_ok (k := k) (by omega) h0
      by_cases hm : madeB (sumsL (sumAt c qs k) p.2) = true
      · simp only [refAt, hp, h1, if_true, hm] at h
        exact absurd rfl h
      · refine ⟨by simp only [refAt, hp, h1, if_true, hm]; simp, k, p, by omega, hp, by simpa using hm⟩
    · obtain ⟨h1, j, q, hj, hq, hm⟩ := refAt_bad (k := k) (by omega) h0
      refine ⟨?_, j, q, by omega, hq, hm⟩
      simp only [refAt, hp, h0, if_false]
      exact h1
theorem refAt_stays {c : List Ln} {qs : List Cv} {k : Nat} (h : (refAt c qs k).2 ≠ 0) : ∀ j, refAt c qs (k + j) = refAt c qs k
  | 0 => rfl
  | j + 1 => by
    have ih := refAt_stays h j
    rw [← Nat.add_assoc]
    cases hq : qs[k + j]? with
    | none => simp only [refAt, hq]; exact ih
    | some p => simp only [refAt, hq, ih, h, if_false]
theorem low_idem (xs : List Ln) : lowL (lowL xs) = lowL xs := (low_one (lowL_norm _) (fun x hx => hx) (dom_self _)).symm
theorem made_idem (xs : List Ln) : madeB (lowL xs) = madeB xs := by unfold madeB; rw [low_idem]
theorem low_norm_self {c : List Ln} (h : NormI c) : lowL c = c := (low_one h (fun x hx => hx) (dom_self _)).symm
/-- What Sum tells is what the document's loop tells. -/
theorem sum_is {c : List Ln} {qs : List Cv} {w : World} {e : Ending} {w' : World} (hc : okC c = true) (hq : ∀ p ∈ qs, okC p.2 = true) (h : SumPost c qs w e w') :
    ∃ v', e = .returned (.tuple #[v', .int .i64 (refAt c qs qs.length).2]) ∧ SAt Ln.cells 2 w' v' (refAt c qs qs.length).1 ∧ Below w.heap.size w w' := by
  have hcn := norm_idx.1 (okC_may hc).2.2.2
  have hne : ∀ p ∈ qs, p.2 ≠ [] := fun p hp => (okC_may (hq p hp)).1
  by_cases h0 : (refAt c qs qs.length).2 = 0
  · obtain ⟨h1, h2⟩ := refAt_ok (Nat.le_refl _) h0
    rw [h1]
    rcases h with ⟨k, hk, hf, -, -⟩ | ⟨-, hm⟩
    · obtain ⟨p, hp⟩ : ∃ p, qs[k]? = some p := ⟨_, List.getElem?_eq_getElem hk⟩
      have := h2 k p hk hp
      rw [sumAt_succ hp] at hf
      unfold madeB at this
      rw [hf] at this
      simp at this
    · have hidem : lowL (sumAt c qs qs.length) = sumAt c qs qs.length := low_norm_self (sumAt_norm hcn _)
      obtain ⟨⟨-, v', he, hs⟩ | ⟨hmb, -⟩, hb⟩ := hm
      · rw [hidem] at hs
        exact ⟨v', he, hs, hb⟩
      · exfalso
        cases hl : qs.length with
        | zero =>
          rw [hl, sumAt_zero] at hmb
          have := okC_may hc
          unfold madeB at hmb
          rw [low_norm_self hcn, eachB_iff.2 ⟨this.1, this.2.1⟩] at hmb
          simp at hmb
          omega
        | succ k =>
          obtain ⟨p, hp⟩ : ∃ p, qs[k]? = some p := ⟨_, List.getElem?_eq_getElem (by omega)⟩
          have := h2 k p (by omega) hp
          rw [hl, sumAt_succ hp, made_idem, this] at hmb
          cases hmb
  · obtain ⟨h1, j, p, hj, hp, hm⟩ := refAt_bad (Nat.le_refl _) h0
    rw [h1]
    rcases h with ⟨k, hk, hf, he, hb⟩ | ⟨hall, hmi⟩
    · exact ⟨_, he, SAt.nil, hb⟩
    · have he := hall j hj
      rw [sumAt_succ hp] at he
      have hlong : ¬ (lowL (sumsL (sumAt c qs j) p.2)).length ≤ 32 := fun hh => by
        unfold madeB at hm
        rw [he] at hm
        simp at hm
        omega
      have hlen := sumAt_len (qs := qs) hcn hne (qs.length - (j + 1)) (j + 1)
      rw [show j + 1 + (qs.length - (j + 1)) = qs.length by omega, sumAt_succ hp] at hlen
      obtain ⟨⟨hmb, -⟩ | ⟨-, he⟩, hb⟩ := hmi
      · exfalso
        unfold madeB at hmb
        rw [low_norm_self (sumAt_norm hcn _)] at hmb
        simp only [Bool.and_eq_true, decide_eq_true_eq] at hmb
        omega
      · exact ⟨_, he, SAt.nil, hb⟩
/-- How high curves are, all together. -/
def hiAt (ps : List Cv) (n d : Int) : Nat → Int
  | 0 => 0
  | k + 1 => hiAt ps n d k + htC ((ps[k]?.map (·.2)).getD []) n d
theorem hiAt_succ {ps : List Cv} {n d : Int} {k : Nat} {p : Cv} (h : ps[k]? = some p) : hiAt ps n d (k + 1) = hiAt ps n d k + htC p.2 n d := by
  simp [hiAt, h]
theorem hi_sum {c : List Ln} {qs : List Cv} {v : Value} (hc : c ≠ []) (hq : ∀ p ∈ qs, p.2 ≠ []) {n d : Int} (h0 : 0 ≤ n) (hd : 0 < d) : ∀ k, k ≤ qs.length → (sumAt c qs k ≠ [] ∧ htC (sumAt c qs k) n d = hiAt ((v, c) :: qs) n d (k + 1))
  | 0, _ => by
    rw [sumAt_zero]
    exact ⟨hc, by rw [hiAt_succ (p := (v, c)) rfl]; simp [hiAt]⟩
  | k + 1, hk => by
    obtain ⟨p, hp⟩ : ∃ p, qs[k]? = some p := ⟨_, List.getElem?_eq_getElem (by omega)⟩
    obtain ⟨h1, h2⟩ := hi_sum hc hq h0 hd k (by omega)
    have hpn := hq p (List.mem_of_getElem? hp)
    rw [sumAt_succ hp, hiAt_succ (p := p) (by simpa using hp), ← h2]
    exact ⟨lowL_ne (sums_ne h1 hpn), by rw [low_env (sums_ne h1 hpn) h0 hd, htC_sums h1 hpn]⟩
end Go.Proofs.Ytmkjiflliejjjaa
