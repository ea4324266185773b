/- Curve, plain: normal lines by their places; what Later leaves; how high lines are. -/
import Derived.Test.YtmkjiflliejjjaaCurM
import Derived.Test.YtmkjiflliejjjaaCurN
namespace Go.Proofs.Ytmkjiflliejjjaa
set_option linter.unusedVariables false
theorem adj_norm : ∀ {s : List Ln}, (∀ (i : Nat) (y x : Ln), s[i]? = some y → s[i + 1]? = some x → x.b < y.b ∧ y.r < x.r) →
    (∀ (i : Nat) (z y x : Ln), s[i]? = some z → s[i + 1]? = some y → s[i + 2]? = some x → needB x y z = false) → NormR s
  | [], _, _ => trivial
  | [_], _, _ => trivial
  | [c, b], h, _ => h 0 c b rfl rfl
  | c :: b :: a :: t, h, k => ⟨h 0 c b rfl rfl, k 0 c b a rfl rfl rfl, adj_norm (s := b :: a :: t) (fun i y x hy hx => h (i + 1) y x (by simpa using hy) (by simpa using hx)) (fun i z y x hz hy hx => k (i + 1) z y x (by simpa using hz) (by simpa using hy) (by simpa using hx))⟩
theorem norm_adj : ∀ {s : List Ln}, NormR s → ∀ (i : Nat) (y x : Ln), s[i]? = some y → s[i + 1]? = some x → x.b < y.b ∧ y.r < x.r
  | [], _, i, y, x, hy, _ => by simp at hy
  | [_], _, i, y, x, _, hx => by simp at hx
  | c :: b :: t, h, 0, y, x, hy, hx => by
    simp at hy hx
    subst hy hx
    exact h.head
  | c :: b :: t, h, i + 1, y, x, hy, hx => norm_adj h.tail i y x (by simpa using hy) (by simpa using hx)
theorem norm_tri : ∀ {s : List Ln}, NormR s → ∀ (i : Nat) (z y x : Ln), s[i]? = some z → s[i + 1]? = some y → s[i + 2]? = some x → needB x y z = false
  | [], _, i, z, y, x, hz, _, _ => by simp at hz
  | [_], _, i, z, y, x, _, hy, _ => by simp at hy
  | [_, _], _, i, z, y, x, _, _, hx => by simp at hx
  | c :: b :: a :: t, h, 0, z, y, x, hz, hy, hx => by
    simp at hz hy hx
    subst hz hy hx
    exact h.2.1
  | c :: b :: a :: t, h, i + 1, z, y, x, hz, hy, hx => norm_tri h.tail i z y x (by simpa using hz) (by simpa using hy) (by simpa using hx)
theorem rev_at {c : List Ln} {i : Nat} {x : Ln} (h : c.reverse[i]? = some x) : i < c.length ∧ c[c.length - 1 - i]? = some x := by
  have hi : i < c.length := by
    have := (List.getElem?_eq_some_iff.1 h).1
    simpa using this
  rw [List.getElem?_reverse hi] at h
  exact ⟨hi, h⟩
theorem at_rev {c : List Ln} {i : Nat} {x : Ln} (h : c[i]? = some x) : c.reverse[c.length - 1 - i]? = some x := by
  have hi : i < c.length := (List.getElem?_eq_some_iff.1 h).1
  rw [List.getElem?_reverse (by omega), ← h]
  congr 1
  omega
/-- By rising bursts and falling rates, each needed, by places. -/
structure NormI (c : List Ln) : Prop where
  adj : ∀ (i : Nat) (x y : Ln), c[i]? = some x → c[i + 1]? = some y → x.b < y.b ∧ y.r < x.r
  tri : ∀ (i : Nat) (x y z : Ln), c[i]? = some x → c[i + 1]? = some y → c[i + 2]? = some z → needB x y z = false
theorem norm_idx {c : List Ln} : NormR c.reverse ↔ NormI c := by
  constructor
  · intro h
    refine ⟨fun i x y hx hy => ?_, fun i x y z hx hy hz => ?_⟩
    · have h1 := (List.getElem?_eq_some_iff.1 hy).1
      have h2 := at_rev hx
      have h3 := at_rev hy
      refine norm_adj h _ y x h3 ?_
      rw [← h2]
      congr 1
      omega
    · have h1 := (List.getElem?_eq_some_iff.1 hz).1
      have h2 := at_rev hx
      have h3 := at_rev hy
      have h4 := at_rev hz
      refine norm_tri h _ z y x h4 ?_ ?_
      · rw [← h3]
        congr 1
        omega
      · rw [← h2]
        congr 1
        omega
  · intro h
    refine adj_norm (fun i y x hy hx => ?_) (fun i z y x hz hy hx => ?_)
    · obtain ⟨h1, h2⟩ := rev_at hy
      obtain ⟨h3, h4⟩ := rev_at hx
      refine h.adj _ x y h4 ?_
      rw [← h2]
      congr 1
      omega
    · obtain ⟨h1, h2⟩ := rev_at hz
      obtain ⟨h3, h4⟩ := rev_at hy
      obtain ⟨h5, h6⟩ := rev_at hx
      refine h.tri _ x y z h6 ?_ ?_
      · rw [← h4]
        congr 1
        omega
      · rw [← h2]
        congr 1
        omega
/-- Where one line is below the next one, that one is below the one behind it. -/
theorem convex {x y z : Ln} {n d : Int} (h1 : x.b < y.b ∧ y.r < x.r) (h2 : y.b < z.b ∧ z.r < y.r) (hn : needB x y z = false) (h0 : 0 ≤ n) (hd : 0 < d) (h : ht x n d < ht y n d) : ht y n d < ht z n d := by
  unfold needB at hn
  unfold ht at *
  simp only [decide_eq_false_iff_not, Int.not_le] at hn
  obtain ⟨p, hp⟩ : ∃ p, p = y.b - x.b := ⟨_, rfl⟩
  obtain ⟨q, hq⟩ : ∃ q, q = z.b - y.b := ⟨_, rfl⟩
  obtain ⟨u, hu⟩ : ∃ u, u = x.r - y.r := ⟨_, rfl⟩
  obtain ⟨v, hv⟩ : ∃ v, v = y.r - z.r := ⟨_, rfl⟩
  have e1 : z.b - x.b = p + q := by omega
  have e2 : x.r - z.r = u + v := by omega
  rw [e1, e2, ← hp, ← hu, Int.add_mul, Int.mul_add] at hn
  have k1 : p * v < q * u := by omega
  have yb : y.b = x.b + p := by omega
  have zb : z.b = x.b + p + q := by omega
  have xr : x.r = z.r + u + v := by omega
  have yr : y.r = z.r + v := by omega
  rw [yb, yr, xr] at h
  rw [yb, yr, zb]
  simp only [Int.add_mul] at h ⊢
  have k2 : u * n < p * d := by omega
  -- v n u < v p d = (p v) d < q u d
  have k3 : v * (u * n) < v * (p * d) := Int.mul_lt_mul_of_pos_left k2 (by omega)
  have k4 : (p * v) * d < (q * u) * d := Int.mul_lt_mul_of_pos_right k1 hd
  have k5 : (v * n) * u < (q * d) * u := by
    have a1 : (v * n) * u = v * (u * n) := by rw [Int.mul_assoc, Int.mul_comm n u]
    have a2 : v * (p * d) = (p * v) * d := by rw [← Int.mul_assoc, Int.mul_comm v p]
    have a3 : (q * u) * d = (q * d) * u := by rw [Int.mul_assoc, Int.mul_comm u d, ← Int.mul_assoc]
    rw [a1, ← a3]
    omega
  have k6 : v * n < q * d := Int.lt_of_mul_lt_mul_right k5 (by omega)
  omega
theorem firstTo_min (c : List Ln) (t : Int) : ∀ (k i : Nat), i < k → k ≤ c.length → atI (c.getD (firstTo c t k) Ln0) t ≤ atI (c.getD i Ln0) t ∧ (firstTo c t k < i → atI (c.getD (firstTo c t k) Ln0) t < atI (c.getD i Ln0) t)
  | 0, i, h, _ => by omega
  | k + 1, i, h, hk => by
    have ih := firstTo_min c t k
    unfold firstTo
    by_cases hik : i = k
    · subst hik
      split
      · exact ⟨Int.le_refl _, fun hh => absurd hh (Nat.lt_irrefl _)⟩
      · rename_i hn
        exact ⟨by omega, fun _ => by omega⟩
    · have ih2 := ih i (by omega) (by omega)
      split
      · rename_i hn
        exact ⟨by omega, fun hh => by omega⟩
      · exact ih2
theorem getD_of {c : List Ln} {i : Nat} {x : Ln} (h : c[i]? = some x) : c.getD i Ln0 = x := by simp [List.getD, h]
theorem ht_at (l : Ln) (t : Int) : ht l t 1 = atI l t := by simp [ht, atI]
/-- From the first line on they rise. -/
theorem later_rise {c : List Ln} {t : Int} (h : NormI c) (h0 : 0 ≤ t) (hne : c ≠ []) : ∀ (j : Nat) (x y : Ln), c[firstTo c t c.length + j]? = some x → c[firstTo c t c.length + j + 1]? = some y → atI x t < atI y t := by
  have hl0 : 0 < c.length := List.length_pos_iff.2 hne
  have hf := firstTo_lt c t c.length (Nat.le_refl _) hl0
  intro j
  induction j with
  | zero =>
    intro x y hx hy
    rw [Nat.add_zero] at hx hy
    have hlt := (List.getElem?_eq_some_iff.1 hy).1
    have := (firstTo_min c t c.length (firstTo c t c.length + 1) (by omega) (Nat.le_refl _)).2 (by omega)
    rwa [getD_of hx, getD_of hy] at this
  | succ j ih =>
    intro y z hy hz
    have hlt := (List.getElem?_eq_some_iff.1 hz).1
    obtain ⟨x, hx⟩ : ∃ x, c[firstTo c t c.length + j]? = some x := ⟨_, List.getElem?_eq_getElem (by omega)⟩
    have h1 := ih x y hx hy
    have := convex (n := t) (d := 1) (h.adj _ x y hx hy) (h.adj _ y z hy hz) (h.tri _ x y z hx hy hz) h0 (by omega) (by simpa [ht_at] using h1)
    simpa [ht_at] using this
theorem later_get {c : List Ln} {t : Int} {i : Nat} {u : Ln} (h : (laterL c t)[i]? = some u) : ∃ x, c[firstTo c t c.length + i]? = some x ∧ u = ⟨atI x t, x.r⟩ := by
  unfold laterL at h
  rw [List.getElem?_map, List.getElem?_drop] at h
  cases hx : c[firstTo c t c.length + i]? with
  | none => rw [hx] at h; cases h
  | some x =>
    rw [hx] at h
    simp at h
    exact ⟨x, rfl, h.symm⟩
theorem later_norm {c : List Ln} {t : Int} (h : NormI c) (h0 : 0 ≤ t) (hne : c ≠ []) : NormI (laterL c t) := by
  refine ⟨fun i u v hu hv => ?_, fun i u v w hu hv hw => ?_⟩
  · obtain ⟨x, hx, rfl⟩ := later_get hu
    obtain ⟨y, hy, rfl⟩ := later_get hv
    exact ⟨later_rise h h0 hne i x y hx hy, (h.adj _ x y hx hy).2⟩
  · obtain ⟨x, hx, rfl⟩ := later_get hu
    obtain ⟨y, hy, rfl⟩ := later_get hv
    obtain ⟨z, hz, rfl⟩ := later_get hw
    have := h.tri _ x y z hx hy hz
    unfold needB at this ⊢
    rw [decide_eq_false_iff_not, Int.not_le] at this ⊢
    simp only [atI]
    have e1 : (z.b + z.r * t - (x.b + x.r * t)) * (x.r - y.r) = (z.b - x.b) * (x.r - y.r) + ((z.r - x.r) * t) * (x.r - y.r) := by
      rw [← Int.add_mul]
      congr 1
      rw [Int.sub_mul]
      omega
    have e2 : (y.b + y.r * t - (x.b + x.r * t)) * (x.r - z.r) = (y.b - x.b) * (x.r - z.r) + ((y.r - x.r) * t) * (x.r - z.r) := by
      rw [← Int.add_mul]
      congr 1
      rw [Int.sub_mul]
      omega
    have e3 : ((z.r - x.r) * t) * (x.r - y.r) = ((y.r - x.r) * t) * (x.r - z.r) := by
      have a1 : z.r - x.r = -(x.r - z.r) := by omega
      have a2 : y.r - x.r = -(x.r - y.r) := by omega
      rw [a1, a2, Int.neg_mul, Int.neg_mul, Int.neg_mul, Int.neg_mul, Int.mul_right_comm]
      congr 1
      rw [Int.mul_comm (x.r - z.r) (x.r - y.r)]
      rw [Int.mul_right_comm]
    rw [e1, e2, e3]
    omega
/-- How high lines are. -/
theorem fold_low (n d : Int) : ∀ (c : List Ln) (m : Int), let f := c.foldl (fun m l => if ht l n d < m then ht l n d else m) m
    f ≤ m ∧ (∀ x ∈ c, f ≤ ht x n d) ∧ (f = m ∨ ∃ x ∈ c, f = ht x n d)
  | [], m => ⟨Int.le_refl _, by simp, .inl rfl⟩
  | l :: c, m => by
    intro f
    by_cases hlt : ht l n d < m
    · have hf : f = c.foldl (fun m l => if ht l n d < m then ht l n d else m) (ht l n d) := by simp only [f, List.foldl_cons]; rw [if_pos hlt]
      have ih := fold_low n d c (ht l n d)
      simp only at ih
      rw [← hf] at ih
      refine ⟨by omega, fun x hx => ?_, .inr ?_⟩
      · rcases List.mem_cons.1 hx with rfl | hx
        · exact ih.1
        · exact ih.2.1 x hx
      · rcases ih.2.2 with h | ⟨x, hx, h⟩
        · exact ⟨l, by simp, h⟩
        · exact ⟨x, by simp [hx], h⟩
    · have hf : f = c.foldl (fun m l => if ht l n d < m then ht l n d else m) m := by simp only [f, List.foldl_cons]; rw [if_neg hlt]
      have ih := fold_low n d c m
      simp only at ih
      rw [← hf] at ih
      refine ⟨ih.1, fun x hx => ?_, ?_⟩
      · rcases List.mem_cons.1 hx with rfl | hx
        · omega
        · exact ih.2.1 x hx
      · rcases ih.2.2 with h | ⟨x, hx, h⟩
        · exact .inl h
        · exact .inr ⟨x, by simp [hx], h⟩
theorem htC_le {c : List Ln} {n d : Int} {x : Ln} (hx : x ∈ c) : htC c n d ≤ ht x n d := by
  cases c with
  | nil => cases hx
  | cons l c =>
    have h := fold_low n d c (ht l n d)
    simp only at h
    rcases List.mem_cons.1 hx with rfl | hx
    · exact h.1
    · exact h.2.1 x hx
theorem htC_mem {c : List Ln} (hne : c ≠ []) (n d : Int) : ∃ x ∈ c, htC c n d = ht x n d := by
  cases c with
  | nil => exact absurd rfl hne
  | cons l c =>
    have h := fold_low n d c (ht l n d)
    simp only at h
    rcases h.2.2 with h | ⟨x, hx, h⟩
    · exact ⟨l, by simp, h⟩
    · exact ⟨x, by simp [hx], h⟩
theorem dom_le {a b : List Ln} (h : Dom a b) (hne : b ≠ []) {n d : Int} (h0 : 0 ≤ n) (hd : 0 < d) : htC a n d ≤ htC b n d := by
  obtain ⟨x, hx, e⟩ := htC_mem hne n d
  obtain ⟨u, hu, hle⟩ := h x hx n d h0 hd
  have := htC_le (n := n) (d := d) hu
  omega
theorem later_env {c : List Ln} {t n d : Int} (h : NormI c) (ht0 : 0 ≤ t) (hne : c ≠ []) (h0 : 0 ≤ n) (hd : 0 < d) : htC (laterL c t) n d = htC c (n + t * d) d := by
  have hl0 : 0 < c.length := List.length_pos_iff.2 hne
  have hf := firstTo_lt c t c.length (Nat.le_refl _) hl0
  have hsh : ∀ x : Ln, ht ⟨atI x t, x.r⟩ n d = ht x (n + t * d) d := fun x => by
    unfold ht atI
    simp only
    rw [Int.add_mul, Int.mul_add, Int.mul_assoc]
    omega
  have hne2 : laterL c t ≠ [] := by
    unfold laterL
    intro e
    have := congrArg List.length e
    simp at this
    omega
  have hmem : ∀ (i : Nat) (x : Ln), firstTo c t c.length ≤ i → c[i]? = some x → (⟨atI x t, x.r⟩ : Ln) ∈ laterL c t := fun i x hi hx => by
    unfold laterL
    refine List.mem_map.2 ⟨x, ?_, rfl⟩
    refine List.mem_of_getElem? (i := i - firstTo c t c.length) ?_
    rw [List.getElem?_drop, ← hx]
    congr 1
    omega
  refine Int.le_antisymm ?_ ?_
  · obtain ⟨x, hx, e⟩ := htC_mem hne (n + t * d) d
    obtain ⟨i, hi⟩ := List.getElem?_of_mem hx
    by_cases hfi : firstTo c t c.length ≤ i
    · have := htC_le (n := n) (d := d) (hmem i x hfi hi)
      rw [hsh] at this
      omega
    · obtain ⟨y, hy⟩ : ∃ y, c[firstTo c t c.length]? = some y := ⟨_, List.getElem?_eq_getElem hf⟩
      have h1 := (firstTo_min c t c.length i (by omega) (Nat.le_refl _)).1
      rw [getD_of hy, getD_of hi] at h1
      have h2 := htC_le (n := n) (d := d) (hmem _ y (Nat.le_refl _) hy)
      have h3 : y.r ≤ x.r := by
        -- rates fall
        have hfall : ∀ (k j : Nat) (u v : Ln), c[j]? = some u → c[j + k]? = some v → v.r ≤ u.r := by
          intro k
          induction k with
          | zero =>
            intro j u v hu hv
            rw [Nat.add_zero, hu] at hv
            cases hv
            exact Int.le_refl _
          | succ k ih =>
            intro j u v hu hv
            have hlt := (List.getElem?_eq_some_iff.1 hv).1
            obtain ⟨m, hm⟩ : ∃ m, c[j + k]? = some m := ⟨_, List.getElem?_eq_getElem (by omega)⟩
            have h1 := ih j u m hu hm
            have h2 := (h.adj (j + k) m v hm hv).2
            omega
        refine hfall (firstTo c t c.length - i) i x y hi ?_
        rw [← hy]
        congr 1
        omega
      have h4 : ht ⟨atI y t, y.r⟩ n d ≤ ht ⟨atI x t, x.r⟩ n d := by
        unfold ht
        simp only
        have a1 := Int.mul_le_mul_of_nonneg_right h1 (by omega : (0 : Int) ≤ d)
        have a2 := Int.mul_le_mul_of_nonneg_right h3 h0
        omega
      rw [hsh x] at h4
      omega
  · obtain ⟨u, hu, e⟩ := htC_mem hne2 n d
    obtain ⟨i, hi⟩ := List.getElem?_of_mem hu
    obtain ⟨x, hx, rfl⟩ := later_get hi
    rw [hsh] at e
    have := htC_le (n := n + t * d) (d := d) (List.mem_of_getElem? hx)
    omega
end Go.Proofs.Ytmkjiflliejjjaa
