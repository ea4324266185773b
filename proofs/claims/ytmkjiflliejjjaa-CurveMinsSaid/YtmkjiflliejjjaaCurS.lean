/- Curve, plain: one normal list of a hull. -/
import Derived.Test.YtmkjiflliejjjaaCurR
namespace Go.Proofs.Ytmkjiflliejjjaa
set_option linter.unusedVariables false
theorem NormI.lt {c : List Ln} (h : NormI c) : ∀ (k i : Nat) (x y : Ln), c[i]? = some x → c[i + k + 1]? = some y → x.b < y.b ∧ y.r < x.r
  | 0, i, x, y, hx, hy => h.adj i x y hx hy
  | k + 1, i, x, y, hx, hy => by
    have hlt := (List.getElem?_eq_some_iff.1 hy).1
    obtain ⟨m, hm⟩ : ∃ m, c[i + k + 1]? = some m := ⟨_, List.getElem?_eq_getElem (by omega)⟩
    have h1 := NormI.lt h k i x m hx hm
    have h2 := h.adj (i + k + 1) m y hm hy
    omega
/-- Where a line is not above the next one, that one is below the one behind it. -/
theorem convexR {x y z : Ln} {n d : Int} (h1 : x.b < y.b ∧ y.r < x.r) (h2 : y.b < z.b ∧ z.r < y.r) (hn : needB x y z = false) (h0 : 0 ≤ n) (hd : 0 < d) (h : ht x n d ≤ ht y n d) : ht y n d < ht z n d := by
  unfold needB at hn
  unfold ht at *
  simp only [decide_eq_false_iff_not, Int.not_le] at hn
  obtain ⟨p, hp⟩ : ∃ p, p = y.b - x.b := ⟨_, rfl⟩
  obtain ⟨q, hq⟩ : ∃ q, q = z.b - y.b := ⟨_, rfl⟩
  obtain ⟨u, hu⟩ : ∃ u, u = x.r - y.r := ⟨_, rfl⟩
  obtain ⟨v, hv⟩ : ∃ v, v = y.r - z.r := ⟨_, rfl⟩
  have e1 : z.b - x.b = p + q := by omega
  have e2 : x.r - z.r = u + v := by omega
  rw [e1, e2, ← hp, ← hu, Int.add_mul, Int.mul_add] at hn
  have k1 : p * v < q * u := by omega
  have yb : y.b = x.b + p := by omega
  have zb : z.b = x.b + p + q := by omega
  have xr : x.r = z.r + u + v := by omega
  have yr : y.r = z.r + v := by omega
  rw [yb, yr, xr] at h
  rw [yb, yr, zb]
  simp only [Int.add_mul] at h ⊢
  have k2 : u * n ≤ p * d := by omega
  have k3 : v * (u * n) ≤ v * (p * d) := Int.mul_le_mul_of_nonneg_left k2 (by omega)
  have k4 : (p * v) * d < (q * u) * d := Int.mul_lt_mul_of_pos_right k1 hd
  have k5 : (v * n) * u < (q * d) * u := by
    have a1 : (v * n) * u = v * (u * n) := by rw [Int.mul_assoc, Int.mul_comm n u]
    have a2 : v * (p * d) = (p * v) * d := by rw [← Int.mul_assoc, Int.mul_comm v p]
    have a3 : (q * u) * d = (q * d) * u := by rw [Int.mul_assoc, Int.mul_comm u d, ← Int.mul_assoc]
    rw [a1, ← a3]
    omega
  have k6 : v * n < q * d := Int.lt_of_mul_lt_mul_right k5 (by omega)
  omega
/-- .. and where it is not above the one ahead, the one ahead is below that one's. -/
theorem convexL {x y z : Ln} {n d : Int} (h1 : x.b < y.b ∧ y.r < x.r) (h2 : y.b < z.b ∧ z.r < y.r) (hn : needB x y z = false) (h0 : 0 ≤ n) (hd : 0 < d) (h : ht z n d ≤ ht y n d) : ht y n d < ht x n d := by
  rcases Int.lt_or_le (ht y n d) (ht x n d) with h3 | h3
  · exact h3
  · have := convexR h1 h2 hn h0 hd h3
    omega
theorem up_from {c : List Ln} (h : NormI c) {n d : Int} (h0 : 0 ≤ n) (hd : 0 < d) {i : Nat} {x y : Ln} (hx : c[i]? = some x) (hy : c[i + 1]? = some y) (hle : ht x n d ≤ ht y n d) :
    ∀ (k : Nat) (z : Ln), c[i + 1 + k]? = some z → ht y n d ≤ ht z n d := by
  have key : ∀ (k : Nat) (u z : Ln), c[i + k]? = some u → c[i + k + 1]? = some z → ht u n d ≤ ht z n d ∧ ht y n d ≤ ht z n d := by
    intro k
    induction k with
    | zero => intro u z hu hz; rw [Nat.add_zero] at hu hz; rw [hx] at hu; rw [hy] at hz; cases hu; cases hz; exact ⟨hle, Int.le_refl _⟩
    | succ k ih =>
      intro u z hu hz
      have hlt := (List.getElem?_eq_some_iff.1 hz).1
      obtain ⟨m, hm⟩ : ∃ m, c[i + k]? = some m := ⟨_, List.getElem?_eq_getElem (by omega)⟩
      have h1 := ih m u hm hu
      have := convexR (h.adj _ _ _ hm hu) (h.adj _ _ _ hu hz) (h.tri _ _ _ _ hm hu hz) h0 hd h1.1
      omega
  intro k z hz
  have hlt := (List.getElem?_eq_some_iff.1 hz).1
  obtain ⟨m, hm⟩ : ∃ m, c[i + k]? = some m := ⟨_, List.getElem?_eq_getElem (by omega)⟩
  exact (key k m z hm (by rw [← hz]; congr 1; omega)).2
theorem down_from {c : List Ln} (h : NormI c) {n d : Int} (h0 : 0 ≤ n) (hd : 0 < d) : ∀ (i : Nat) (x y : Ln), c[i]? = some x → c[i + 1]? = some y → ht y n d ≤ ht x n d →
    ∀ (j : Nat) (z : Ln), j ≤ i → c[j]? = some z → ht x n d ≤ ht z n d
  | 0, x, y, hx, hy, hle, j, z, hj, hz => by
    obtain rfl : j = 0 := by omega
    rw [hx] at hz; cases hz; exact Int.le_refl _
  | i + 1, x, y, hx, hy, hle, j, z, hj, hz => by
    by_cases e : j = i + 1
    · subst e; rw [hx] at hz; cases hz; exact Int.le_refl _
    · have hlt := (List.getElem?_eq_some_iff.1 hx).1
      obtain ⟨m, hm⟩ : ∃ m, c[i]? = some m := ⟨_, List.getElem?_eq_getElem (by omega)⟩
      have h1 := convexL (h.adj _ _ _ hm hx) (h.adj _ _ _ hx hy) (h.tri _ _ _ _ hm hx hy) h0 hd hle
      have h2 := down_from h h0 hd i m x hm hx (by omega) j z (by omega) hz
      omega
/-- y is nowhere above another one there. -/
def LowAt (c : List Ln) (y : Ln) (n d : Int) : Prop := ∀ z ∈ c, ht y n d ≤ ht z n d
/-- Where two neighbours meet both are the least. -/
theorem meet {c : List Ln} (h : NormI c) {i : Nat} {x y : Ln} (hx : c[i]? = some x) (hy : c[i + 1]? = some y) : LowAt c x (y.b - x.b) (x.r - y.r) ∧ LowAt c y (y.b - x.b) (x.r - y.r) := by
  have ha := h.adj _ _ _ hx hy
  have h0 : 0 ≤ y.b - x.b := by omega
  have hd : 0 < x.r - y.r := by omega
  have he : ht x (y.b - x.b) (x.r - y.r) = ht y (y.b - x.b) (x.r - y.r) := by
    unfold ht
    have e1 : y.b = x.b + (y.b - x.b) := by omega
    have e2 : x.r = y.r + (x.r - y.r) := by omega
    generalize y.b - x.b = p at *
    generalize x.r - y.r = q at *
    rw [e1, e2, Int.add_mul, Int.add_mul, Int.mul_comm q p]
    omega
  have key : LowAt c x (y.b - x.b) (x.r - y.r) := by
    intro z hz
    obtain ⟨j, hj⟩ := List.getElem?_of_mem hz
    by_cases hji : j ≤ i
    · exact down_from h h0 hd i x y hx hy (by omega) j z hji hj
    · have := up_from h h0 hd hx hy (by omega) (j - i - 1) z (by rw [← hj]; congr 1; omega)
      omega
  exact ⟨key, fun z hz => by rw [← he]; exact key z hz⟩
/-- Each line of a normal list is the least at two places. -/
theorem two_places {c : List Ln} (h : NormI c) {i : Nat} {x : Ln} (hx : c[i]? = some x) : ∃ n d m e : Int, 0 ≤ n ∧ 0 < d ∧ 0 ≤ m ∧ 0 < e ∧ n * e < m * d ∧ LowAt c x n d ∧ LowAt c x m e := by
  -- the place behind
  have hi := (List.getElem?_eq_some_iff.1 hx).1
  by_cases hz : i + 1 < c.length
  · obtain ⟨y, hy⟩ : ∃ y, c[i + 1]? = some y := ⟨_, List.getElem?_eq_getElem hz⟩
    have hm := (meet h hx hy).1
    have ha := h.adj _ _ _ hx hy
    match i, hx, hy, hi, hz, hm with
    | 0, hx, hy, hi, hz, hm =>
      refine ⟨0, 1, y.b - x.b, x.r - y.r, by omega, by omega, by omega, by omega, by omega, fun z hzm => ?_, hm⟩
      obtain ⟨j, hj⟩ := List.getElem?_of_mem hzm
      unfold ht
      match j, hj with
      | 0, hj => rw [hx] at hj; cases hj; omega
      | j + 1, hj => have := h.lt j 0 x z hx (by rw [← hj]; congr 1; omega); omega
    | k + 1, hx, hy, hi, hz, hm =>
      obtain ⟨w, hw⟩ : ∃ w, c[k]? = some w := ⟨_, List.getElem?_eq_getElem (by omega)⟩
      have hb := h.adj _ _ _ hw hx
      have hn := h.tri _ _ _ _ hw hx hy
      refine ⟨x.b - w.b, w.r - x.r, y.b - x.b, x.r - y.r, by omega, by omega, by omega, by omega, ?_, (meet h hw hx).2, hm⟩
      unfold needB at hn
      simp only [decide_eq_false_iff_not, Int.not_le] at hn
      rw [show y.b - w.b = (y.b - x.b) + (x.b - w.b) by omega, show w.r - y.r = (w.r - x.r) + (x.r - y.r) by omega, Int.add_mul, Int.mul_add] at hn
      omega
  · match i, hx, hi, hz with
    | 0, hx, hi, hz =>
      refine ⟨0, 1, 1, 1, by omega, by omega, by omega, by omega, by omega, fun z hzm => ?_, fun z hzm => ?_⟩
      all_goals
        obtain ⟨j, hj⟩ := List.getElem?_of_mem hzm
        have := (List.getElem?_eq_some_iff.1 hj).1
        obtain rfl : j = 0 := by omega
        rw [hx] at hj; cases hj; exact Int.le_refl _
    | k + 1, hx, hi, hz =>
      obtain ⟨w, hw⟩ : ∃ w, c[k]? = some w := ⟨_, List.getElem?_eq_getElem (by omega)⟩
      have hb := h.adj _ _ _ hw hx
      have hm := (meet h hw hx).2
      refine ⟨x.b - w.b, w.r - x.r, x.b - w.b + 1, w.r - x.r, by omega, by omega, by omega, by omega, ?_, hm, fun z hzm => ?_⟩
      · rw [Int.add_mul]; omega
      · have h1 := hm z hzm
        have h2 : x.r ≤ z.r := by
          obtain ⟨j, hj⟩ := List.getElem?_of_mem hzm
          have := (List.getElem?_eq_some_iff.1 hj).1
          by_cases e : j = k + 1
          · subst e; rw [hx] at hj; cases hj; exact Int.le_refl _
          · have := h.lt (k - j) j z x hj (by rw [← hx]; congr 1; omega)
            omega
        unfold ht at *
        rw [Int.mul_add, Int.mul_add]
        omega
theorem same_line {x u : Ln} {n d m e : Int} (h : n * e < m * d) (h1 : ht x n d = ht u n d) (h2 : ht x m e = ht u m e) : u = x := by
  unfold ht at *
  obtain ⟨p, hp⟩ : ∃ p, p = u.b - x.b := ⟨_, rfl⟩
  obtain ⟨q, hq⟩ : ∃ q, q = u.r - x.r := ⟨_, rfl⟩
  have e1 : u.b = x.b + p := by omega
  have e2 : u.r = x.r + q := by omega
  rw [e1, e2] at h1 h2
  simp only [Int.add_mul] at h1 h2
  have k1 : p * d + q * n = 0 := by omega
  have k2 : p * e + q * m = 0 := by omega
  -- q (m d - n e) = 0
  have k3 : q * (m * d - n * e) = 0 := by
    have a1 : (p * d + q * n) * e = 0 := by rw [k1, Int.zero_mul]
    have a2 : (p * e + q * m) * d = 0 := by rw [k2, Int.zero_mul]
    rw [Int.add_mul] at a1 a2
    have b1 : p * d * e = p * e * d := Int.mul_right_comm _ _ _
    have b2 : q * n * e = q * (n * e) := Int.mul_assoc _ _ _
    have b3 : q * m * d = q * (m * d) := Int.mul_assoc _ _ _
    rw [Int.mul_sub]
    omega
  have k4 : p * (m * d - n * e) = 0 := by
    have a1 : (p * d + q * n) * m = 0 := by rw [k1, Int.zero_mul]
    have a2 : (p * e + q * m) * n = 0 := by rw [k2, Int.zero_mul]
    rw [Int.add_mul] at a1 a2
    have b1 : q * n * m = q * m * n := Int.mul_right_comm _ _ _
    have b2 : p * d * m = p * (m * d) := by rw [Int.mul_assoc, Int.mul_comm d m]
    have b3 : p * e * n = p * (n * e) := by rw [Int.mul_assoc, Int.mul_comm e n]
    rw [Int.mul_sub]
    omega
  have hne : m * d - n * e ≠ 0 := by omega
  have hq0 : q = 0 := (Int.mul_eq_zero.1 k3).resolve_right hne
  have hp0 : p = 0 := (Int.mul_eq_zero.1 k4).resolve_right hne
  cases x; cases u
  simp only [Ln.mk.injEq]
  simp only at e1 e2
  omega
theorem hull_sub {a b : List Ln} (ha : NormI a) (hab : Dom a b) (hba : Dom b a) : ∀ x ∈ a, x ∈ b := by
  intro x hx
  obtain ⟨i, hi⟩ := List.getElem?_of_mem hx
  obtain ⟨n, d, m, e, h1, h2, h3, h4, h5, h6, h7⟩ := two_places ha hi
  obtain ⟨u, hu, hle⟩ := hba x hx (n + m) (d + e) (by omega) (by omega)
  obtain ⟨v, hv, hv1⟩ := hab u hu n d h1 h2
  obtain ⟨z, hz, hz1⟩ := hab u hu m e h3 h4
  have g1 := h6 v hv
  have g2 := h7 z hz
  have s1 : ht u (n + m) (d + e) = ht u n d + ht u m e := by unfold ht; rw [Int.mul_add, Int.mul_add]; omega
  have s2 : ht x (n + m) (d + e) = ht x n d + ht x m e := by unfold ht; rw [Int.mul_add, Int.mul_add]; omega
  rw [s1, s2] at hle
  obtain rfl := same_line (x := x) (u := u) h5 (by omega) (by omega)
  exact hu
theorem norm_sorted {c : List Ln} (h : NormI c) : c.Pairwise (fun x y => x.b < y.b) := by
  rw [List.pairwise_iff_getElem]
  intro i j hi hj hij
  exact (h.lt (j - i - 1) i c[i] c[j] (List.getElem?_eq_getElem hi) (by rw [show i + (j - i - 1) + 1 = j by omega]; exact List.getElem?_eq_getElem hj)).1
theorem sorted_same : ∀ {a b : List Ln}, a.Pairwise (fun x y => x.b < y.b) → b.Pairwise (fun x y => x.b < y.b) → (∀ x, x ∈ a ↔ x ∈ b) → a = b
  | [], [], _, _, _ => rfl
  | [], y :: b, _, _, h => by have := (h y).2 (by simp); simp at this
  | x :: a, [], _, _, h => by have := (h x).1 (by simp); simp at this
  | x :: a, y :: b, ha, hb, h => by
    rw [List.pairwise_cons] at ha hb
    have hxy : x = y := by
      have h1 := (h x).1 (by simp)
      have h2 := (h y).2 (by simp)
      rcases List.mem_cons.1 h1 with e | h1
      · exact e
      · rcases List.mem_cons.1 h2 with e | h2
        · exact e.symm
        · have := ha.1 y h2
          have := hb.1 x h1
          omega
    subst hxy
    congr 1
    refine sorted_same ha.2 hb.2 fun z => ?_
    constructor
    · intro hz
      rcases List.mem_cons.1 ((h z).1 (by simp [hz])) with rfl | h1
      · have := ha.1 z hz; omega
      · exact h1
    · intro hz
      rcases List.mem_cons.1 ((h z).2 (by simp [hz])) with rfl | h1
      · have := hb.1 z hz; omega
      · exact h1
/-- One normal list of a hull. -/
theorem hull_one {a b : List Ln} (ha : NormI a) (hb : NormI b) (hab : Dom a b) (hba : Dom b a) : a = b :=
  sorted_same (norm_sorted ha) (norm_sorted hb) fun x => ⟨hull_sub ha hab hba x, hull_sub hb hba hab x⟩
theorem lowL_norm (ls : List Ln) : NormI (lowL ls) := norm_idx.1 (low_norm (lowL_is ls))
/-- A normal list of some of the lines, nowhere above them: it is what lower tells. -/
theorem low_one {ls c : List Ln} (hn : NormI c) (hs : ∀ x ∈ c, x ∈ ls) (hd : Dom c ls) : c = lowL ls :=
  hull_one hn (lowL_norm ls) (fun y hy n d h0 hd' => hd y (low_mem (lowL_is ls) y hy) n d h0 hd') (fun y hy n d h0 hd' => low_dom (lowL_is ls) y (hs y hy) n d h0 hd')
end Go.Proofs.Ytmkjiflliejjjaa
