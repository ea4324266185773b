/- Curve: plain facts on lines. -/
import Derived.Test.YtmkjiflliejjjaaLib
namespace Go.Proofs.Ytmkjiflliejjjaa
set_option linter.unusedVariables false
structure Ln where (b r : Int)
  deriving DecidableEq
/-- How high a line is at n by d ticks, d times. -/
def ht (x : Ln) (n d : Int) : Int := x.b * d + x.r * n
/-- Is the middle one of three lines needless? -/
def needB (x y z : Ln) : Bool := decide ((z.b - x.b) * (x.r - y.r) ≤ (y.b - x.b) * (x.r - z.r))
def popL (x : Ln) : List Ln → List Ln
  | y :: z :: t => if needB z y x = true then popL x (z :: t) else y :: z :: t
  | s => s
def stepL (s : List Ln) (x : Ln) : List Ln := match s with
  | [] => [x]
  | y :: t => if y.r ≤ x.r then y :: t else x :: popL x (y :: t)
/-- By rising bursts and falling rates, the middle of any three in a row needed; the last one first. -/
def NormR : List Ln → Prop
  | c :: b :: a :: t => (b.b < c.b ∧ c.r < b.r) ∧ needB a b c = false ∧ NormR (b :: a :: t)
  | [c, b] => b.b < c.b ∧ c.r < b.r
  | _ => True
theorem NormR.tail {y : Ln} {t : List Ln} (h : NormR (y :: t)) : NormR t := by
  match t, h with
  | [], _ => trivial
  | [_], _ => trivial
  | _ :: _ :: _, h => exact h.2.2
theorem NormR.head {y z : Ln} {t : List Ln} (h : NormR (y :: z :: t)) : z.b < y.b ∧ y.r < z.r := by
  match t, h with
  | [], h => exact h
  | _ :: _, h => exact h.1
theorem NormR.le {y : Ln} : ∀ {t : List Ln}, NormR (y :: t) → ∀ u ∈ t, u.b < y.b ∧ y.r < u.r
  | [], _, u, hu => by simp at hu
  | z :: t, h, u, hu => by
    have h1 := h.head
    rcases List.mem_cons.1 hu with rfl | hu
    · exact h1
    · have := NormR.le h.tail u hu
      omega
theorem pop_suffix (x : Ln) : ∀ s, popL x s <:+ s
  | [] => List.suffix_refl _
  | [y] => List.suffix_refl _
  | y :: z :: t => by
    unfold popL
    split
    · exact (pop_suffix x (z :: t)).trans (List.suffix_cons _ _)
    · exact List.suffix_refl _
theorem pop_ne (x : Ln) : ∀ {s}, s ≠ [] → popL x s ≠ []
  | [], h => absurd rfl h
  | [y], _ => by simp [popL]
  | y :: z :: t, _ => by
    unfold popL
    split
    · exact pop_ne x (by simp)
    · simp
theorem pop_norm (x : Ln) : ∀ {s}, NormR s → NormR (popL x s)
  | [], _ => trivial
  | [y], _ => trivial
  | y :: z :: t, h => by
    unfold popL
    split
    · exact pop_norm x h.tail
    · exact h
theorem pop_need (x : Ln) : ∀ {s : List Ln} {y z : Ln} {t : List Ln}, popL x s = y :: z :: t → needB z y x = false
  | [], _, _, _, h => by simp [popL] at h
  | [_], _, _, _, h => by simp [popL] at h
  | a :: b :: s, y, z, t, h => by
    unfold popL at h
    split at h
    · exact pop_need x h
    · rename_i hn
      simp only [List.cons.injEq] at h
      obtain ⟨rfl, rfl, -⟩ := h
      simpa using hn
/-- The line that is pushed stands right behind what is left. -/
theorem push_norm {x : Ln} {s : List Ln} (h : NormR s) (hx : ∀ u ∈ s, u.b < x.b ∧ x.r < u.r) : NormR (x :: popL x s) := by
  have hn := pop_norm x h
  have hs := (pop_suffix x s).subset
  have hnd : ∀ y z t, popL x s = y :: z :: t → needB z y x = false := fun _ _ _ h => pop_need x h
  generalize popL x s = p at hn hs hnd ⊢
  match p, hn, hs, hnd with
  | [], _, _, _ => trivial
  | [y], _, hs, _ => exact hx y (hs (by simp))
  | y :: z :: t, hn, hs, hnd => exact ⟨hx y (hs (by simp)), hnd _ _ _ rfl, hn⟩
def leLn (x y : Ln) : Prop := x.b < y.b ∨ (x.b = y.b ∧ x.r ≤ y.r)
theorem step_norm {x : Ln} {s : List Ln} (h : NormR s) (hx : ∀ u ∈ s, leLn u x) : NormR (stepL s x) := by
  match s, h, hx with
  | [], _, _ => trivial
  | y :: t, h, hx =>
    unfold stepL
    simp only
    split
    · exact h
    · rename_i hr
      refine push_norm h fun u hu => ?_
      have h1 := hx y (by simp)
      unfold leLn at h1
      rcases List.mem_cons.1 hu with rfl | hu
      · omega
      · have := h.le u hu
        omega
theorem step_sub {x : Ln} {s : List Ln} : ∀ u ∈ stepL s x, u = x ∨ u ∈ s := by
  match s with
  | [] => intro u hu; simp [stepL] at hu; exact Or.inl hu
  | y :: t =>
    intro u hu
    unfold stepL at hu
    simp only at hu
    split at hu
    · exact Or.inr hu
    · rcases List.mem_cons.1 hu with rfl | hu
      · exact Or.inl rfl
      · exact Or.inr ((pop_suffix x _).subset hu)
/-- A needless line is nowhere below both of its neighbours. -/
theorem need_dom {a b c : Ln} (h1 : a.b < b.b) (h2 : b.b < c.b) (h3 : b.r < a.r) (h4 : c.r < b.r) (hn : needB a b c = true) {n d : Int} (h0 : 0 ≤ n) (hd : 0 < d) : ht a n d ≤ ht b n d ∨ ht c n d ≤ ht b n d := by
  simp only [needB, decide_eq_true_eq] at hn
  by_cases hA : ht a n d ≤ ht b n d
  · exact Or.inl hA
  · by_cases hC : ht c n d ≤ ht b n d
    · exact Or.inr hC
    · exfalso
      unfold ht at hA hC
      obtain ⟨p, hp⟩ : ∃ p, p = b.b - a.b := ⟨_, rfl⟩
      obtain ⟨q, hq⟩ : ∃ q, q = c.b - b.b := ⟨_, rfl⟩
      obtain ⟨u, hu⟩ : ∃ u, u = a.r - b.r := ⟨_, rfl⟩
      obtain ⟨v, hv⟩ : ∃ v, v = b.r - c.r := ⟨_, rfl⟩
      have e1 : b.b = a.b + p := by omega
      have e2 : c.b = a.b + p + q := by omega
      have e3 : b.r = c.r + v := by omega
      have e4 : a.r = c.r + v + u := by omega
      rw [e1, e3, e4] at hA
      rw [e1, e2, e3] at hC
      rw [e1, e2, e3, e4] at hn
      have hA' : p * d < u * n := by
        have : (a.b + p) * d + (c.r + v) * n < a.b * d + (c.r + v + u) * n := by omega
        simp only [Int.add_mul] at this
        omega
      have hC' : v * n < q * d := by
        have : (a.b + p) * d + (c.r + v) * n < (a.b + p + q) * d + c.r * n := by omega
        simp only [Int.add_mul] at this
        omega
      have hn' : q * u ≤ p * v := by
        rw [show a.b + p + q - a.b = p + q by omega, show c.r + v + u - (c.r + v) = u by omega, show a.b + p - a.b = p by omega, show c.r + v + u - c.r = v + u by omega, Int.add_mul, Int.mul_add] at hn
        omega
      have hp0 : 0 < p := by omega
      have hq0 : 0 < q := by omega
      have hu0 : 0 < u := by omega
      have hv0 : 0 < v := by omega
      have hn0 : 0 < n := by
        rcases Int.lt_or_eq_of_le h0 with h | h
        · exact h
        · rw [← h, Int.mul_zero] at hA'
          have := Int.mul_pos hp0 hd
          omega
      have k1 : (p * d) * (v * n) < (u * n) * (q * d) := Int.mul_lt_mul hA' (Int.le_of_lt hC') (Int.mul_pos hv0 hn0) (Int.le_of_lt (Int.mul_pos hu0 hn0))
      have k2 : (p * d) * (v * n) = (p * v) * (d * n) := by ac_rfl
      have k3 : (u * n) * (q * d) = (q * u) * (d * n) := by ac_rfl
      rw [k2, k3] at k1
      have := Int.mul_le_mul_of_nonneg_right hn' (Int.le_of_lt (Int.mul_pos hd hn0))
      omega
/-- Some line of one list is nowhere above .. -/
def Dom (s l : List Ln) : Prop := ∀ y ∈ l, ∀ n d : Int, 0 ≤ n → 0 < d → ∃ u ∈ s, ht u n d ≤ ht y n d
theorem dom_self (l : List Ln) : Dom l l := fun y hy n d _ _ => ⟨y, hy, Int.le_refl _⟩
theorem Dom.trans {a b c : List Ln} (h : Dom a b) (k : Dom b c) : Dom a c := fun y hy n d h0 hd => by
  obtain ⟨u, hu, h1⟩ := k y hy n d h0 hd
  obtain ⟨v, hv, h2⟩ := h u hu n d h0 hd
  exact ⟨v, hv, Int.le_trans h2 h1⟩
theorem pop_dom (x : Ln) : ∀ {s}, NormR s → (∀ u ∈ s, u.b < x.b ∧ x.r < u.r) → Dom (x :: popL x s) s
  | [], _, _ => fun y hy => by simp at hy
  | [y], _, _ => fun z hz n d _ _ => ⟨z, by simp [popL] at hz ⊢; exact Or.inr hz, Int.le_refl _⟩
  | y :: z :: t, h, hx => by
    unfold popL
    split
    · rename_i hn
      have ih := pop_dom x h.tail (fun u hu => hx u (List.mem_cons_of_mem _ hu))
      intro w hw n d h0 hd
      rcases List.mem_cons.1 hw with rfl | hw
      · have h1 := h.head
        have h2 := hx w (by simp)
        rcases need_dom h1.1 h2.1 h1.2 h2.2 hn h0 hd with hh | hh
        · obtain ⟨u, hu, hk⟩ := ih z (by simp) n d h0 hd
          exact ⟨u, hu, Int.le_trans hk hh⟩
        · exact ⟨x, by simp, hh⟩
      · exact ih w hw n d h0 hd
    · exact fun w hw n d _ _ => ⟨w, List.mem_cons_of_mem _ hw, Int.le_refl _⟩
theorem step_dom {x : Ln} {s : List Ln} (h : NormR s) (hx : ∀ u ∈ s, leLn u x) : Dom (stepL s x) (x :: s) := by
  match s, h, hx with
  | [], _, _ => exact dom_self _
  | y :: t, h, hx =>
    unfold stepL
    simp only
    split
    · rename_i hr
      intro w hw n d h0 hd
      rcases List.mem_cons.1 hw with rfl | hw
      · refine ⟨y, by simp, ?_⟩
        have h1 := hx y (by simp)
        unfold leLn at h1
        unfold ht
        have k1 : y.b * d ≤ w.b * d := Int.mul_le_mul_of_nonneg_right (by omega) (by omega)
        have k2 : y.r * n ≤ w.r * n := Int.mul_le_mul_of_nonneg_right hr h0
        omega
      · exact ⟨w, hw, Int.le_refl _⟩
    · rename_i hr
      have hd := pop_dom x h (fun u hu => by
        have h1 := hx y (by simp)
        unfold leLn at h1
        rcases List.mem_cons.1 hu with rfl | hu
        · omega
        · have := h.le u hu
          omega)
      intro w hw n d h0 hd0
      rcases List.mem_cons.1 hw with rfl | hw
      · exact ⟨w, by simp, Int.le_refl _⟩
      · exact hd w hw n d h0 hd0
/-- The lines of a sorted list that are the only least ones somewhere, the last one first. -/
theorem fold_inv : ∀ (todo : List Ln) (past s : List Ln), (∀ y ∈ past, ∀ x ∈ todo, leLn y x) → todo.Pairwise leLn → NormR s → (∀ y ∈ s, y ∈ past) → Dom s past →
    NormR (todo.foldl stepL s) ∧ (∀ y ∈ todo.foldl stepL s, y ∈ past ++ todo) ∧ Dom (todo.foldl stepL s) (past ++ todo)
  | [], past, s, _, _, h1, h2, h3 => ⟨h1, by simpa using h2, by simpa using h3⟩
  | x :: todo, past, s, hp, hs, h1, h2, h3 => by
    rw [List.pairwise_cons] at hs
    have hx : ∀ u ∈ s, leLn u x := fun u hu => hp u (h2 u hu) x (by simp)
    have ih := fold_inv todo (past ++ [x]) (stepL s x) (fun y hy z hz => by
      rcases List.mem_append.1 hy with hy | hy
      · exact hp y hy z (List.mem_cons_of_mem _ hz)
      · simp at hy; subst hy; exact hs.1 z hz) hs.2 (step_norm h1 hx) (fun y hy => by
        rcases step_sub y hy with rfl | hy
        · simp
        · simp [h2 y hy]) (fun w hw n d h0 hd => by
        have hsd := step_dom h1 hx
        rcases List.mem_append.1 hw with hw | hw
        · obtain ⟨u, hu, hk⟩ := h3 w hw n d h0 hd
          obtain ⟨v, hv, hk2⟩ := hsd u (List.mem_cons_of_mem _ hu) n d h0 hd
          exact ⟨v, hv, Int.le_trans hk2 hk⟩
        · simp at hw
          subst hw
          exact hsd w (by simp) n d h0 hd)
    simpa using ih
theorem step_same {x : Ln} {s : List Ln} (h : NormR (x :: s)) : stepL s x = x :: s := by
  match s, h with
  | [], _ => rfl
  | [y], h =>
    have := h.head
    unfold stepL popL
    simp only
    rw [if_neg (by omega)]
  | y :: z :: t, h =>
    have h1 := h.head
    unfold stepL popL
    simp only
    rw [if_neg (by omega), if_neg (by rw [h.2.1]; simp)]
theorem fold_same : ∀ (c s : List Ln), NormR (c.reverse ++ s) → c.foldl stepL s = c.reverse ++ s
  | [], s, _ => rfl
  | x :: c, s, h => by
    rw [List.reverse_cons, List.append_assoc] at h ⊢
    have h1 : NormR (x :: s) := by
      have : ∀ (a b : List Ln), NormR (a ++ b) → NormR b := by
        intro a
        induction a with
        | nil => exact fun b h => h
        | cons y a ih => exact fun b h => ih b h.tail
      exact this c.reverse _ h
    rw [List.foldl_cons, step_same h1]
    exact fold_same c (x :: s) h
end Go.Proofs.Ytmkjiflliejjjaa
