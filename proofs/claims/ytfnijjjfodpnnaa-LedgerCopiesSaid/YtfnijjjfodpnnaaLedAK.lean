/- Ledger: what Same says of what is taken. -/
import Derived.Test.YtfnijjjfodpnnaaLedU
namespace Go.Proofs.Ytfnijjjfodpnnaa
open Go.RowKit Go.Shelf
set_option linter.unusedVariables false
set_option linter.unusedSimpArgs false
theorem perm_sub {α : Type} [DecidableEq α] : ∀ (a b : List α), a.Nodup → (∀ x ∈ a, x ∈ b) → b.length ≤ a.length → a.Perm b
  | [], b, _, _, h => by
    have : b = [] := List.eq_nil_of_length_eq_zero (by simpa using h)
    rw [this]
  | x :: l, b, hn, hs, hl => by
    rw [List.nodup_cons] at hn
    have hx := hs x (by simp)
    have hp := List.perm_cons_erase hx
    refine ((perm_sub l (b.erase x) hn.2 (fun y hy => ?_) ?_).cons x).trans hp.symm
    · have hne : y ≠ x := fun e => hn.1 (e ▸ hy)
      exact (List.mem_erase_of_ne hne).2 (hs y (by simp [hy]))
    · rw [List.length_erase_of_mem hx]
      simp at hl
      omega
instance : DecidableEq En := fun a b => by
  cases a; cases b
  simp only [En.mk.injEq]
  infer_instance
theorem nodup_of_map {α β : Type} {f : α → β} {l : List α} (h : (l.map f).Nodup) : l.Nodup := by
  rw [List.Nodup, List.pairwise_map] at h
  exact h.imp fun hab e => hab (by rw [e])
theorem eqE_perm {a b : List En} (hn : (a.map En.i).Nodup) (h : eqE a b = true) : a.Perm b := by
  unfold eqE at h
  simp only [Bool.and_eq_true, decide_eq_true_eq, List.all_eq_true] at h
  refine perm_sub a b (nodup_of_map hn) (fun x hx => ?_) (by omega)
  obtain ⟨h1, h2⟩ := h.2 x hx
  cases hg : getE b x.i with
  | none => rw [hg] at h1; cases h1
  | some y =>
    have hy := List.mem_of_find?_eq_some hg
    have hxy : x = y := by
      have : oldE b x.i = y := by rw [oldE, hg]; rfl
      rw [this] at h2
      obtain ⟨x1, x2, x3⟩ := x
      obtain ⟨y1, y2, y3⟩ := y
      simp [sameEn] at h2
      simp
      omega
    rw [hxy]; exact hy
theorem eqS_perm {a b : List (Int × Int)} (hn : (a.map (·.1)).Nodup) (h : eqS a b = true) : a.Perm b := by
  unfold eqS at h
  simp only [Bool.and_eq_true, decide_eq_true_eq, List.all_eq_true] at h
  refine perm_sub a b (nodup_of_map hn) (fun x hx => ?_) (by omega)
  obtain ⟨h1, h2⟩ := h.2 x hx
  unfold getS at h1 h2
  cases hg : b.find? (fun p => decide (p.1 = x.1)) with
  | none => rw [hg] at h1; cases h1
  | some y =>
    have hy := List.mem_of_find?_eq_some hg
    have hk : y.1 = x.1 := by simpa using List.find?_some hg
    rw [hg] at h2
    simp at h2
    have : x = y := Prod.ext hk.symm h2
    rw [this]; exact hy
/-- What is taken of steps at a tick. -/
def takS : List (Int × Int) → Int → Int
  | [], _ => 0
  | p :: l, now => (if now < p.1 then p.2 else 0) + takS l now
theorem takS_perm {a b : List (Int × Int)} (h : a.Perm b) (now : Int) : takS a now = takS b now := by
  induction h with
  | nil => rfl
  | cons x _ ih => simp only [takS, ih]
  | swap x y l => simp only [takS]; omega
  | trans _ _ h1 h2 => exact h1.trans h2
theorem takS_append (a b : List (Int × Int)) (now : Int) : takS (a ++ b) now = takS a now + takS b now := by
  induction a with
  | nil => simp [takS]
  | cons x a ih => simp only [List.cons_append, takS, ih]; omega
theorem takS_del {l : List (Int × Int)} {now : Int} (h0 : 0 ≤ now) : takS (delS l 0) now = takS l now := by
  induction l with
  | nil => rfl
  | cons p l ih =>
    unfold delS at ih ⊢
    by_cases hp : p.1 = 0
    · rw [List.filter_cons_of_neg (by simpa using hp), ih]
      simp only [takS]
      rw [if_neg (by omega)]
      omega
    · rw [List.filter_cons_of_pos (by simpa using hp)]
      simp only [takS, ih]
theorem takS_map : ∀ (l : List (Int × Int)) (i v u now : Int), (l.map (·.1)).Nodup → getS l i = some u → takS (l.map fun p => if p.1 = i then (p.1, v) else p) now = takS l now + (if now < i then v - u else 0)
  | [], i, v, u, now, _, h => by simp [getS] at h
  | p :: l, i, v, u, now, hn, hg => by
    simp only [List.map_cons, List.nodup_cons] at hn
    by_cases hp : p.1 = i
    · have hu : p.2 = u := by
        unfold getS at hg
        rw [List.find?_cons_of_pos (by simpa using hp)] at hg
        simpa using hg
      have hrest : (l.map fun q : Int × Int => if q.1 = i then (q.1, v) else q) = l := by
        have h1 : l.map (fun q : Int × Int => if q.1 = i then (q.1, v) else q) = l.map id := List.map_congr_left fun q hq => by
          rw [if_neg (fun e => hn.1 (by rw [hp, ← e]; exact List.mem_map.2 ⟨q, hq, rfl⟩))]
          rfl
        rw [h1, List.map_id]
      rw [List.map_cons, hrest, if_pos hp]
      simp only [takS]
      rw [hp, hu]
      split <;> omega
    · have hg' : getS l i = some u := by
        unfold getS at hg ⊢
        rw [List.find?_cons_of_neg (by simpa using hp)] at hg
        exact hg
      have := takS_map l i v u now hn.2 hg'
      rw [List.map_cons, if_neg hp]
      simp only [takS]
      rw [this]
      omega
theorem takS_put {l : List (Int × Int)} {i v now : Int} (hn : (l.map (·.1)).Nodup) : takS (putS l i v) now = takS l now + (if now < i then v - (getS l i).getD 0 else 0) := by
  unfold putS
  cases hg : getS l i with
  | none =>
    rw [Option.isSome_none, if_neg (by decide), takS_append]
    simp [takS]
  | some u =>
    rw [Option.isSome_some, if_pos rfl]
    exact takS_map l i v u now hn hg
/-- Steps of so many rates: none less than 0, all together no more than so much. -/
def sumS : List (Int × Int) → Int
  | [] => 0
  | p :: l => p.2 + sumS l
theorem getS_le : ∀ {l : List (Int × Int)} {i : Int}, (∀ p ∈ l, 0 ≤ p.2) → 0 ≤ (getS l i).getD 0 ∧ (getS l i).getD 0 ≤ sumS l ∧ 0 ≤ sumS l
  | [], i, _ => by simp [getS, sumS]
  | p :: l, i, h => by
    have ih := getS_le (l := l) (i := i) fun q hq => h q (by simp [hq])
    have hp := h p (by simp)
    unfold getS at ih ⊢
    by_cases hpi : p.1 = i
    · rw [List.find?_cons_of_pos (by simpa using hpi)]
      simp only [Option.map_some, Option.getD_some, sumS]
      omega
    · rw [List.find?_cons_of_neg (by simpa using hpi)]
      simp only [sumS]
      omega
theorem sumS_append (a b : List (Int × Int)) : sumS (a ++ b) = sumS a + sumS b := by
  induction a with
  | nil => simp [sumS]
  | cons x a ih => simp only [List.cons_append, sumS, ih]; omega
theorem sumS_map : ∀ (l : List (Int × Int)) (i v u : Int), (l.map (·.1)).Nodup → getS l i = some u → sumS (l.map fun p => if p.1 = i then (p.1, v) else p) = sumS l + (v - u)
  | [], i, v, u, _, h => by simp [getS] at h
  | p :: l, i, v, u, hn, hg => by
    simp only [List.map_cons, List.nodup_cons] at hn
    by_cases hp : p.1 = i
    · have hu : p.2 = u := by
        unfold getS at hg
        rw [List.find?_cons_of_pos (by simpa using hp)] at hg
        simpa using hg
      have hrest : (l.map fun q : Int × Int => if q.1 = i then (q.1, v) else q) = l := by
        have h1 : l.map (fun q : Int × Int => if q.1 = i then (q.1, v) else q) = l.map id := List.map_congr_left fun q hq => by
          rw [if_neg (fun e => hn.1 (by rw [hp, ← e]; exact List.mem_map.2 ⟨q, hq, rfl⟩))]
          rfl
        rw [h1, List.map_id]
      rw [List.map_cons, hrest, if_pos hp]
      simp only [sumS]
      omega
    · have hg' : getS l i = some u := by
        unfold getS at hg ⊢
        rw [List.find?_cons_of_neg (by simpa using hp)] at hg
        exact hg
      have := sumS_map l i v u hn.2 hg'
      rw [List.map_cons, if_neg hp]
      simp only [sumS]
      rw [this]
      omega
theorem sumS_put {l : List (Int × Int)} {i v : Int} (hn : (l.map (·.1)).Nodup) : sumS (putS l i v) = sumS l + (v - (getS l i).getD 0) := by
  unfold putS
  cases hg : getS l i with
  | none =>
    rw [Option.isSome_none, if_neg (by decide), sumS_append]
    simp [sumS]
  | some u =>
    rw [Option.isSome_some, if_pos rfl]
    exact sumS_map l i v u hn hg
theorem put_pos {l : List (Int × Int)} {i v : Int} (h : ∀ p ∈ l, 0 ≤ p.2) (hv : 0 ≤ v) : ∀ p ∈ putS l i v, 0 ≤ p.2 := by
  intro p hp
  unfold putS at hp
  split at hp
  · obtain ⟨q, hq, rfl⟩ := List.mem_map.1 hp
    split
    · exact hv
    · exact h q hq
  · rcases List.mem_append.1 hp with hp | hp
    · exact h p hp
    · simp at hp; subst hp; exact hv
theorem steps_fold : ∀ (gs : List Ling) (l : List (Int × Int)) (now : Int), (l.map (·.1)).Nodup → (∀ p ∈ l, 0 ≤ p.2) → (∀ x ∈ gs, 0 ≤ x.r ∧ x.r ≤ 1000000) → sumS l + gs.length * 1000000 ≤ 1000000000000000 → takS (gs.foldl stepG l) now = takS l now + takG gs now
  | [], l, now, _, _, _, _ => by simp [takG, sumG]
  | g :: gs, l, now, hn, hp, hg, hb => by
    have hg1 := hg g (by simp)
    have hgl := getS_le (i := g.u) hp
    simp only [List.length_cons] at hb
    have hw : wrap64 ((getS l g.u).getD 0 + g.r) = (getS l g.u).getD 0 + g.r := wrap_in (by omega)
    have hs : sumS (stepG l g) = sumS l + g.r := by unfold stepG; rw [sumS_put hn, hw]; omega
    have ht : takS (stepG l g) now = takS l now + (if now < g.u then g.r else 0) := by
      unfold stepG
      rw [takS_put hn, hw]
      split <;> omega
    have ih := steps_fold gs (stepG l g) now (putS_nodup hn _ _) (put_pos hp (by rw [hw]; omega)) (fun x hx => hg x (by simp [hx])) (by rw [hs]; omega)
    rw [List.foldl_cons, ih, ht]
    unfold takG
    by_cases h1 : now < g.u
    · rw [if_pos h1, List.filter_cons_of_pos (by simpa using h1)]
      simp only [sumG]
      omega
    · rw [if_neg h1, List.filter_cons_of_neg (by simpa using h1)]
      omega
theorem steps_taken {gs : List Ling} (h : ∀ x ∈ gs, 0 ≤ x.r ∧ x.r ≤ 1000000) (hl : gs.length ≤ 1000000) {now : Int} (h0 : 0 ≤ now) : takS (stepsOf gs) now = takG gs now := by
  unfold stepsOf
  rw [takS_del h0, steps_fold gs [] now (by simp) (by simp) h (by simp [sumS]; omega)]
  simp [takS]
/-- What Same calls the same has the same entries, and as much is taken. -/
theorem same_tells {es e2 : List En} {gs g2 : List Ling} (h1 : Fine es gs) (h2 : Fine e2 g2) (hn : (es.map En.i).Nodup) (h : (eqE es e2 && eqS (stepsOf gs) (stepsOf g2)) = true) {now : Int} (h0 : 0 ≤ now) : es.Perm e2 ∧ takG gs now = takG g2 now := by
  rw [Bool.and_eq_true] at h
  refine ⟨eqE_perm hn h.1, ?_⟩
  rw [← steps_taken h1.g h1.gl h0, ← steps_taken h2.g h2.gl h0]
  exact takS_perm (eqS_perm (steps_nodup gs) h.2) now
end Go.Proofs.Ytfnijjjfodpnnaa
