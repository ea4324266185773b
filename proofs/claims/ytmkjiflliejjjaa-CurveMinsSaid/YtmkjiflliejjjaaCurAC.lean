/- Curve: CurveSums. -/
import Derived.Test.YtmkjiflliejjjaaCurAB
namespace Go.Proofs.Ytmkjiflliejjjaa
open Go.RowKit Go.Shelf Go.Sort
set_option linter.unusedVariables false
set_option linter.unusedSimpArgs false
attribute [local go_sem] Oper.semAt_some
theorem sums_mem {a b : List Ln} {z : Ln} : z ∈ sumsL a b ↔ ∃ x ∈ a, ∃ y ∈ b, z = sumI x y := by
  unfold sumsL
  simp only [List.mem_flatMap, List.mem_map]
  exact ⟨fun ⟨x, hx, y, hy, e⟩ => ⟨x, hx, y, hy, e.symm⟩, fun ⟨x, hx, y, hy, e⟩ => ⟨x, hx, y, hy, e.symm⟩⟩
theorem sums_ne {a b : List Ln} (ha : a ≠ []) (hb : b ≠ []) : sumsL a b ≠ [] := by
  obtain ⟨x, hx⟩ := List.exists_mem_of_ne_nil _ ha
  obtain ⟨y, hy⟩ := List.exists_mem_of_ne_nil _ hb
  intro e
  have := sums_mem.2 ⟨x, hx, y, hy, rfl⟩
  rw [e] at this
  cases this
theorem sums_len (a b : List Ln) : (sumsL a b).length = a.length * b.length := by
  unfold sumsL
  induction a with
  | nil => simp
  | cons x a ih => rw [List.flatMap_cons, List.length_append, ih, List.length_map, List.length_cons, Nat.succ_mul, Nat.add_comm]
theorem ht_sum (x y : Ln) (n d : Int) : ht (sumI x y) n d = ht x n d + ht y n d := by
  unfold ht sumI
  simp only
  rw [Int.add_mul, Int.add_mul]
  omega
theorem htC_sums {a b : List Ln} (ha : a ≠ []) (hb : b ≠ []) (n d : Int) : htC (sumsL a b) n d = htC a n d + htC b n d := by
  obtain ⟨x, hx, e1⟩ := htC_mem ha n d
  obtain ⟨y, hy, e2⟩ := htC_mem hb n d
  obtain ⟨z, hz, e3⟩ := htC_mem (sums_ne ha hb) n d
  have h1 := htC_le (n := n) (d := d) (sums_mem.2 ⟨x, hx, y, hy, rfl⟩)
  rw [ht_sum] at h1
  obtain ⟨x', hx', y', hy', rfl⟩ := sums_mem.1 hz
  rw [ht_sum] at e3
  have h2 := htC_le (n := n) (d := d) hx'
  have h3 := htC_le (n := n) (d := d) hy'
  omega
theorem low_twice {a : List Ln} (h : NormI a) : lowL (a ++ a) = a := (low_one h (fun x hx => List.mem_append_left _ hx) (fun y hy n d _ _ => ⟨y, by simpa using hy, Int.le_refl _⟩)).symm
/-- The last line's rate is the least. -/
theorem last_least {c : List Ln} (h : NormI c) {l : Ln} (hl : c[c.length - 1]? = some l) : ∀ z ∈ c, l.r ≤ z.r := fun z hz => by
  obtain ⟨i, hi⟩ := List.getElem?_of_mem hz
  have hlt := (List.getElem?_eq_some_iff.1 hi).1
  by_cases e : i = c.length - 1
  · subst e; rw [hl] at hi; cases hi; exact Int.le_refl _
  · exact Int.le_of_lt (h.lt (c.length - 1 - i - 1) i z l hi (by rw [← hl]; congr 1; omega)).2
theorem slow_sum {a b : List Ln} (ha : NormI a) (hb : NormI b) (hma : ∀ l ∈ a, mayB l = true) (hmb : ∀ l ∈ b, mayB l = true) {p q r : Ln} (hp : a[a.length - 1]? = some p) (hq : b[b.length - 1]? = some q)
    (hr : (lowL (sumsL a b))[(lowL (sumsL a b)).length - 1]? = some r) : r.r = p.r + q.r := by
  have hpa := List.mem_of_getElem? hp
  have hqb := List.mem_of_getElem? hq
  have hrm := low_mem (lowL_is _) r (List.mem_of_getElem? hr)
  obtain ⟨x, hx, y, hy, e⟩ := sums_mem.1 hrm
  have h1 := last_least ha hp x hx
  have h2 := last_least hb hq y hy
  have hge : p.r + q.r ≤ r.r := by rw [e]; unfold sumI; simp only; omega
  have hS := sums_mem.2 ⟨p, hpa, q, hqb, rfl⟩
  have hpb := hma p hpa
  have hqb' := hmb q hqb
  simp only [mayB, inB, Bool.and_eq_true, decide_eq_true_eq] at hpb hqb'
  obtain ⟨u, hu, hle⟩ := low_dom (lowL_is (sumsL a b)) _ hS (p.b + q.b + 1) 1 (by omega) (by omega)
  have hur := last_least (lowL_norm _) hr u hu
  obtain ⟨x', hx', y', hy', e'⟩ := sums_mem.1 (low_mem (lowL_is _) u hu)
  have hx'' := hma x' hx'
  have hy'' := hmb y' hy'
  simp only [mayB, inB, Bool.and_eq_true, decide_eq_true_eq] at hx'' hy''
  refine Int.le_antisymm (Int.le_trans hur ?_) hge
  refine Int.not_lt.1 fun hlt => ?_
  have hub : 0 ≤ u.b := by rw [e']; unfold sumI; simp only; omega
  unfold ht sumI at hle
  simp only [Int.mul_one] at hle
  have h3 : (p.r + q.r + 1) * (p.b + q.b + 1) ≤ u.r * (p.b + q.b + 1) := Int.mul_le_mul_of_nonneg_right hlt (by omega)
  rw [Int.add_mul] at h3
  omega
theorem sum_two {va vb : Value} {a b : List Ln} {W : World} {V : Value} (h : CvsAt W V [(va, a), (vb, b)]) (ha : okC a = true) (hb : okC b = true) (hl : a.length ≤ 8) (hl2 : b.length ≤ 8) :
    Calls Try.prog 29 #[V] W fun e w' => ((madeB (sumsL a b) = true ∧ okC (lowL (sumsL a b)) = true ∧ ∃ v', e = .returned (.tuple #[v', .int .i64 0]) ∧ SAt Ln.cells 2 w' v' (lowL (sumsL a b))) ∨ e = .returned (.tuple #[.slice none 0 0, .int .i64 3])) ∧ Below W.heap.size W w' := by
  have hll : (lowL (sumsL a b)).length ≤ 64 := Nat.le_trans (low_len (lowL_is _)) (by rw [sums_len]; exact Nat.mul_le_mul hl hl2)
  have h1 : sumAt a [(vb, b)] 1 = lowL (sumsL a b) := by rw [sumAt_succ (p := (vb, b)) rfl, sumAt_zero]
  have hk : ∀ k, sumAt a [(vb, b)] k = a ∨ sumAt a [(vb, b)] k = lowL (sumsL a b) := fun k => by
    cases k with
    | zero => exact .inl (sumAt_zero _ _)
    | succ k => refine .inr ?_; rw [← h1]; simp [sumAt]
  refine (sum_yes V (va, a) [(vb, b)] W h (by rw [right_two, ha, hb]; rfl) (fun k p hp => ?_) (fun k => ?_)).mono fun e w' hh => ?_
  · have : p = (vb, b) := by cases k <;> simp at hp; exact hp.symm
    subst this
    have h8 : (sumAt a [(vb, b)] k).length ≤ 64 := by rcases hk k with h | h <;> rw [h] <;> omega
    exact Nat.le_trans (Nat.mul_le_mul h8 hl2) (by decide)
  · rcases hk k with h | h <;> simp only [h] <;> omega
  · rcases hh with ⟨k, hk, hf, he, hb⟩ | ⟨ht, hm⟩
    · exact ⟨.inr he, hb⟩
    · simp only [List.length_cons, List.length_nil, Nat.zero_add] at hm
      rw [h1] at hm
      have hidem : lowL (lowL (sumsL a b)) = lowL (sumsL a b) := (low_one (lowL_norm _) (fun x hx => hx) (dom_self _)).symm
      have hmadeq : madeB (lowL (sumsL a b)) = madeB (sumsL a b) := by unfold madeB; rw [hidem]
      obtain ⟨⟨hmb, v', he, hs⟩ | ⟨hmb, he⟩, hb⟩ := hm
      · rw [hidem] at hs
        rw [hmadeq] at hmb
        exact ⟨.inl ⟨hmb, made_ok hmb, v', he, hs⟩, hb⟩
      · exact ⟨.inr he, hb⟩
set_option maxRecDepth 100000 in
set_option maxHeartbeats 8000000 in
theorem curveSums_any (va vb : Value) (a b : List Ln) (t : Int) (w : World) (ha : SAt Ln.cells 2 w va a) (hb : SAt Ln.cells 2 w vb b) :
    Calls Try.prog 10 #[va, vb, .int .i64 t] w fun e w' => e = .returned (.bool true) ∧ Below w.heap.size w w' := by
  have hlm := ha.len
  have hlm2 := hb.len
  unfold maxLen at hlm hlm2
  have HA := Lib.hid ha
  have HB2 := Lib.hid hb
  have hcv : ∀ W T, Below w.heap.size w W → CvsAt (W.alloc (.cells #[va, va] T)) (.slice (some ⟨W.heap.size, 0, none⟩) 2 2) [(va, a), (va, a)] := fun W T hW => cvs_new W _ T rfl rfl rfl (by simp [Cv.cells]) (by simp [maxLen]) (by simpa using ha.below hW)
  have hcv2 : ∀ W T, Below w.heap.size w W → CvsAt (W.alloc (.cells #[va, vb] T)) (.slice (some ⟨W.heap.size, 0, none⟩) 2 2) [(va, a), (vb, b)] := fun W T hW => cvs_new W _ T rfl rfl rfl (by simp [Cv.cells]) (by simp [maxLen]) (by simpa using ⟨ha.below hW, hb.below hW⟩)
  have HCV := Lib.hid (And.intro hcv hcv2)
  have hca := fun W hW => check_any va a W (ha.below hW)
  have hcb := fun W hW => check_any vb b W (hb.below hW)
  obtain ⟨A, c, rfl⟩ := ha.slice
  obtain ⟨B, cb, rfl⟩ := hb.slice
  clear ha hb hcv hcv2
  obtain ⟨R, hR⟩ : ∃ R : Ending → World → Prop, R = fun e w' => e = .returned (.bool true) ∧ Below w.heap.size w w' := ⟨_, rfl⟩
  rw [← hR]
  have HR := Lib.hid hR
  clear hR
  have HB : Hid (Below w.heap.size w w) := Lib.hid (Below.refl _ _)
  by_cases h1 : a.length ≤ 8
  rotate_left 1
  · have h1z : (8 : Int) < (a.length : Int) := by omega
    clear HA HB2 HCV hca hcb
    go_enter Try.func10, Try.ntmps10
    go_wp2_with (go_at_call 11; (with_reducible refine (known_any _).mono ?_); rintro e w' ⟨rfl, hb⟩; replace HB := Lib.hid (bl_then HB.out hb); clear hb)
    all_goals (rw [HR.out]; exact ⟨rfl, HB.out⟩)
  have h1z : ¬ (8 : Int) < (a.length : Int) := by omega
  by_cases h2 : b.length ≤ 8
  rotate_left 1
  · have h2z : (8 : Int) < (b.length : Int) := by omega
    clear HA HB2 HCV hca hcb
    go_enter Try.func10, Try.ntmps10
    go_wp2_with (go_at_call 11; (with_reducible refine (known_any _).mono ?_); rintro e w' ⟨rfl, hb⟩; replace HB := Lib.hid (bl_then HB.out hb); clear hb)
    all_goals (rw [HR.out]; exact ⟨rfl, HB.out⟩)
  have h2z : ¬ (8 : Int) < (b.length : Int) := by omega
  cases hoa : okC a with
  | false =>
    rw [hoa] at hca
    simp only [Bool.false_eq_true, if_false] at hca
    have HC1 := Lib.hid hca
    clear hca hcb HCV hoa
    go_enter Try.func10, Try.ntmps10
    go_wp2_with (first | (go_at_call 16; (with_reducible refine (HC1.out _ HB.out).mono ?_); rintro e w' ⟨rfl, hb⟩; replace HB := Lib.hid (bl_then HB.out hb); clear hb) | (go_at_call 11; (with_reducible refine (known_any _).mono ?_); rintro e w' ⟨rfl, hb⟩; replace HB := Lib.hid (bl_then HB.out hb); clear hb))
    all_goals (rw [HR.out]; exact ⟨rfl, HB.out⟩)
  | true =>
  rw [hoa] at hca
  simp only [if_true] at hca
  cases hob : okC b with
  | false =>
    rw [hob] at hcb
    simp only [Bool.false_eq_true, if_false] at hcb
    have HC1 := Lib.hid hca
    have HC2 := Lib.hid hcb
    clear hca hcb HCV hoa hob
    go_enter Try.func10, Try.ntmps10
    go_wp2_with (first | (go_at_call 16; (with_reducible refine (HC1.out _ HB.out).mono ?_); rintro e w' ⟨rfl, hb⟩; replace HB := Lib.hid (bl_then HB.out hb); clear hb) | (go_at_call 16; (with_reducible refine (HC2.out _ HB.out).mono ?_); rintro e w' ⟨rfl, hb⟩; replace HB := Lib.hid (bl_then HB.out hb); clear hb) | (go_at_call 11; (with_reducible refine (known_any _).mono ?_); rintro e w' ⟨rfl, hb⟩; replace HB := Lib.hid (bl_then HB.out hb); clear hb))
    all_goals (rw [HR.out]; exact ⟨rfl, HB.out⟩)
  | true =>
  rw [hob] at hcb
  simp only [if_true] at hcb
  have HC1 := Lib.hid hca
  have HC2 := Lib.hid hcb
  clear hca hcb
  by_cases g0 : t < 0
  · clear HCV hoa hob
    go_enter Try.func10, Try.ntmps10
    go_wp2_with (first | (go_at_call 16; (with_reducible refine (HC1.out _ HB.out).mono ?_); rintro e w' ⟨rfl, hb⟩; replace HB := Lib.hid (bl_then HB.out hb); clear hb) | (go_at_call 16; (with_reducible refine (HC2.out _ HB.out).mono ?_); rintro e w' ⟨rfl, hb⟩; replace HB := Lib.hid (bl_then HB.out hb); clear hb) | (go_at_call 11; (with_reducible refine (known_any _).mono ?_); rintro e w' ⟨rfl, hb⟩; replace HB := Lib.hid (bl_then HB.out hb); clear hb))
    all_goals (rw [HR.out]; exact ⟨rfl, HB.out⟩)
  by_cases g1 : (1000000 : Int) < t
  · clear HCV hoa hob
    go_enter Try.func10, Try.ntmps10
    go_wp2_with (first | (go_at_call 16; (with_reducible refine (HC1.out _ HB.out).mono ?_); rintro e w' ⟨rfl, hb⟩; replace HB := Lib.hid (bl_then HB.out hb); clear hb) | (go_at_call 16; (with_reducible refine (HC2.out _ HB.out).mono ?_); rintro e w' ⟨rfl, hb⟩; replace HB := Lib.hid (bl_then HB.out hb); clear hb) | (go_at_call 11; (with_reducible refine (known_any _).mono ?_); rintro e w' ⟨rfl, hb⟩; replace HB := Lib.hid (bl_then HB.out hb); clear hb))
    all_goals (rw [HR.out]; exact ⟨rfl, HB.out⟩)
  have i0 : 0 ≤ t := by omega
  have i1 : t ≤ 1000000 := by omega
  obtain ⟨ha1, ha2, ha3, ha4⟩ := okC_may hoa
  obtain ⟨hb1, hb2, hb3, hb4⟩ := okC_may hob
  have hna := norm_idx.1 ha4
  have hnb := norm_idx.1 hb4
  have hit : inB t 2147483647 = true := by simp [inB]; omega
  have hmade : madeB (a ++ a) = true := made_le (fun l hl => ha2 l (by simpa using hl)) (by simp [ha1]) (by simp; omega)
  have HMIN : Hid (∀ W T, Below w.heap.size w W → Calls Try.prog 25 #[.slice (some ⟨W.heap.size, 0, none⟩) 2 2] (W.alloc (.cells #[.slice A a.length c, .slice A a.length c] T)) fun e w' => (∃ v', e = .returned (.tuple #[v', .int .i64 0]) ∧ SAt Ln.cells 2 w' v' a) ∧ Below W.heap.size W w') := Lib.hid fun W T hW => (min_any _ _ _ (HCV.out.1 W T hW) (by rw [all_two]; simp; omega)).mono fun e w' hh => by
    rw [right_two, all_two] at hh
    rcases hh with ⟨h, -⟩ | ⟨-, h⟩
    · rw [hoa] at h; cases h
    · obtain ⟨⟨-, h⟩ | ⟨h, -⟩, hb⟩ := h
      · rw [low_twice hna] at h; exact ⟨h, bl_then (bl_alloc (Below.refl _ _) _) hb⟩
      · rw [hmade] at h; cases h
  have HSAA := Lib.hid fun W T (hW : Below w.heap.size w W) => (sum_two (HCV.out.1 W T hW) hoa hoa h1 h1).mono (fun e w' hh => And.intro hh.1 (bl_then (bl_alloc (Below.refl _ _) _) hh.2))
  have HSAB := Lib.hid fun W T (hW : Below w.heap.size w W) => (sum_two (HCV.out.2 W T hW) hoa hob h1 h2).mono (fun e w' hh => And.intro hh.1 (bl_then (bl_alloc (Below.refl _ _) _) hh.2))
  have HAT := Lib.hid fun W (hW : Below w.heap.size w W) => at_yes _ a t W (HA.out.below hW) hoa hit
  have hl0 : 0 < a.length := List.length_pos_iff.2 ha1
  have hl1 : 0 < b.length := List.length_pos_iff.2 hb1
  obtain ⟨p, hp⟩ : ∃ p, a[a.length - 1]? = some p := ⟨_, List.getElem?_eq_getElem (by omega)⟩
  obtain ⟨q, hq⟩ : ∃ q, b[b.length - 1]? = some q := ⟨_, List.getElem?_eq_getElem (by omega)⟩
  have HSP := Lib.hid fun W (hW : Below w.heap.size w W) => slowest_yes _ a p W (HA.out.below hW) hoa hp
  have HSQ := Lib.hid fun W (hW : Below w.heap.size w W) => slowest_yes _ b q W (HB2.out.below hW) hob hq
  have hslow := fun (r : Ln) hr => slow_sum hna hnb ha2 hb2 hp hq (r := r) hr
  have hax : atC (lowL (sumsL a a)) t = 2 * atC a t := by
    rw [← htC_one, low_env (sums_ne ha1 ha1) i0 (by omega), htC_sums ha1 ha1, htC_one]
    omega
  have hxr : 0 ≤ atC a t ∧ atC a t ≤ 2147483648000000000 := by
    rw [← htC_one]
    obtain ⟨z, hz, e⟩ := htC_mem ha1 t 1
    have := at_fits (ha2 z hz) i0 (by omega)
    rw [e, ht_one]
    exact this.2
  have hpm := ha2 p (List.mem_of_getElem? hp)
  have hqm := hb2 q (List.mem_of_getElem? hq)
  simp only [mayB, inB, Bool.and_eq_true, decide_eq_true_eq] at hpm hqm
  have hpr : 0 ≤ p.r ∧ p.r ≤ 1000000000 := hpm.2
  have hqr : 0 ≤ q.r ∧ q.r ≤ 1000000000 := hqm.2
  have HSL := Lib.hid hslow
  have HIT := Lib.hid hit
  have HAX := Lib.hid hax
  clear ha1 ha2 ha3 ha4 hb1 hb2 hb3 hb4 hna hnb hit hmade hoa hob hp hq hslow hax hpm hqm HCV hl0 hl1
  obtain ⟨hx1, hx2⟩ := hxr
  obtain ⟨hp1, hp2⟩ := hpr
  obtain ⟨hq1, hq2⟩ := hqr
  generalize lowL (sumsL a a) = s at *
  generalize lowL (sumsL a b) = u at *
  generalize hx : atC a t = x at *
  clear hx
  have k1 : IntKind.i64.wrap (2 * x) = 2 * x := by rw [IntWalk.i64_in _ (by omega)]
  have k2 : IntKind.i64.wrap (p.r + q.r) = p.r + q.r := by rw [IntWalk.i64_in _ (by omega)]
  go_enter Try.func10, Try.ntmps10
  go_wp2_with (first | (go_at_call 16; (with_reducible refine (HC1.out _ HB.out).mono ?_); rintro e w' ⟨rfl, hb⟩; replace HB := Lib.hid (bl_then HB.out hb); clear hb) | (go_at_call 16; (with_reducible refine (HC2.out _ HB.out).mono ?_); rintro e w' ⟨rfl, hb⟩; replace HB := Lib.hid (bl_then HB.out hb); clear hb))
  refine (HMIN.out _ _ HB.out).mono ?_
  rintro e w1 ⟨⟨v1, rfl, hs1⟩, hb1⟩
  have hsa := fun W (hW : Below w1.heap.size w1 W) (hW2 : Below w.heap.size w W) => rsame_any _ _ a a W (hs1.below hW) (HA.out.below hW2)
  rw [show decide (a = a) = true by simp] at hsa
  obtain ⟨A1, c1, rfl⟩ := hs1.slice
  have HSM := Lib.hid hsa
  replace HB := Lib.hid (bl_then HB.out hb1)
  have HB' : Hid (Below w1.heap.size w1 w1) := Lib.hid (Below.refl _ _)
  clear hs1 hb1 hsa HMIN
  go_wp2_with fail
  refine (HSAA.out _ _ HB.out).mono ?_
  rintro e w2 ⟨hs2, hb2⟩
  obtain ⟨v2, en, zs, rfl, hz, hcase⟩ : ∃ v' en zs, e = .returned (.tuple #[v', .int .i64 en]) ∧ SAt Ln.cells 2 w2 v' zs ∧ ((en = 0 ∧ zs = s ∧ okC s = true) ∨ en = 3) := by
    rcases hs2 with ⟨-, hok, v', rfl, hs⟩ | rfl
    · exact ⟨v', 0, _, rfl, hs, .inl ⟨rfl, rfl, hok⟩⟩
    · exact ⟨_, 3, [], rfl, SAt.nil, .inr rfl⟩
  replace HB := Lib.hid (bl_then HB.out hb2)
  replace HB' := Lib.hid (bl_then HB'.out hb2)
  have HB2' : Hid (Below w2.heap.size w2 w2) := Lib.hid (Below.refl _ _)
  have HZ := Lib.hid hz
  obtain ⟨A2, c2, rfl⟩ := hz.slice
  have HCASE := Lib.hid hcase
  clear hs2 hb2 hz hcase HSAA
  have hrest : ∀ W, Below w.heap.size w W → True := fun _ _ => trivial
  rcases HCASE.out with ⟨rfl, rfl, hok⟩ | rfl
  · have HAS := Lib.hid fun W (hW : Below w2.heap.size w2 W) => at_yes _ zs t W (HZ.out.below hW) hok HIT.out
    rw [HAX.out] at HAS
    clear HCASE hok hrest
    go_wp2_with (first | (go_at_call 22; (with_reducible refine (HAT.out _ HB.out).mono ?_); rintro e w' ⟨rfl, hb⟩; replace HB := Lib.hid (bl_then HB.out hb); replace HB' := Lib.hid (bl_then HB'.out hb); replace HB2' := Lib.hid (bl_then HB2'.out hb); clear hb) | (go_at_call 21; (with_reducible refine (HSM.out _ HB'.out HB.out).mono ?_); rintro e w' ⟨rfl, hb⟩; replace HB := Lib.hid (bl_then HB.out hb); replace HB' := Lib.hid (bl_then HB'.out hb); replace HB2' := Lib.hid (bl_then HB2'.out hb); clear hb) | (go_at_call 22; (with_reducible refine (HAS.out _ HB2'.out).mono ?_); rintro e w' ⟨rfl, hb⟩; replace HB := Lib.hid (bl_then HB.out hb); replace HB' := Lib.hid (bl_then HB'.out hb); replace HB2' := Lib.hid (bl_then HB2'.out hb); clear hb))
    refine (HSAB.out _ _ HB.out).mono ?_
    rintro e w5 ⟨hs5, hb5⟩
    replace HB := Lib.hid (bl_then HB.out hb5)
    rcases hs5 with ⟨-, hok, v', rfl, hs⟩ | rfl
    · obtain ⟨r, hr⟩ : ∃ r, u[u.length - 1]? = some r := ⟨_, List.getElem?_eq_getElem (by have := List.length_pos_iff.2 (okC_may hok).1; omega)⟩
      have HSR := Lib.hid fun W (hW : Below w5.heap.size w5 W) => slowest_yes _ u r W (hs.below hW) hok hr
      rw [HSL.out r hr] at HSR
      obtain ⟨A5, c5, rfl⟩ := hs.slice
      have HB5 : Hid (Below w5.heap.size w5 w5) := Lib.hid (Below.refl _ _)
      clear hs hb5 hok hr
      go_wp2_with (first | (go_at_call 23; (with_reducible refine (HSP.out _ HB.out).mono ?_); rintro e w' ⟨rfl, hb⟩; replace HB := Lib.hid (bl_then HB.out hb); replace HB5 := Lib.hid (bl_then HB5.out hb); clear hb) | (go_at_call 23; (with_reducible refine (HSQ.out _ HB.out).mono ?_); rintro e w' ⟨rfl, hb⟩; replace HB := Lib.hid (bl_then HB.out hb); replace HB5 := Lib.hid (bl_then HB5.out hb); clear hb) | (go_at_call 23; (with_reducible refine (HSR.out _ HB5.out).mono ?_); rintro e w' ⟨rfl, hb⟩; replace HB := Lib.hid (bl_then HB.out hb); replace HB5 := Lib.hid (bl_then HB5.out hb); clear hb) | (go_at_call 11; (with_reducible refine (known_any _).mono ?_); rintro e w' ⟨rfl, hb⟩; replace HB := Lib.hid (bl_then HB.out hb); replace HB5 := Lib.hid (bl_then HB5.out hb); clear hb))
      all_goals (rw [HR.out]; exact ⟨rfl, HB.out⟩)
    · clear hb5
      go_wp2_with (go_at_call 11; (with_reducible refine (known_any _).mono ?_); rintro e w' ⟨rfl, hb⟩; replace HB := Lib.hid (bl_then HB.out hb); clear hb)
      all_goals (rw [HR.out]; exact ⟨rfl, HB.out⟩)
  · clear HCASE hrest
    go_wp2_with (first | (go_at_call 22; (with_reducible refine (HAT.out _ HB.out).mono ?_); rintro e w' ⟨rfl, hb⟩; replace HB := Lib.hid (bl_then HB.out hb); replace HB' := Lib.hid (bl_then HB'.out hb); replace HB2' := Lib.hid (bl_then HB2'.out hb); clear hb) | (go_at_call 21; (with_reducible refine (HSM.out _ HB'.out HB.out).mono ?_); rintro e w' ⟨rfl, hb⟩; replace HB := Lib.hid (bl_then HB.out hb); replace HB' := Lib.hid (bl_then HB'.out hb); replace HB2' := Lib.hid (bl_then HB2'.out hb); clear hb))
    refine (HSAB.out _ _ HB.out).mono ?_
    rintro e w5 ⟨hs5, hb5⟩
    replace HB := Lib.hid (bl_then HB.out hb5)
    rcases hs5 with ⟨-, hok, v', rfl, hs⟩ | rfl
    · obtain ⟨r, hr⟩ : ∃ r, u[u.length - 1]? = some r := ⟨_, List.getElem?_eq_getElem (by have := List.length_pos_iff.2 (okC_may hok).1; omega)⟩
      have HSR := Lib.hid fun W (hW : Below w5.heap.size w5 W) => slowest_yes _ u r W (hs.below hW) hok hr
      rw [HSL.out r hr] at HSR
      obtain ⟨A5, c5, rfl⟩ := hs.slice
      have HB5 : Hid (Below w5.heap.size w5 w5) := Lib.hid (Below.refl _ _)
      clear hs hb5 hok hr
      go_wp2_with (first | (go_at_call 23; (with_reducible refine (HSP.out _ HB.out).mono ?_); rintro e w' ⟨rfl, hb⟩; replace HB := Lib.hid (bl_then HB.out hb); replace HB5 := Lib.hid (bl_then HB5.out hb); clear hb) | (go_at_call 23; (with_reducible refine (HSQ.out _ HB.out).mono ?_); rintro e w' ⟨rfl, hb⟩; replace HB := Lib.hid (bl_then HB.out hb); replace HB5 := Lib.hid (bl_then HB5.out hb); clear hb) | (go_at_call 23; (with_reducible refine (HSR.out _ HB5.out).mono ?_); rintro e w' ⟨rfl, hb⟩; replace HB := Lib.hid (bl_then HB.out hb); replace HB5 := Lib.hid (bl_then HB5.out hb); clear hb) | (go_at_call 11; (with_reducible refine (known_any _).mono ?_); rintro e w' ⟨rfl, hb⟩; replace HB := Lib.hid (bl_then HB.out hb); replace HB5 := Lib.hid (bl_then HB5.out hb); clear hb))
      all_goals (rw [HR.out]; exact ⟨rfl, HB.out⟩)
    · clear hb5
      go_wp2_with (go_at_call 11; (with_reducible refine (known_any _).mono ?_); rintro e w' ⟨rfl, hb⟩; replace HB := Lib.hid (bl_then HB.out hb); clear hb)
      all_goals (rw [HR.out]; exact ⟨rfl, HB.out⟩)
end Go.Proofs.Ytmkjiflliejjjaa
