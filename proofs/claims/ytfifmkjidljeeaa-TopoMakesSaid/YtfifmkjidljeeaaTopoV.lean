/- Topo: the terms of a link. -/
import Derived.Test.YtfifmkjidljeeaaTopoL
import Derived.WalkMore
namespace Go.Proofs.Ytfifmkjidljeeaa
open Go.RowKit Go.Shelf
set_option linter.unusedVariables false
set_option linter.unusedSimpArgs false
/-- A number by another one, rounded up. -/
def upI (n d : Int) : Int := (n + d - 1) / d
theorem upI_two {n d : Int} (hn : 1 ≤ n) (hd : 1 ≤ d) : upI n d = if 0 < n % d then n / d + 1 else n / d := by
  unfold upI
  have h1 := Int.mul_ediv_add_emod n d
  have h2 := Int.emod_nonneg n (show d ≠ 0 by omega)
  have h3 := Int.emod_lt_of_pos n (show 0 < d by omega)
  generalize n / d = q at *
  generalize n % d = r at *
  split
  · have : n + d - 1 = (r - 1) + d * (q + 1) := by rw [← h1, Int.mul_add]; omega
    rw [this, Int.add_mul_ediv_left _ _ (show d ≠ 0 by omega), Int.ediv_eq_zero_of_lt (by omega) (by omega)]
    omega
  · have : n + d - 1 = (d - 1) + d * q := by rw [← h1]; omega
    rw [this, Int.add_mul_ediv_left _ _ (show d ≠ 0 by omega), Int.ediv_eq_zero_of_lt (by omega) (by omega)]
    omega
theorem upI_le {n d : Int} (hn : 1 ≤ n) (hd : 1 ≤ d) (hm : n ≤ 2000) : 0 ≤ upI n d ∧ upI n d ≤ 2000 := by
  unfold upI
  constructor
  · exact Int.ediv_nonneg (by omega) (by omega)
  · have h1 : n + d - 1 < 2001 * d := by
      have : n ≤ 2000 * d := by
        have := Int.mul_le_mul_of_nonneg_left hd (show (0:Int) ≤ 2000 by omega)
        omega
      omega
    have := Int.ediv_lt_of_lt_mul (show 0 < d by omega) h1
    omega
set_option maxHeartbeats 400000 in
theorem up_any (n d : Int) (w : World) (hn : 1 ≤ n) (hd : 1 ≤ d) (hm : n ≤ 2000) (hd2 : d ≤ 1000000) :
    Calls Try.prog 53 #[.int .i64 n, .int .i64 d] w fun e w' => e = .returned (.int .i64 (upI n d)) ∧ w = w' := by
  have hb := upI_le hn hd hm
  have hq : (n + d - 1).tdiv d = upI n d := by unfold upI; exact Int.tdiv_eq_ediv_of_nonneg (by omega)
  have hdz : (d == 0) = false := beq_eq_false_iff_ne.2 (by omega)
  have hdz2 : ¬ d = 0 := by omega
  generalize upI n d = u at *
  go_enter Try.func53, Try.ntmps53
  go_wp2
  go_ret
  exact ⟨rfl, rfl⟩
set_option maxHeartbeats 400000 in
theorem rup_any (n d : Int) (w : World) (hn : 1 ≤ n) (hd : 1 ≤ d) (hm : n ≤ 2000) (hd2 : d ≤ 1000000) :
    Calls Try.prog 48 #[.int .i64 n, .int .i64 d] w fun e w' => e = .returned (.int .i64 (upI n d)) ∧ w = w' := by
  have hb := upI_le hn hd hm
  have hu := upI_two hn hd
  have hq : n.tdiv d = n / d := Int.tdiv_eq_ediv_of_nonneg (by omega)
  have hr : n.tmod d = n % d := Int.tmod_eq_emod_of_nonneg (by omega)
  have hdz : (d == 0) = false := beq_eq_false_iff_ne.2 (by omega)
  have hdz2 : ¬ d = 0 := by omega
  have hq0 : 0 ≤ n / d := Int.ediv_nonneg (by omega) (by omega)
  by_cases h0 : 0 < n % d
  · rw [if_pos h0] at hu
    generalize upI n d = u at *
    generalize n / d = q at *
    generalize n % d = r at *
    subst hu
    go_enter Try.func48, Try.ntmps48
    go_wp2
    go_ret
    exact ⟨rfl, rfl⟩
  · rw [if_neg h0] at hu
    generalize upI n d = u at *
    generalize n / d = q at *
    generalize n % d = r at *
    subst hu
    go_enter Try.func48, Try.ntmps48
    go_wp2
    go_ret
    exact ⟨rfl, rfl⟩
set_option maxHeartbeats 400000 in
theorem within_b (n l m : Int) (w : World) :
    Calls Try.prog 52 #[.int .i64 n, .int .i64 l, .int .i64 m] w fun e w' => e = .returned (.bool (wi n l m)) ∧ w = w' := by
  unfold wi
  go_enter Try.func52, Try.ntmps52
  by_cases h1 : l ≤ n <;> by_cases h2 : n ≤ m
  all_goals
    go_wp2
    go_ret
    exact ⟨by simp [h1, h2], rfl⟩
/-- Terms: a longest packet, and how late. -/
def termsV (rate most far : Int) : Value := .agg #[.int .i64 most, .int .i64 (upI most rate + 1 + far)]
set_option maxHeartbeats 1000000 in
theorem blink_any (rate most far : Int) (w : World) (h1 : 1 ≤ rate) (h2 : rate ≤ 1000000) (h3 : 1 ≤ most) (h4 : most ≤ 2000) (h5 : 0 ≤ far) (h6 : far ≤ 1000) :
    Calls Try.prog 40 #[.int .i64 rate, .int .i64 most, .int .i64 far] w fun e w' => e = .returned (.tuple #[termsV rate most far, .int .i64 0]) ∧ Below w.heap.size w w' := by
  have hup := fun w => up_any most rate w h3 h1 h4 h2
  have hub := upI_le h3 h1 h4
  have w1 : wi rate 1 1000000 = true := by simp [wi]; omega
  have w2 : wi most 1 2000 = true := by simp [wi]; omega
  have w3 : wi far 0 100000 = true := by simp [wi]; omega
  unfold termsV
  generalize upI most rate = u at *
  go_enter Try.func40, Try.ntmps40
  go_wp2_with fail
  refine wp_scope_straight ?_
  go_wp2_with (first | (go_at_call 52; refine (within_b _ _ _ _).mono ?_; rintro e w' ⟨rfl, rfl⟩) | (go_at_call 53; refine (hup _).mono ?_; rintro e w' ⟨rfl, rfl⟩))
  rw [Exit.noGoto_ret]
  exact bodyPost_ret (v := .tuple #[.agg #[.int .i64 most, .int .i64 (u + 1 + far)], .int .i64 0]) (by simp [results, Try.results40, go_sem]) rfl ⟨rfl, bl_alloc (Below.refl _ _) _⟩
set_option maxHeartbeats 1000000 in
theorem rlink_any (rate most far : Int) (w : World) (h1 : 1 ≤ rate) (h2 : rate ≤ 1000000) (h3 : 1 ≤ most) (h4 : most ≤ 2000) (h5 : 0 ≤ far) (h6 : far ≤ 1000) :
    Calls Try.prog 34 #[.int .i64 rate, .int .i64 most, .int .i64 far] w fun e w' => e = .returned (.tuple #[termsV rate most far, .bool true]) ∧ Below w.heap.size w w' := by
  have hup := fun w => rup_any most rate w h3 h1 h4 h2
  have hub := upI_le h3 h1 h4
  have w3 : far ≤ 100000 := by omega
  unfold termsV
  generalize upI most rate = u at *
  go_enter Try.func34, Try.ntmps34
  go_wp2_with (go_at_call 48; refine (hup _).mono ?_; rintro e w' ⟨rfl, rfl⟩)
  exact bodyPost_ret (v := .tuple #[.agg #[.int .i64 most, .int .i64 (u + 1 + far)], .bool true]) (by simp [results, Try.results34, go_sem]) rfl ⟨rfl, bl_alloc (Below.refl _ _) _⟩
set_option maxHeartbeats 1000000 in
theorem terms_yes (q : Nat) (nodes : Int) (ls : List Lk) (n : Nat) (l : Lk) (w : World) (h : TMap w q nodes ls) (hn : ls[n]? = some l) (hok : okLink l nodes = true) :
    Calls Try.prog 24 #[.pointer (some ⟨q, 0, none⟩), .int .i64 n] w fun e w' => e = .returned (.tuple #[termsV l.c l.f l.e, .int .i64 0]) ∧ Below w.heap.size w w' := by
  rw [right_ok] at hok
  simp only [rightB, decide_eq_true_eq] at hok
  have hbl := fun w => blink_any l.c l.f l.e w (by omega) (by omega) (by omega) (by omega) (by omega) (by omega)
  have H := Lib.hid h
  have HN := Lib.hid hn
  clear h hn hok
  unfold termsV at hbl ⊢
  generalize upI l.f l.c + 1 + l.e = u at *
  go_enter Try.func24, Try.ntmps24
  go_wp2_with fail
  refine (link_yes q nodes ls n l _ (H.out.below (bl_alloc (Below.refl _ _) _)) HN.out).mono ?_
  rintro e w1 ⟨rfl, hb⟩
  have hz : w.heap.size < w1.heap.size := by have := hb.size; simp at this; omega
  have c0 : w1.cell? ⟨w.heap.size, 0, none⟩ = some (.int .i64 0) := bl_cell hb (by go_simp)
  have c1 : w1.cell? ⟨w.heap.size, 1, none⟩ = some (.int .i64 0) := bl_cell hb (by go_simp)
  have f0 : w1.frozen? ⟨w.heap.size, 0, none⟩ = false := ((bl_cells hb).2 _ _ (by simp)).trans (by go_simp)
  have f1 : w1.frozen? ⟨w.heap.size, 1, none⟩ = false := ((bl_cells hb).2 _ _ (by simp)).trans (by go_simp)
  have HB := Lib.hid hb
  clear hb
  unfold Lk.val
  go_wp2_with fail
  have k0 : (w1.alloc (.cells #[.int .i64 l.a, .int .i64 l.b, .int .i64 l.c, .int .i64 l.d, .int .i64 l.e, .int .i64 l.f, .int .i64 l.g, .int .i64 l.h] 23)).cell? ⟨w.heap.size, 0, none⟩ = some (.int .i64 0) := by go_simp
  refine (hbl _).mono ?_
  rintro e w2 ⟨rfl, hb2⟩
  have d0 : w2.cell? ⟨w.heap.size, 0, none⟩ = some (.int .i64 0) := bl_cell hb2 (by go_simp)
  have d1 : w2.cell? ⟨w.heap.size, 1, none⟩ = some (.int .i64 0) := bl_cell hb2 (by go_simp)
  have g0 : w2.frozen? ⟨w.heap.size, 0, none⟩ = false := ((bl_cells hb2).2 _ _ (by simp; omega)).trans (by go_simp)
  have g1 : w2.frozen? ⟨w.heap.size, 1, none⟩ = false := ((bl_cells hb2).2 _ _ (by simp; omega)).trans (by go_simp)
  have HB2 := Lib.hid hb2
  clear hb2 k0
  go_wp2_with fail
  refine bodyPost_ret (v := .tuple #[.agg #[.int .i64 l.f, .int .i64 u], .int .i64 0]) (by simp [results, Try.results24, go_sem, d0, d1]) rfl ⟨rfl, ?_⟩
  have h1 : Below w.heap.size w w1 := (bl_alloc (Below.refl w.heap.size w) (.cells #[.int .i64 0, .int .i64 0] 61)).trans (HB.out.mono (by simp))
  exact bl_set (bl_set (bl_then (bl_alloc h1 _) HB2.out) (by simp) _) (by simp) _
end Go.Proofs.Ytfifmkjidljeeaa
