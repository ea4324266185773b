/- Curve: CurveSpecs. -/
import Derived.Test.YtmkjiflliejjjaaCurAC
import Derived.Test.YtmkjiflliejjjaaTsp
namespace Go.Proofs.Ytmkjiflliejjjaa
open Go.RowKit Go.Shelf Go.Sort
set_option linter.unusedVariables false
set_option linter.unusedSimpArgs false
attribute [local go_sem] Oper.semAt_some
set_option maxRecDepth 100000 in
set_option maxHeartbeats 2000000 in
theorem r2right_any (s : Sp) (w : World) :
    Calls Try.prog 27 #[.agg #[.int .i64 s.peak, .int .i64 s.rate, .int .i64 s.burst, .int .i64 s.most, .int .i64 s.least]] w fun e w' => e = .returned (.bool (okSp s)) ∧ Below w.heap.size w w' := by
  have hiff := okSp_iff s
  generalize okSp s = q at *
  by_cases h1 : 1 ≤ s.rate ∧ s.rate ≤ s.peak ∧ s.peak ≤ 1000000 ∧ 1 ≤ s.least ∧ s.least ≤ s.most ∧ s.most ≤ 2000 ∧ s.most ≤ s.burst ∧ s.burst ≤ 10000000
  · obtain rfl : q = true := hiff.2 h1
    obtain ⟨a1, a2, a3, a4, a5, a6, a7, a8⟩ := h1
    clear hiff
    go_enter Try.func27, Try.ntmps27
    go_wp2
    go_ret
    exact ⟨rfl, bl_alloc (Below.refl _ _) _⟩
  · obtain rfl : q = false := by cases q; rfl; exact absurd (hiff.1 rfl) h1
    clear hiff
    by_cases a1 : 1 ≤ s.rate
    rotate_left 1
    · go_enter Try.func27, Try.ntmps27
      go_wp2
      go_ret
      exact ⟨rfl, bl_alloc (Below.refl _ _) _⟩
    by_cases a2 : s.rate ≤ s.peak
    rotate_left 1
    · go_enter Try.func27, Try.ntmps27
      go_wp2
      go_ret
      exact ⟨rfl, bl_alloc (Below.refl _ _) _⟩
    by_cases a3 : s.peak ≤ 1000000
    rotate_left 1
    · go_enter Try.func27, Try.ntmps27
      go_wp2
      go_ret
      exact ⟨rfl, bl_alloc (Below.refl _ _) _⟩
    by_cases a4 : 1 ≤ s.least
    rotate_left 1
    · go_enter Try.func27, Try.ntmps27
      go_wp2
      go_ret
      exact ⟨rfl, bl_alloc (Below.refl _ _) _⟩
    by_cases a5 : s.least ≤ s.most
    rotate_left 1
    · go_enter Try.func27, Try.ntmps27
      go_wp2
      go_ret
      exact ⟨rfl, bl_alloc (Below.refl _ _) _⟩
    by_cases a6 : s.most ≤ 2000
    rotate_left 1
    · go_enter Try.func27, Try.ntmps27
      go_wp2
      go_ret
      exact ⟨rfl, bl_alloc (Below.refl _ _) _⟩
    by_cases a7 : s.most ≤ s.burst
    rotate_left 1
    · go_enter Try.func27, Try.ntmps27
      go_wp2
      go_ret
      exact ⟨rfl, bl_alloc (Below.refl _ _) _⟩
    have a8 : ¬ s.burst ≤ 10000000 := by omega
    clear h1
    go_enter Try.func27, Try.ntmps27
    go_wp2
    go_ret
    exact ⟨rfl, bl_alloc (Below.refl _ _) _⟩
def specLines (s : Sp) : List Ln := [⟨s.most, s.peak⟩, ⟨s.burst, s.rate⟩]
theorem spec_may {s : Sp} (h : okSp s = true) : ∀ l ∈ specLines s, mayB l = true := fun l hl => by
  have := (okSp_iff s).1 h
  unfold specLines at hl
  simp only [List.mem_cons, List.not_mem_nil, or_false] at hl
  rcases hl with rfl | rfl <;> simp only [mayB, inB, Bool.and_eq_true, decide_eq_true_eq] <;> omega
theorem spec_made {s : Sp} (h : okSp s = true) : madeB (specLines s) = true := made_le (spec_may h) (by simp [specLines]) (by simp [specLines])
set_option maxRecDepth 100000 in
set_option maxHeartbeats 2000000 in
theorem of_any (s : Sp) (w : World) :
    Calls Try.prog 26 #[.agg #[.int .i64 s.peak, .int .i64 s.rate, .int .i64 s.burst, .int .i64 s.most, .int .i64 s.least]] w fun e w' => ((okSp s = false ∧ e = .returned (.tuple #[.slice none 0 0, .int .i64 2])) ∨ (okSp s = true ∧ ∃ v', e = .returned (.tuple #[v', .int .i64 0]) ∧ SAt Ln.cells 2 w' v' (lowL (specLines s)))) ∧ Below w.heap.size w w' := by
  have hch := fun W => tcheck_any s W
  have hmd := @spec_made s
  have hmy := @spec_may s
  obtain ⟨R, hR⟩ : ∃ R : Ending → World → Prop, R = fun e w' => ((okSp s = false ∧ e = .returned (.tuple #[.slice none 0 0, .int .i64 2])) ∨ (okSp s = true ∧ ∃ v', e = .returned (.tuple #[v', .int .i64 0]) ∧ SAt Ln.cells 2 w' v' (lowL (specLines s)))) ∧ Below w.heap.size w w' := ⟨_, rfl⟩
  rw [← hR]
  have HR := Lib.hid hR
  clear hR
  cases hq : okSp s with
  | false =>
    rw [hq] at hch
    simp only [Bool.false_eq_true, if_false] at hch
    have HCH := Lib.hid hch
    have HQ := Lib.hid hq
    clear hq hmd hmy hch
    go_enter Try.func26, Try.ntmps26
    go_wp2_with (go_at_call 43; refine (HCH.out _).mono ?_; rintro e w1 ⟨rfl, hb⟩)
    rw [HR.out]
    exact ⟨.inl ⟨HQ.out, rfl⟩, bl_then (bl_alloc (Below.refl _ _) _) hb⟩
  | true =>
    rw [hq] at hch
    simp only [if_true] at hch
    have HCH := Lib.hid hch
    have HQ := Lib.hid (And.intro hq (And.intro (hmd hq) (hmy hq)))
    clear hq hmd hmy hch
    go_enter Try.func26, Try.ntmps26
    go_wp2_with (go_at_call 43; refine (HCH.out _).mono ?_; rintro e w1 ⟨rfl, hb⟩; have g0 := bl_cell hb (b := w.heap.size) (o := 0) (v := .int .i64 s.peak) (by go_simp); have g1 := bl_cell hb (b := w.heap.size) (o := 1) (v := .int .i64 s.rate) (by go_simp); have g2 := bl_cell hb (b := w.heap.size) (o := 2) (v := .int .i64 s.burst) (by go_simp); have g3 := bl_cell hb (b := w.heap.size) (o := 3) (v := .int .i64 s.most) (by go_simp); have HB1 := Lib.hid (bl_then (bl_alloc (Below.refl _ _) _) hb); clear hb)
    refine (made_any _ (specLines s) _ (sat_manyL w1 (specLines s) _ rfl rfl rfl rfl (by simp [specLines, maxLen])) (fun l hl => fits_of (HQ.out.2.2 l hl)) (by simp [specLines])).mono ?_
    rintro e w4 hm
    obtain ⟨⟨hmb, v4, rfl, hs4⟩ | ⟨hmb, -⟩, hb4⟩ := made_is hm
    rotate_left 1
    · rw [HQ.out.2.1] at hmb; cases hmb
    have HF := Lib.hid (And.intro hs4 (bl_then HB1.out (bl_then (bl_alloc (Below.refl _ _) _) hb4)))
    clear hm hmb hs4 hb4 g0 g1 g2 g3
    go_wp2_with fail
    rw [HR.out]
    exact ⟨.inr ⟨HQ.out.1, _, rfl, HF.out.1⟩, HF.out.2⟩
def allowsI (s : Sp) (t : Int) : Int := if s.most + s.peak * t < s.burst + s.rate * t then s.most + s.peak * t else s.burst + s.rate * t
set_option maxRecDepth 100000 in
set_option maxHeartbeats 2000000 in
theorem r2allows_any (s : Sp) (t : Int) (w : World) (h : okSp s = true) (h0 : 0 ≤ t) (h1 : t ≤ 2147483647) :
    Calls Try.prog 28 #[.agg #[.int .i64 s.peak, .int .i64 s.rate, .int .i64 s.burst, .int .i64 s.most, .int .i64 s.least], .int .i64 t] w fun e w' => e = .returned (.int .i64 (allowsI s t)) ∧ Below w.heap.size w w' := by
  have hs := (okSp_iff s).1 h
  have a0 := Int.mul_nonneg (show 0 ≤ s.peak by omega) h0
  have a1 : s.peak * t ≤ 1000000 * 2147483647 := Int.mul_le_mul (by omega) h1 h0 (by omega)
  have a2 := Int.mul_nonneg (show 0 ≤ s.rate by omega) h0
  have a3 : s.rate * t ≤ 1000000 * 2147483647 := Int.mul_le_mul (by omega) h1 h0 (by omega)
  have k1 : IntKind.i64.wrap (s.peak * t) = s.peak * t := by rw [IntWalk.i64_in _ (by omega)]
  have k2 : IntKind.i64.wrap (s.rate * t) = s.rate * t := by rw [IntWalk.i64_in _ (by omega)]
  have k3 : IntKind.i64.wrap (s.most + s.peak * t) = s.most + s.peak * t := by rw [IntWalk.i64_in _ (by omega)]
  have k4 : IntKind.i64.wrap (s.burst + s.rate * t) = s.burst + s.rate * t := by rw [IntWalk.i64_in _ (by omega)]
  clear hs a0 a1 a2 a3 h
  unfold allowsI
  by_cases hlt : s.most + s.peak * t < s.burst + s.rate * t
  · rw [if_pos hlt]
    go_enter Try.func28, Try.ntmps28
    go_wp2_with fail
    go_quiet (fail)
    go_wp2_with fail
    go_ret
    exact ⟨rfl, bl_drewN (bl_alloc (Below.refl _ _) _) _⟩
  · rw [if_neg hlt]
    go_enter Try.func28, Try.ntmps28
    go_wp2_with fail
    go_quiet (fail)
    go_wp2_with fail
    go_ret
    exact ⟨rfl, bl_drewN (bl_alloc (Below.refl _ _) _) _⟩
theorem spec_at {s : Sp} {t : Int} (h0 : 0 ≤ t) : atC (lowL (specLines s)) t = allowsI s t := by
  rw [← htC_one, low_env (by simp [specLines]) h0 (by omega)]
  unfold specLines htC allowsI ht
  simp only [List.foldl_cons, List.foldl_nil, Int.mul_one]
  split <;> split <;> omega
set_option maxRecDepth 100000 in
set_option maxHeartbeats 4000000 in
theorem curveSpecs_any (s : Sp) (t : Int) (w : World) :
    Calls Try.prog 8 #[.agg #[.int .i64 s.peak, .int .i64 s.rate, .int .i64 s.burst, .int .i64 s.most, .int .i64 s.least], .int .i64 t] w fun e w' => e = .returned (.bool true) ∧ Below w.heap.size w w' := by
  have HRR := Lib.hid fun W => r2right_any s W
  have HTO := Lib.hid fun W => told_any (.slice none 0 0) (.slice none 0 0) [] [] 2 2 W SAt.nil SAt.nil
  obtain ⟨R, hR⟩ : ∃ R : Ending → World → Prop, R = fun e w' => e = .returned (.bool true) ∧ Below w.heap.size w w' := ⟨_, rfl⟩
  rw [← hR]
  have HR := Lib.hid hR
  clear hR
  go_enter Try.func8, Try.ntmps8
  go_wp2_with fail
  refine (of_any s _).mono ?_
  rintro e w1 ⟨hof, hb1⟩
  have HB : Hid (Below w.heap.size w w1) := Lib.hid (bl_then (bl_alloc (Below.refl _ _) _) hb1)
  have HB' : Hid (Below w1.heap.size w1 w1) := Lib.hid (Below.refl _ _)
  have HSP : Hid (∀ X, Below w1.heap.size w1 X → SpAt X w.heap.size 0 s) := Lib.hid fun X hX => (SpAt.below (by unfold SpAt; go_simp) hb1 : SpAt w1 w.heap.size 0 s).below hX
  clear hb1
  rcases hof with ⟨hq, rfl⟩ | ⟨hq, v1, rfl, hs1⟩
  · rw [hq] at HRR
    clear hq
    obtain ⟨c0, c1, c2, c3, c4⟩ := HSP.out _ HB'.out
    simp only [Nat.zero_add] at c1 c2 c3 c4
    go_wp2_with (first | (go_at_call 27; (with_reducible refine (HRR.out _).mono ?_); rintro e w' ⟨rfl, hb⟩; replace HB := Lib.hid (bl_then HB.out hb); replace HB' := Lib.hid (bl_then HB'.out hb); clear hb) | (go_at_call 14; (with_reducible refine (HTO.out _).mono ?_); rintro e w' ⟨rfl, hb⟩; replace HB := Lib.hid (bl_then HB.out hb); replace HB' := Lib.hid (bl_then HB'.out hb); clear hb) | (go_at_call 11; (with_reducible refine (known_any _).mono ?_); rintro e w' ⟨rfl, hb⟩; replace HB := Lib.hid (bl_then HB.out hb); replace HB' := Lib.hid (bl_then HB'.out hb); clear hb))
    all_goals (rw [HR.out]; exact ⟨rfl, HB.out⟩)
  · have hok := made_ok (spec_made hq)
    have hri := fun W (hW : Below w1.heap.size w1 W) => rright_any _ _ W (hs1.below hW)
    rw [hok] at hri
    have HRI := Lib.hid hri
    have HOK := Lib.hid (And.intro hok hq)
    have HAT := Lib.hid fun W (hW : Below w1.heap.size w1 W) (hi : inB t 2147483647 = true) => at_yes _ _ t W (hs1.below hW) hok hi
    rw [hq] at HRR
    have HTT := Lib.hid (fun h0 => spec_at (s := s) (t := t) h0)
    generalize lowL (specLines s) = c at *
    obtain ⟨A1, cc, rfl⟩ := hs1.slice
    obtain ⟨c0, c1, c2, c3, c4⟩ := HSP.out _ HB'.out
    simp only [Nat.zero_add] at c1 c2 c3 c4
    clear hs1 hok hri hq
    by_cases g0 : t < 0
    · go_wp2_with (first | (go_at_call 27; (with_reducible refine (HRR.out _).mono ?_); rintro e w' ⟨rfl, hb⟩; replace HB := Lib.hid (bl_then HB.out hb); replace HB' := Lib.hid (bl_then HB'.out hb); clear hb) | (go_at_call 20; (with_reducible refine (HRI.out _ HB'.out).mono ?_); rintro e w' ⟨rfl, hb⟩; replace HB := Lib.hid (bl_then HB.out hb); replace HB' := Lib.hid (bl_then HB'.out hb); clear hb) | (go_at_call 11; (with_reducible refine (known_any _).mono ?_); rintro e w' ⟨rfl, hb⟩; replace HB := Lib.hid (bl_then HB.out hb); replace HB' := Lib.hid (bl_then HB'.out hb); clear hb))
      all_goals (rw [HR.out]; exact ⟨rfl, HB.out⟩)
    by_cases g1 : (2147483647 : Int) < t
    · go_wp2_with (first | (go_at_call 27; (with_reducible refine (HRR.out _).mono ?_); rintro e w' ⟨rfl, hb⟩; replace HB := Lib.hid (bl_then HB.out hb); replace HB' := Lib.hid (bl_then HB'.out hb); clear hb) | (go_at_call 20; (with_reducible refine (HRI.out _ HB'.out).mono ?_); rintro e w' ⟨rfl, hb⟩; replace HB := Lib.hid (bl_then HB.out hb); replace HB' := Lib.hid (bl_then HB'.out hb); clear hb) | (go_at_call 11; (with_reducible refine (known_any _).mono ?_); rintro e w' ⟨rfl, hb⟩; replace HB := Lib.hid (bl_then HB.out hb); replace HB' := Lib.hid (bl_then HB'.out hb); clear hb))
      all_goals (rw [HR.out]; exact ⟨rfl, HB.out⟩)
    have i0 : 0 ≤ t := by omega
    have hat := fun W hW => HAT.out W hW (by simp [inB]; omega)
    rw [HTT.out i0] at hat
    have HA := Lib.hid hat
    have HAL := Lib.hid fun W => r2allows_any s t W HOK.out.2 i0 (by omega)
    clear hat HAT HTT
    generalize allowsI s t = z at *
    go_wp2_with (first | (go_at_call 27; (with_reducible refine (HRR.out _).mono ?_); rintro e w' ⟨rfl, hb⟩; replace HB := Lib.hid (bl_then HB.out hb); replace HB' := Lib.hid (bl_then HB'.out hb); clear hb) | (go_at_call 20; (with_reducible refine (HRI.out _ HB'.out).mono ?_); rintro e w' ⟨rfl, hb⟩; replace HB := Lib.hid (bl_then HB.out hb); replace HB' := Lib.hid (bl_then HB'.out hb); clear hb))
    refine (HA.out _ HB'.out).mono ?_
    rintro e w2 ⟨rfl, hb⟩
    replace HB := Lib.hid (bl_then HB.out hb)
    replace HB' := Lib.hid (bl_then HB'.out hb)
    clear hb c0 c1 c2 c3 c4
    obtain ⟨c0, c1, c2, c3, c4⟩ := HSP.out _ HB'.out
    simp only [Nat.zero_add] at c1 c2 c3 c4
    go_wp2_with (first | (go_at_call 28; (with_reducible refine (HAL.out _).mono ?_); rintro e w' ⟨rfl, hb⟩; replace HB := Lib.hid (bl_then HB.out hb); replace HB' := Lib.hid (bl_then HB'.out hb); clear hb) | (go_at_call 11; (with_reducible refine (known_any _).mono ?_); rintro e w' ⟨rfl, hb⟩; replace HB := Lib.hid (bl_then HB.out hb); replace HB' := Lib.hid (bl_then HB'.out hb); clear hb))
    all_goals (rw [HR.out]; exact ⟨rfl, HB.out⟩)
end Go.Proofs.Ytmkjiflliejjjaa
