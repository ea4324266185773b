/- Curve: CurveChecks. -/
import Derived.Test.YtmkjiflliejjjaaCurM
namespace Go.Proofs.Ytmkjiflliejjjaa
open Go.RowKit Go.Shelf Go.Sort
set_option linter.unusedVariables false
set_option linter.unusedSimpArgs false
attribute [local go_sem] Oper.semAt_some
theorem ht_one (l : Ln) (t : Int) : ht l t 1 = atI l t := by simp [ht, atI]
theorem htC_one (c : List Ln) (t : Int) : htC c t 1 = atC c t := by
  cases c with
  | nil => rfl
  | cons l c =>
    simp only [htC, atC, ht_one]
    congr 1
    funext m l
    rw [Int.min_def]
    by_cases h : m ≤ atI l t
    · rw [if_pos h, if_neg (by omega)]
    · rw [if_neg h, if_pos (by omega)]
theorem sumFits_of {l : Ln} {n d : Int} (h : mayB l = true) (hn : 0 ≤ n) (hn1 : n ≤ 2147483647) (hd : 0 ≤ d) (hd1 : d ≤ 1000) : sumFits l n d := by
  simp only [mayB, inB, Bool.and_eq_true, decide_eq_true_eq] at h
  have k1 := Int.mul_nonneg h.2.1 hn
  have k2 : l.r * n ≤ 1000000000 * 2147483647 := Int.mul_le_mul h.2.2 hn1 hn (by omega)
  have k3 := Int.mul_nonneg h.1.1 hd
  have k4 : l.b * d ≤ 1000000000 * 1000 := Int.mul_le_mul h.1.2 hd1 hd (by omega)
  exact ⟨⟨by omega, by omega⟩, by omega, by omega⟩
set_option maxRecDepth 100000 in
set_option maxHeartbeats 4000000 in
theorem curveChecks_any (v : Value) (c : List Ln) (t : Int) (w : World) (h : SAt Ln.cells 2 w v c) :
    Calls Try.prog 6 #[v, .int .i64 t] w fun e w' => e = .returned (.bool true) ∧ Below w.heap.size w w' := by
  have hlm := h.len
  unfold maxLen at hlm
  have hri := fun W hb => rright_any v c W (h.below hb)
  have hch := fun W hb => check_any v c W (h.below hb)
  have H := Lib.hid h
  obtain ⟨A, cc, rfl⟩ := h.slice
  clear h
  obtain ⟨R, hR⟩ : ∃ R : Ending → World → Prop, R = fun e w' => e = .returned (.bool true) ∧ Below w.heap.size w w' := ⟨_, rfl⟩
  rw [← hR]
  have HR := Lib.hid hR
  clear hR
  have HB : Hid (Below w.heap.size w w) := Lib.hid (Below.refl _ _)
  by_cases h40 : c.length ≤ 40
  · have hz : ¬ (40 : Int) < (c.length : Int) := by omega
    cases hq : okC c with
    | false =>
      simp only [hq, Bool.false_eq_true, if_false] at hri hch
      have hat := fun W hb => at_no _ c t W (H.out.below hb) (.inl hq)
      have hsl := fun W hb => slowest_no _ c W (H.out.below hb) hq
      have HX := Lib.hid (And.intro hri (And.intro hch (And.intro hat (And.intro hsl True.intro))))
      clear hri hch hat hsl hq
      go_enter Try.func6, Try.ntmps6
      go_wp2_with (first | (go_at_call 20; (with_reducible refine (HX.out.1 _ HB.out).mono ?_); rintro e w' ⟨rfl, hb⟩; replace HB := Lib.hid (bl_then HB.out hb); clear hb) | (go_at_call 16; (with_reducible refine (HX.out.2.1 _ HB.out).mono ?_); rintro e w' ⟨rfl, hb⟩; replace HB := Lib.hid (bl_then HB.out hb); clear hb) | (go_at_call 22; (with_reducible refine (HX.out.2.2.1 _ HB.out).mono ?_); rintro e w' ⟨rfl, hb⟩; replace HB := Lib.hid (bl_then HB.out hb); clear hb) | (go_at_call 23; (with_reducible refine (HX.out.2.2.2.1 _ HB.out).mono ?_); rintro e w' ⟨rfl, hb⟩; replace HB := Lib.hid (bl_then HB.out hb); clear hb) | (go_at_call 11; (with_reducible refine (known_any _).mono ?_); rintro e w' ⟨rfl, hb⟩; replace HB := Lib.hid (bl_then HB.out hb); clear hb) | (go_at_call 18; (with_reducible refine (HX.out.2.2.2.2 _ HB.out).mono ?_); rintro e w' ⟨rfl, hb⟩; replace HB := Lib.hid (bl_then HB.out hb); clear hb))
      all_goals (rw [HR.out]; exact ⟨rfl, HB.out⟩)
    | true =>
      simp only [hq, if_true] at hri hch
      obtain ⟨h1, h2, h3, h4⟩ := okC_may hq
      have hl0 : 0 < c.length := List.length_pos_iff.2 h1
      obtain ⟨l, hl⟩ : ∃ l, c[c.length - 1]? = some l := ⟨_, List.getElem?_eq_getElem (by omega)⟩
      have hsl := fun W hb => slowest_yes _ c l W (H.out.below hb) hq hl
      have h' := H.out
      rcases h' with ⟨-, e2⟩ | ⟨b, o, c2, e1, _, _, hrow⟩
      · exact absurd e2 h1
      simp only [Value.slice.injEq] at e1
      obtain ⟨rfl, -, rfl⟩ := e1
      obtain ⟨x0, x1⟩ := LnAt.ofRow hrow hl
      have X1 := Lib.hid x1
      have hlt : c.length - 1 < c.length := by omega
      obtain ⟨m, hm⟩ : ∃ m, m = c.length - 1 := ⟨_, rfl⟩
      rw [← hm] at hlt X1
      have hn1 : (c.length : Int) - 1 = (m : Int) := by omega
      have hn2 : (m : Int) < (c.length : Int) := by omega
      have hn3 : IntKind.i64.wrap (m : Int) = (m : Int) := by rw [IntWalk.i64_in _ (by omega)]
      have hn4 : (0 : Int) ≤ (m : Int) := by omega
      clear x0 x1 hrow hm
      by_cases ht : 0 ≤ t ∧ t ≤ 2147483647
      · have hi : inB t 2147483647 = true := by simp [inB, ht.1, ht.2]
        have hat := fun W hb => at_yes _ c t W (H.out.below hb) hq hi
        have hrt := fun W hb => rat_any _ c t 1 W (H.out.below hb) h1 (fun l hl => sumFits_of (h2 l hl) ht.1 ht.2 (by omega) (by omega))
        rw [htC_one] at hrt
        have ht1 : ¬ t < 0 := by omega
        have ht2 : ¬ (2147483647 : Int) < t := by omega
        have HX := Lib.hid (And.intro hri (And.intro hch (And.intro hat (And.intro hsl hrt))))
        clear hri hch hat hsl hrt hq hl h1 h2 h3 h4 hi ht H
        generalize atC c t = a at *
        generalize c.length = N at *
        go_enter Try.func6, Try.ntmps6
        go_wp2_with (first | (go_at_call 20; (with_reducible refine (HX.out.1 _ HB.out).mono ?_); rintro e w' ⟨rfl, hb⟩; replace HB := Lib.hid (bl_then HB.out hb); clear hb) | (go_at_call 16; (with_reducible refine (HX.out.2.1 _ HB.out).mono ?_); rintro e w' ⟨rfl, hb⟩; replace HB := Lib.hid (bl_then HB.out hb); clear hb; have x1 := bl_cell HB.out X1.out) | (go_at_call 22; (with_reducible refine (HX.out.2.2.1 _ HB.out).mono ?_); rintro e w' ⟨rfl, hb⟩; replace HB := Lib.hid (bl_then HB.out hb); clear hb) | (go_at_call 23; (with_reducible refine (HX.out.2.2.2.1 _ HB.out).mono ?_); rintro e w' ⟨rfl, hb⟩; replace HB := Lib.hid (bl_then HB.out hb); clear hb) | (go_at_call 11; (with_reducible refine (known_any _).mono ?_); rintro e w' ⟨rfl, hb⟩; replace HB := Lib.hid (bl_then HB.out hb); clear hb) | (go_at_call 18; (with_reducible refine (HX.out.2.2.2.2 _ HB.out).mono ?_); rintro e w' ⟨rfl, hb⟩; replace HB := Lib.hid (bl_then HB.out hb); clear hb))
        all_goals (rw [HR.out]; exact ⟨rfl, HB.out⟩)
      · have hi : inB t 2147483647 = false := by
          cases hb : inB t 2147483647 with
          | false => rfl
          | true => exact absurd (by simpa [inB] using hb) ht
        have hat := fun W hb => at_no _ c t W (H.out.below hb) (.inr hi)
        have HX := Lib.hid (And.intro hri (And.intro hch (And.intro hat (And.intro hsl True.intro))))
        clear hri hch hat hsl hq hl h1 h2 h3 h4 hi H
        generalize c.length = N at *
        by_cases ht1 : t < 0
        · go_enter Try.func6, Try.ntmps6
          go_wp2_with (first | (go_at_call 20; (with_reducible refine (HX.out.1 _ HB.out).mono ?_); rintro e w' ⟨rfl, hb⟩; replace HB := Lib.hid (bl_then HB.out hb); clear hb) | (go_at_call 16; (with_reducible refine (HX.out.2.1 _ HB.out).mono ?_); rintro e w' ⟨rfl, hb⟩; replace HB := Lib.hid (bl_then HB.out hb); clear hb; have x1 := bl_cell HB.out X1.out) | (go_at_call 22; (with_reducible refine (HX.out.2.2.1 _ HB.out).mono ?_); rintro e w' ⟨rfl, hb⟩; replace HB := Lib.hid (bl_then HB.out hb); clear hb) | (go_at_call 23; (with_reducible refine (HX.out.2.2.2.1 _ HB.out).mono ?_); rintro e w' ⟨rfl, hb⟩; replace HB := Lib.hid (bl_then HB.out hb); clear hb) | (go_at_call 11; (with_reducible refine (known_any _).mono ?_); rintro e w' ⟨rfl, hb⟩; replace HB := Lib.hid (bl_then HB.out hb); clear hb) | (go_at_call 18; (with_reducible refine (HX.out.2.2.2.2 _ HB.out).mono ?_); rintro e w' ⟨rfl, hb⟩; replace HB := Lib.hid (bl_then HB.out hb); clear hb))
          all_goals (rw [HR.out]; exact ⟨rfl, HB.out⟩)
        · have ht2 : (2147483647 : Int) < t := by omega
          clear ht
          go_enter Try.func6, Try.ntmps6
          go_wp2_with (first | (go_at_call 20; (with_reducible refine (HX.out.1 _ HB.out).mono ?_); rintro e w' ⟨rfl, hb⟩; replace HB := Lib.hid (bl_then HB.out hb); clear hb) | (go_at_call 16; (with_reducible refine (HX.out.2.1 _ HB.out).mono ?_); rintro e w' ⟨rfl, hb⟩; replace HB := Lib.hid (bl_then HB.out hb); clear hb; have x1 := bl_cell HB.out X1.out) | (go_at_call 22; (with_reducible refine (HX.out.2.2.1 _ HB.out).mono ?_); rintro e w' ⟨rfl, hb⟩; replace HB := Lib.hid (bl_then HB.out hb); clear hb) | (go_at_call 23; (with_reducible refine (HX.out.2.2.2.1 _ HB.out).mono ?_); rintro e w' ⟨rfl, hb⟩; replace HB := Lib.hid (bl_then HB.out hb); clear hb) | (go_at_call 11; (with_reducible refine (known_any _).mono ?_); rintro e w' ⟨rfl, hb⟩; replace HB := Lib.hid (bl_then HB.out hb); clear hb) | (go_at_call 18; (with_reducible refine (HX.out.2.2.2.2 _ HB.out).mono ?_); rintro e w' ⟨rfl, hb⟩; replace HB := Lib.hid (bl_then HB.out hb); clear hb))
          all_goals (rw [HR.out]; exact ⟨rfl, HB.out⟩)
  · have hz : (40 : Int) < (c.length : Int) := by omega
    clear hri hch
    go_enter Try.func6, Try.ntmps6
    go_wp2_with (first | (go_at_call 20; (with_reducible refine (HX.out.1 _ HB.out).mono ?_); rintro e w' ⟨rfl, hb⟩; replace HB := Lib.hid (bl_then HB.out hb); clear hb) | (go_at_call 16; (with_reducible refine (HX.out.2.1 _ HB.out).mono ?_); rintro e w' ⟨rfl, hb⟩; replace HB := Lib.hid (bl_then HB.out hb); clear hb) | (go_at_call 22; (with_reducible refine (HX.out.2.2.1 _ HB.out).mono ?_); rintro e w' ⟨rfl, hb⟩; replace HB := Lib.hid (bl_then HB.out hb); clear hb) | (go_at_call 23; (with_reducible refine (HX.out.2.2.2.1 _ HB.out).mono ?_); rintro e w' ⟨rfl, hb⟩; replace HB := Lib.hid (bl_then HB.out hb); clear hb) | (go_at_call 11; (with_reducible refine (known_any _).mono ?_); rintro e w' ⟨rfl, hb⟩; replace HB := Lib.hid (bl_then HB.out hb); clear hb) | (go_at_call 18; (with_reducible refine (HX.out.2.2.2.2 _ HB.out).mono ?_); rintro e w' ⟨rfl, hb⟩; replace HB := Lib.hid (bl_then HB.out hb); clear hb))
    all_goals (rw [HR.out]; exact ⟨rfl, HB.out⟩)
end Go.Proofs.Ytmkjiflliejjjaa
