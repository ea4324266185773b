/- Curve: told, CurveLater. -/
import Derived.Test.YtmkjiflliejjjaaCurQ
namespace Go.Proofs.Ytmkjiflliejjjaa
open Go.RowKit Go.Shelf Go.Sort
set_option linter.unusedVariables false
set_option linter.unusedSimpArgs false
attribute [local go_sem] Oper.semAt_some
set_option maxHeartbeats 1000000 in
theorem told_any (v u : Value) (xs ys : List Ln) (e no : Int) (w : World) (h : SAt Ln.cells 2 w v xs) (h2 : SAt Ln.cells 2 w u ys) :
    Calls Try.prog 14 #[v, .int .i64 e, u, .int .i64 no] w fun en w' => en = .returned (.bool (decide (e = no) && decide (xs = ys))) ∧ Below w.heap.size w w' := by
  have hs := rsame_any v u xs ys w h h2
  obtain ⟨A, c, rfl⟩ := h.slice
  obtain ⟨B, d, rfl⟩ := h2.slice
  clear h h2
  by_cases hen : e = no
  · subst hen
    simp only [decide_true, Bool.true_and]
    go_enter Try.func14, Try.ntmps14
    go_wp2_with (go_at_call 21; refine hs.mono ?_; rintro en w' ⟨rfl, hb⟩)
    go_ret
    exact ⟨rfl, hb⟩
  · rw [decide_eq_false hen]
    have hne : (e == no) = false := beq_eq_false_iff_ne.2 hen
    simp only [Bool.false_and]
    clear hs
    go_enter Try.func14, Try.ntmps14
    go_wp2_with fail
    go_ret
    exact ⟨rfl, Below.refl _ _⟩
/-- Does any line from f on, till k, stand too high then? -/
def longTo (c : List Ln) (t : Int) (f : Nat) : Nat → Bool
  | 0 => false
  | k + 1 => longTo c t f k || (decide (f ≤ k) && decide (1000000000 < atI (c.getD k Ln0) t))
theorem longTo_low (c : List Ln) (t : Int) (f : Nat) : ∀ k, k ≤ f → longTo c t f k = false
  | 0, _ => rfl
  | k + 1, h => by
    unfold longTo
    rw [longTo_low c t f k (by omega)]
    simp
    omega
theorem longTo_iff (c : List Ln) (t : Int) (f : Nat) : ∀ k, longTo c t f k = true ↔ ∃ j, f ≤ j ∧ j < k ∧ 1000000000 < atI (c.getD j Ln0) t
  | 0 => by simp [longTo]
  | k + 1 => by
    unfold longTo
    rw [Bool.or_eq_true, longTo_iff c t f k]
    simp only [Bool.and_eq_true, decide_eq_true_eq]
    constructor
    · rintro (⟨j, h1, h2, h3⟩ | ⟨h1, h2⟩)
      · exact ⟨j, h1, by omega, h3⟩
      · exact ⟨k, h1, by omega, h2⟩
    · rintro ⟨j, h1, h2, h3⟩
      by_cases hj : j = k
      · subst hj; exact .inr ⟨h1, h3⟩
      · exact .inl ⟨j, h1, by omega, h3⟩
theorem long_each {c : List Ln} {t : Int} (h : okC c = true) (h0 : 0 ≤ t) (h1 : t ≤ 2147483647) : eachB (laterL c t) = !longTo c t (firstTo c t c.length) c.length := by
  obtain ⟨hne, hm, h32, hn⟩ := okC_may h
  have hl0 : 0 < c.length := List.length_pos_iff.2 hne
  have hf := firstTo_lt c t c.length (Nat.le_refl _) hl0
  cases hl : longTo c t (firstTo c t c.length) c.length with
  | true =>
    obtain ⟨j, h2, h3, h4⟩ := (longTo_iff _ _ _ _).1 hl
    simp only [Bool.not_true]
    cases he : eachB (laterL c t) with
    | false => rfl
    | true =>
      have := (eachB_iff.1 he).2 ⟨atI c[j] t, c[j].r⟩ (by
        unfold laterL
        refine List.mem_map.2 ⟨c[j], ?_, rfl⟩
        refine List.mem_of_getElem? (i := j - firstTo c t c.length) ?_
        rw [List.getElem?_drop, Nat.add_sub_cancel' h2]
        exact List.getElem?_eq_getElem h3)
      simp only [mayB, inB, Bool.and_eq_true, decide_eq_true_eq] at this
      rw [getD_of (List.getElem?_eq_getElem h3)] at h4
      omega
  | false =>
    simp only [Bool.not_false]
    refine eachB_iff.2 ⟨?_, fun u hu => ?_⟩
    · intro e
      have := congrArg List.length e
      simp [laterL] at this
      omega
    · obtain ⟨i, hi⟩ := List.getElem?_of_mem hu
      obtain ⟨x, hx, rfl⟩ := later_get hi
      have hlt := (List.getElem?_eq_some_iff.1 hx).1
      have hmx := hm x (List.mem_of_getElem? hx)
      have hf2 := (at_fits hmx h0 h1).2
      have hnl : ¬ (1000000000 < atI x t) := fun hh => by
        have : longTo c t (firstTo c t c.length) c.length = true := (longTo_iff _ _ _ _).2 ⟨_, Nat.le_add_right _ i, hlt, by rw [getD_of hx]; exact hh⟩
        rw [hl] at this
        cases this
      simp only [mayB, inB, Bool.and_eq_true, decide_eq_true_eq] at hmx ⊢
      omega
theorem later_ok {c : List Ln} {t : Int} (h : okC c = true) (h0 : 0 ≤ t) (he : eachB (laterL c t) = true) : okC (laterL c t) = true := by
  obtain ⟨hne, hm, h32, hn⟩ := okC_may h
  have h1 := norm_idx.2 (later_norm (norm_idx.1 hn) h0 hne)
  unfold okC
  have h2 : (laterL c t).length ≤ 32 := by unfold laterL; simp; omega
  rw [he, (normRB_iff _).2 h1, decide_eq_true h2]
  rfl
set_option maxRecDepth 100000 in
set_option maxHeartbeats 20000000 in
theorem curveLater_any (v : Value) (c : List Ln) (t n d : Int) (w : World) (h : SAt Ln.cells 2 w v c) :
    Calls Try.prog 4 #[v, .int .i64 t, .agg #[.int .i64 n, .int .i64 d]] w fun e w' => e = .returned (.bool true) ∧ Below w.heap.size w w' := by
  have hlm := h.len
  unfold maxLen at hlm
  have hri := fun W hb => rright_any v c W (h.below hb)
  have hla := fun W hb => later_any v c t W (h.below hb)
  have H := Lib.hid h
  obtain ⟨A, cc, rfl⟩ := h.slice
  clear h
  obtain ⟨R, hR⟩ : ∃ R : Ending → World → Prop, R = fun e w' => e = .returned (.bool true) ∧ Below w.heap.size w w' := ⟨_, rfl⟩
  rw [← hR]
  have HR := Lib.hid hR
  clear hR
  have HB0 : Hid (Below w.heap.size w (w.alloc (.cells #[.int .i64 n, .int .i64 d] 36))) := Lib.hid (bl_alloc (Below.refl _ _) _)
  by_cases h40 : c.length ≤ 40
  · have hz : ¬ (40 : Int) < (c.length : Int) := by omega
    cases hq : okC c && inB t 2147483647 with
    | false =>
      have hno : okC c = false ∨ inB t 2147483647 = false := by rcases Bool.and_eq_false_iff.1 hq with h | h <;> simp [h]
      have hla2 := fun W hb => later_no _ c t W (H.out.below hb) hno
      have HB := HB0
      clear HB0 hla
      cases hok : okC c with
      | false =>
        simp only [hok] at hri
        have HX := Lib.hid (And.intro hla2 hri)
        clear hla2 hri hq hno hok H
        go_enter Try.func4, Try.ntmps4
        go_wp2_with (first | (go_at_call 19; (with_reducible refine (HX.out.1 _ HB.out).mono ?_); rintro e w' ⟨rfl, hb⟩; replace HB := Lib.hid (bl_then HB.out hb); clear hb) | (go_at_call 20; (with_reducible refine (HX.out.2 _ HB.out).mono ?_); rintro e w' ⟨rfl, hb⟩; replace HB := Lib.hid (bl_then HB.out hb); clear hb) | (go_at_call 14; (with_reducible refine (told_any _ _ [] [] 2 2 _ SAt.nil SAt.nil).mono ?_); rintro e w' ⟨rfl, hb⟩; replace HB := Lib.hid (bl_then HB.out hb); clear hb) | (go_at_call 11; (with_reducible refine (known_any _).mono ?_); rintro e w' ⟨rfl, hb⟩; replace HB := Lib.hid (bl_then HB.out hb); clear hb))
        all_goals (rw [HR.out]; exact ⟨rfl, HB.out⟩)
      | true =>
        simp only [hok] at hri
        have HX := Lib.hid (And.intro hla2 hri)
        have hi : inB t 2147483647 = false := by rcases hno with h | h; · rw [hok] at h; cases h
                                                 · exact h
        clear hla2 hri hq hno hok H
        by_cases ht1 : t < 0
        · clear hi
          go_enter Try.func4, Try.ntmps4
          go_wp2_with (first | (go_at_call 19; (with_reducible refine (HX.out.1 _ HB.out).mono ?_); rintro e w' ⟨rfl, hb⟩; replace HB := Lib.hid (bl_then HB.out hb); clear hb) | (go_at_call 20; (with_reducible refine (HX.out.2 _ HB.out).mono ?_); rintro e w' ⟨rfl, hb⟩; replace HB := Lib.hid (bl_then HB.out hb); clear hb) | (go_at_call 14; (with_reducible refine (told_any _ _ [] [] 2 2 _ SAt.nil SAt.nil).mono ?_); rintro e w' ⟨rfl, hb⟩; replace HB := Lib.hid (bl_then HB.out hb); clear hb) | (go_at_call 11; (with_reducible refine (known_any _).mono ?_); rintro e w' ⟨rfl, hb⟩; replace HB := Lib.hid (bl_then HB.out hb); clear hb))
          all_goals (rw [HR.out]; exact ⟨rfl, HB.out⟩)
        · have ht2 : (2147483647 : Int) < t := by
            refine Int.lt_of_not_ge fun hh => ?_
            rw [show inB t 2147483647 = true by simp [inB]; omega] at hi
            cases hi
          clear hi
          go_enter Try.func4, Try.ntmps4
          go_wp2_with (first | (go_at_call 19; (with_reducible refine (HX.out.1 _ HB.out).mono ?_); rintro e w' ⟨rfl, hb⟩; replace HB := Lib.hid (bl_then HB.out hb); clear hb) | (go_at_call 20; (with_reducible refine (HX.out.2 _ HB.out).mono ?_); rintro e w' ⟨rfl, hb⟩; replace HB := Lib.hid (bl_then HB.out hb); clear hb) | (go_at_call 14; (with_reducible refine (told_any _ _ [] [] 2 2 _ SAt.nil SAt.nil).mono ?_); rintro e w' ⟨rfl, hb⟩; replace HB := Lib.hid (bl_then HB.out hb); clear hb) | (go_at_call 11; (with_reducible refine (known_any _).mono ?_); rintro e w' ⟨rfl, hb⟩; replace HB := Lib.hid (bl_then HB.out hb); clear hb))
          all_goals (rw [HR.out]; exact ⟨rfl, HB.out⟩)
    | true =>
      simp only [Bool.and_eq_true] at hq
      obtain ⟨hok, hi⟩ := hq
      have hti : 0 ≤ t ∧ t ≤ 2147483647 := by simpa [inB] using hi
      obtain ⟨ht0, ht1⟩ := hti
      have htA : ¬ t < 0 := by omega
      have htB : ¬ (2147483647 : Int) < t := by omega
      have hla2 := fun W hb => later_yes _ c t W (H.out.below hb) hok hi
      obtain ⟨hne, hm, h32, hn⟩ := okC_may hok
      have hl0 : 0 < c.length := List.length_pos_iff.2 hne
      simp only [hok] at hri
      have HX := Lib.hid (And.intro hla2 hri)
      have HOK := Lib.hid hok
      have HM := Lib.hid hm
      have HN := Lib.hid hn
      clear hla2 hri hla hi hm hn hok
      go_enter Try.func4, Try.ntmps4
      go_wp2_with fail
      refine (HX.out.1 _ HB0.out).mono ?_
      rintro e w1 ⟨hp, hb1⟩
      obtain ⟨v', en, ys, rfl, hs5, hall⟩ : ∃ v' en ys, e = .returned (.tuple #[v', .int .i64 en]) ∧ SAt Ln.cells 2 w1 v' ys ∧ ((eachB (laterL c t) = true ∧ en = 0 ∧ ys = laterL c t) ∨ (eachB (laterL c t) = false ∧ en = 3 ∧ ys = [])) := by
        rcases hp with ⟨h1, v', rfl, h2⟩ | ⟨h1, rfl⟩
        · exact ⟨v', 0, _, rfl, h2, .inl ⟨h1, rfl, rfl⟩⟩
        · exact ⟨_, 3, [], rfl, SAt.nil, .inr ⟨h1, rfl, rfl⟩⟩
      obtain ⟨A5, c5, rfl⟩ := hs5.slice
      have HS5 := Lib.hid hs5
      have HALL := Lib.hid hall
      have HB1 := Lib.hid (bl_then HB0.out hb1)
      have HND : Hid (∀ X, Below w1.heap.size w1 X → X.cell? ⟨w.heap.size, 0, none⟩ = some (.int .i64 n) ∧ X.cell? ⟨w.heap.size, 1, none⟩ = some (.int .i64 d)) := Lib.hid fun X hX => ⟨bl_cell hX (bl_cell hb1 (by go_simp)), bl_cell hX (bl_cell hb1 (by go_simp))⟩
      clear hp hb1 hs5 hall HB0
      go_wp2_with (go_at_call 20; (with_reducible refine (HX.out.2 _ HB1.out).mono ?_); rintro e w2 ⟨rfl, hb2⟩)
      have HB2 := Lib.hid hb2
      clear hb2
      go_loopg [10, 11] (c.length + 1) (fun gg s10 s11 wr => ∃ k : Nat, k ≤ c.length ∧ c.length - k ≤ gg ∧ s11 = .int .i64 k ∧ s10 = .int .i64 (firstTo c t k : Nat) ∧ Aside (Below w2.heap.size w2 wr))
      case atStart => exact ⟨0, by omega, by omega, rfl, rfl, Below.refl _ _⟩
      case round =>
        obtain ⟨k, hk, hgg, rfl, rfl, HB⟩ := hrel
        have hft := firstTo_lt c t k hk hl0
        by_cases hlt : k < c.length
        · have hltz : (k : Int) < (c.length : Int) := by omega
          have hgx : c[k]? = some c[k] := List.getElem?_eq_getElem hlt
          have hgy : c[firstTo c t k]? = some c[firstTo c t k] := List.getElem?_eq_getElem hft
          have hst : firstTo c t (k + 1) = if atI c[k] t ≤ atI c[firstTo c t k] t then k else firstTo c t k := by
            rw [firstTo]
            simp [List.getD, hlt, hft]
          generalize c[k] = x at hgx hst
          generalize c[firstTo c t k] = y at hgy hst
          generalize firstTo c t k = f at hgy hst hft ⊢
          have hfz : (f : Int) < (c.length : Int) := by omega
          rcases H.out.below (bl_then HB1.out (bl_then HB2.out HB.out)) with ⟨e1, e2⟩ | ⟨b, o, c2, e1, _, _, hrow⟩
          · subst e2; simp at hlt
          · simp only [Value.slice.injEq] at e1
            obtain ⟨rfl, -, rfl⟩ := e1
            obtain ⟨x0, x1⟩ := LnAt.ofRow hrow hgx
            obtain ⟨y0, y1⟩ := LnAt.ofRow hrow hgy
            obtain ⟨⟨f1, f2⟩, f3, f4⟩ := at_fits (HM.out x (List.mem_of_getElem? hgx)) ht0 ht1
            obtain ⟨⟨g1, g2⟩, g3, g4⟩ := at_fits (HM.out y (List.mem_of_getElem? hgy)) ht0 ht1
            unfold atI at f3 f4 g3 g4 hst
            have k1 : IntKind.i64.wrap (x.r * t) = x.r * t := by rw [IntWalk.i64_in _ (by omega)]
            have k2 : IntKind.i64.wrap (x.b + x.r * t) = x.b + x.r * t := by rw [IntWalk.i64_in _ (by omega)]
            have k3 : IntKind.i64.wrap (y.r * t) = y.r * t := by rw [IntWalk.i64_in _ (by omega)]
            have k4 : IntKind.i64.wrap (y.b + y.r * t) = y.b + y.r * t := by rw [IntWalk.i64_in _ (by omega)]
            clear hrow hgx hgy f1 f2 f3 f4 g1 g2 g3 g4
            by_cases hxy : x.b + x.r * t ≤ y.b + y.r * t
            · rw [if_pos hxy] at hst
              have HST := Lib.hid hst
              clear hst
              go_wp2_with fail
              go_quiet (fail)
              go_wp2_with fail
              go_roundg (c.length - (k + 1))
              case measure => omega
              case rel => exact ⟨k + 1, by omega, by omega, by go_num, by rw [HST.out], bl_drewN HB _⟩
            · rw [if_neg hxy] at hst
              have HST := Lib.hid hst
              clear hst
              go_wp2_with fail
              go_quiet (fail)
              go_wp2_with fail
              go_roundg (c.length - (k + 1))
              case measure => omega
              case rel => exact ⟨k + 1, by omega, by omega, by go_num, by rw [HST.out], bl_drewN HB _⟩
        · obtain rfl : k = c.length := by omega
          have hltz : ¬ ((c.length : Nat) : Int) < ((c.length : Nat) : Int) := by omega
          have hfl := longTo_low c t (firstTo c t c.length) _ (Nat.le_refl _)
          have hle := long_each HOK.out ht0 ht1
          have hlk := fun he => later_ok HOK.out ht0 he
          have hen := fun (a b : Int) (h1 : 0 ≤ a) (h2 : 0 < b) => later_env (norm_idx.1 HN.out) ht0 hne h1 h2
          generalize hff : firstTo c t c.length = f at *
          have HFF := Lib.hid (And.intro hff (And.intro hfl (And.intro hle (And.intro hlk hen))))
          have HB3 := Lib.hid HB
          clear hff hfl hle hlk hen HB
          go_wp2_with fail
          obtain ⟨wa, hwa⟩ : ∃ wa, wa = wr := ⟨_, rfl⟩
          subst hwa
          go_loopg [9, 12] (c.length + 1) (fun gg s9 s12 wr => ∃ k : Nat, k ≤ c.length ∧ f ≤ k ∧ c.length - k ≤ gg ∧ s12 = .int .i64 k ∧ s9 = .bool (longTo c t f k) ∧ Aside (Below wa.heap.size wa wr))
          case atStart => exact ⟨f, by omega, Nat.le_refl _, by omega, rfl, by rw [HFF.out.2.1], Below.refl _ _⟩
          case round =>
            obtain ⟨k, hk, hfk, hgg, rfl, rfl, HB⟩ := hrel
            by_cases hlt : k < c.length
            · have hltz : (k : Int) < (c.length : Int) := by omega
              have hgx : c[k]? = some c[k] := List.getElem?_eq_getElem hlt
              have hst : longTo c t f (k + 1) = (longTo c t f k || decide (1000000000 < atI c[k] t)) := by
                rw [longTo]
                simp [List.getD, hlt, hfk]
              generalize c[k] = x at hgx hst
              rcases H.out.below (bl_then HB1.out (bl_then HB2.out (bl_then HB3.out HB.out))) with ⟨e1, e2⟩ | ⟨b, o, c2, e1, _, _, hrow⟩
              · subst e2; simp at hlt
              · simp only [Value.slice.injEq] at e1
                obtain ⟨rfl, -, rfl⟩ := e1
                obtain ⟨x0, x1⟩ := LnAt.ofRow hrow hgx
                obtain ⟨⟨f1, f2⟩, f3, f4⟩ := at_fits (HM.out x (List.mem_of_getElem? hgx)) ht0 ht1
                unfold atI at f3 f4 hst
                have k1 : IntKind.i64.wrap (x.r * t) = x.r * t := by rw [IntWalk.i64_in _ (by omega)]
                have k2 : IntKind.i64.wrap (x.b + x.r * t) = x.b + x.r * t := by rw [IntWalk.i64_in _ (by omega)]
                have HST := Lib.hid hst
                clear hrow hgx f1 f2 f3 f4 hst
                generalize longTo c t f k = lb at *
                cases lb with
                | true =>
                  go_wp2_with fail
                  go_quiet (fail)
                  go_wp2_with fail
                  go_roundg (c.length - (k + 1))
                  case measure => omega
                  case rel => exact ⟨k + 1, by omega, by omega, by omega, by go_num, by rw [HST.out]; rfl, bl_drewN HB _⟩
                | false =>
                  go_wp2_with fail
                  go_quiet (fail)
                  go_wp2_with fail
                  go_roundg (c.length - (k + 1))
                  case measure => omega
                  case rel => exact ⟨k + 1, by omega, by omega, by omega, by go_num, by rw [HST.out]; rfl, bl_drewN HB _⟩
            · obtain rfl : k = c.length := by omega
              have hltz : ¬ ((c.length : Nat) : Int) < ((c.length : Nat) : Int) := by omega
              have HBB : Hid (Below w1.heap.size w1 wr) := Lib.hid (bl_then HB2.out (bl_then HB3.out HB.out))
              obtain ⟨hff, hfl, hle, hlk, hen⟩ := HFF.out
              generalize longTo c t f c.length = lb at *
              clear HFF hfl HB HB2 HB3
              cases lb with
              | true =>
                have he : eachB (laterL c t) = false := by simpa using hle
                obtain ⟨h1, -⟩ | ⟨-, rfl, rfl⟩ := HALL.out
                · rw [he] at h1; cases h1
                clear HALL hle hlk hen he hff
                go_wp2_with (first | (go_at_call 14; (with_reducible refine (told_any (.slice A5 0 c5) _ [] [] 3 3 _ (HS5.out.below HBB.out) SAt.nil).mono ?_); rintro e w' ⟨rfl, hb⟩; replace HBB := Lib.hid (bl_then HBB.out hb); clear hb) | (go_at_call 11; (with_reducible refine (known_any _).mono ?_); rintro e w' ⟨rfl, hb⟩; replace HBB := Lib.hid (bl_then HBB.out hb); clear hb))
                all_goals (rw [HR.out]; exact ⟨rfl, bl_then HB1.out HBB.out⟩)
              | false =>
                have he : eachB (laterL c t) = true := by simpa using hle
                obtain ⟨-, rfl, rfl⟩ | ⟨h1, -⟩ := HALL.out
                rotate_left 1
                · rw [he] at h1; cases h1
                have hrr := fun W hb => rright_any _ (laterL c t) W (HS5.out.below hb)
                rw [hlk he] at hrr
                have HRR := Lib.hid hrr
                have hne7 := (okC_may (hlk he)).1
                have hm7 := (okC_may (hlk he)).2.1
                have HE := Lib.hid hen
                obtain ⟨cn, cd⟩ := HND.out _ HBB.out
                clear HALL hle hlk hrr he hen hff
                generalize laterL c t = ls at *
                go_upto_region 19 with fail
                go_quiet (fail)
                replace HBB : Hid (Below w1.heap.size w1 (wr.drewN nq)) := Lib.hid (bl_drewN HBB.out nq)
                clear cn cd
                by_cases g0 : n < 0
                · go_wp2_with (first | (go_at_call 20; (with_reducible refine (HRR.out _ HBB.out).mono ?_); rintro e w' ⟨rfl, hb⟩; replace HBB := Lib.hid (bl_then HBB.out hb); clear hb) | (go_at_call 11; (with_reducible refine (known_any _).mono ?_); rintro e w' ⟨rfl, hb⟩; replace HBB := Lib.hid (bl_then HBB.out hb); clear hb) | (go_at_call 18; (with_reducible refine (HA1.out _ HBB.out).mono ?_); rintro e w' ⟨rfl, hb⟩; replace HBB := Lib.hid (bl_then HBB.out hb); clear hb) | (go_at_call 18; (with_reducible refine (HA2.out _ HBB.out).mono ?_); rintro e w' ⟨rfl, hb⟩; replace HBB := Lib.hid (bl_then HBB.out hb); clear hb))
                  all_goals (rw [HR.out]; exact ⟨rfl, bl_then HB1.out HBB.out⟩)
                · have i0 : 0 ≤ n := by omega
                  by_cases g1 : (1000000 : Int) < n
                  · go_wp2_with (first | (go_at_call 20; (with_reducible refine (HRR.out _ HBB.out).mono ?_); rintro e w' ⟨rfl, hb⟩; replace HBB := Lib.hid (bl_then HBB.out hb); clear hb) | (go_at_call 11; (with_reducible refine (known_any _).mono ?_); rintro e w' ⟨rfl, hb⟩; replace HBB := Lib.hid (bl_then HBB.out hb); clear hb) | (go_at_call 18; (with_reducible refine (HA1.out _ HBB.out).mono ?_); rintro e w' ⟨rfl, hb⟩; replace HBB := Lib.hid (bl_then HBB.out hb); clear hb) | (go_at_call 18; (with_reducible refine (HA2.out _ HBB.out).mono ?_); rintro e w' ⟨rfl, hb⟩; replace HBB := Lib.hid (bl_then HBB.out hb); clear hb))
                    all_goals (rw [HR.out]; exact ⟨rfl, bl_then HB1.out HBB.out⟩)
                  · have i1 : n ≤ 1000000 := by omega
                    by_cases g2 : d < 1
                    · go_wp2_with (first | (go_at_call 20; (with_reducible refine (HRR.out _ HBB.out).mono ?_); rintro e w' ⟨rfl, hb⟩; replace HBB := Lib.hid (bl_then HBB.out hb); clear hb) | (go_at_call 11; (with_reducible refine (known_any _).mono ?_); rintro e w' ⟨rfl, hb⟩; replace HBB := Lib.hid (bl_then HBB.out hb); clear hb) | (go_at_call 18; (with_reducible refine (HA1.out _ HBB.out).mono ?_); rintro e w' ⟨rfl, hb⟩; replace HBB := Lib.hid (bl_then HBB.out hb); clear hb) | (go_at_call 18; (with_reducible refine (HA2.out _ HBB.out).mono ?_); rintro e w' ⟨rfl, hb⟩; replace HBB := Lib.hid (bl_then HBB.out hb); clear hb))
                      all_goals (rw [HR.out]; exact ⟨rfl, bl_then HB1.out HBB.out⟩)
                    · have i2 : 1 ≤ d := by omega
                      by_cases g3 : (100 : Int) < d
                      · go_wp2_with (first | (go_at_call 20; (with_reducible refine (HRR.out _ HBB.out).mono ?_); rintro e w' ⟨rfl, hb⟩; replace HBB := Lib.hid (bl_then HBB.out hb); clear hb) | (go_at_call 11; (with_reducible refine (known_any _).mono ?_); rintro e w' ⟨rfl, hb⟩; replace HBB := Lib.hid (bl_then HBB.out hb); clear hb) | (go_at_call 18; (with_reducible refine (HA1.out _ HBB.out).mono ?_); rintro e w' ⟨rfl, hb⟩; replace HBB := Lib.hid (bl_then HBB.out hb); clear hb) | (go_at_call 18; (with_reducible refine (HA2.out _ HBB.out).mono ?_); rintro e w' ⟨rfl, hb⟩; replace HBB := Lib.hid (bl_then HBB.out hb); clear hb))
                        all_goals (rw [HR.out]; exact ⟨rfl, bl_then HB1.out HBB.out⟩)
                      · have i3 : d ≤ 100 := by omega
                        by_cases g4 : (1000000 : Int) < t
                        · go_wp2_with (first | (go_at_call 20; (with_reducible refine (HRR.out _ HBB.out).mono ?_); rintro e w' ⟨rfl, hb⟩; replace HBB := Lib.hid (bl_then HBB.out hb); clear hb) | (go_at_call 11; (with_reducible refine (known_any _).mono ?_); rintro e w' ⟨rfl, hb⟩; replace HBB := Lib.hid (bl_then HBB.out hb); clear hb) | (go_at_call 18; (with_reducible refine (HA1.out _ HBB.out).mono ?_); rintro e w' ⟨rfl, hb⟩; replace HBB := Lib.hid (bl_then HBB.out hb); clear hb) | (go_at_call 18; (with_reducible refine (HA2.out _ HBB.out).mono ?_); rintro e w' ⟨rfl, hb⟩; replace HBB := Lib.hid (bl_then HBB.out hb); clear hb))
                          all_goals (rw [HR.out]; exact ⟨rfl, bl_then HB1.out HBB.out⟩)
                        · have i4 : t ≤ 1000000 := by omega
                          have k0 := Int.mul_nonneg ht0 (by omega : (0 : Int) ≤ d)
                          have k9 : t * d ≤ 1000000 * 100 := Int.mul_le_mul i4 i3 (by omega) (by omega)
                          have k1 : IntKind.i64.wrap (t * d) = t * d := by rw [IntWalk.i64_in _ (by omega)]
                          have k2 : IntKind.i64.wrap (n + t * d) = n + t * d := by rw [IntWalk.i64_in _ (by omega)]
                          have ha1 := fun W hb => rat_any _ ls n d W (HS5.out.below hb) hne7 (fun l hl => sumFits_of (hm7 l hl) i0 (by omega) (by omega) (by omega))
                          have ha2 := fun W hb => rat_any _ c (n + t * d) d W (H.out.below hb) hne (fun l hl => sumFits_of (HM.out l hl) (by omega) (by omega) (by omega) (by omega))
                          rw [HE.out n d i0 (by omega)] at ha1
                          have HA1 := Lib.hid ha1
                          have HA2 : Hid (∀ W, Below w1.heap.size w1 W → Calls Try.prog 18 #[.slice A c.length cc, .int .i64 (n + t * d), .int .i64 d] W fun e w' => e = .returned (.int .i64 (htC c (n + t * d) d)) ∧ Below W.heap.size W w') := Lib.hid fun W hW => ha2 W (bl_then HB1.out hW)
                          clear ha1 ha2 k0 k9 hm7
                          generalize htC c (n + t * d) d = hh at *
                          go_wp2_with (first | (go_at_call 20; (with_reducible refine (HRR.out _ HBB.out).mono ?_); rintro e w' ⟨rfl, hb⟩; replace HBB := Lib.hid (bl_then HBB.out hb); clear hb) | (go_at_call 11; (with_reducible refine (known_any _).mono ?_); rintro e w' ⟨rfl, hb⟩; replace HBB := Lib.hid (bl_then HBB.out hb); clear hb) | (go_at_call 18; (with_reducible refine (HA1.out _ HBB.out).mono ?_); rintro e w' ⟨rfl, hb⟩; replace HBB := Lib.hid (bl_then HBB.out hb); clear hb) | (go_at_call 18; (with_reducible refine (HA2.out _ HBB.out).mono ?_); rintro e w' ⟨rfl, hb⟩; replace HBB := Lib.hid (bl_then HBB.out hb); clear hb))
                          all_goals (rw [HR.out]; exact ⟨rfl, bl_then HB1.out HBB.out⟩)
  · have hz : (40 : Int) < (c.length : Int) := by omega
    clear hri hla
    go_enter Try.func4, Try.ntmps4
    go_wp2_with (go_at_call 11; refine (known_any _).mono ?_; rintro e w' ⟨rfl, hb⟩)
    all_goals (rw [HR.out]; exact ⟨rfl, bl_then HB0.out hb⟩)
end Go.Proofs.Ytmkjiflliejjjaa
