/- Curve: CurveMakes. -/
import Derived.Test.YtmkjiflliejjjaaCurV
namespace Go.Proofs.Ytmkjiflliejjjaa
open Go.RowKit Go.Shelf Go.Sort
set_option linter.unusedVariables false
set_option linter.unusedSimpArgs false
attribute [local go_sem] Oper.semAt_some
set_option maxRecDepth 100000 in
set_option maxHeartbeats 1000000 in
theorem lmay_any (v : Value) (c : List Ln) (w : World) (h : SAt Ln.cells 2 w v c) :
    Calls Try.prog 13 #[v] w fun e w' => e = .returned (.bool (eachB c)) ∧ Below w.heap.size w w' := by
  have hlm := h.len
  unfold maxLen at hlm
  obtain ⟨A, cc, rfl⟩ := h.slice
  have HS := Lib.hid h
  generalize hR : eachB c = R
  have HR := Lib.hid hR
  clear h hR
  go_enter Try.func13, Try.ntmps13
  go_wp2_with fail
  go_loopg [3] (c.length + 1) (fun gg s3 wr => ∃ k : Nat, k ≤ c.length ∧ c.length - k ≤ gg ∧ s3 = .int .i64 k ∧ Aside (∀ i x, i < k → c[i]? = some x → mayB x = true) ∧ Aside (Below w.heap.size w wr))
  case atStart => exact ⟨0, by omega, by omega, rfl, fun i x hi => by omega, Below.refl _ _⟩
  case round =>
    obtain ⟨k, hk, hgg, rfl, HN, HB⟩ := hrel
    by_cases hlt : k < c.length
    · have hltz : (k : Int) < (c.length : Int) := by omega
      have hgk : c[k]? = some c[k] := List.getElem?_eq_getElem hlt
      generalize c[k] = x at hgk
      rcases HS.out.below HB.out with ⟨h1, h2⟩ | ⟨b, o, c', h1, _, _, hrow⟩
      · subst h2; simp at hlt
      simp only [Value.slice.injEq] at h1
      obtain ⟨rfl, -, rfl⟩ := h1
      obtain ⟨c0, c1⟩ := LnAt.ofRow hrow hgk
      have HK := Lib.hid hgk
      have hma := fun W => rmay_any x W
      cases hq : mayB x with
      | false =>
        rw [hq] at hma
        have HQ := Lib.hid hq
        clear hrow hgk hq
        go_wp2_with (go_at_call 34; refine (hma _).mono ?_; rintro e w' ⟨rfl, hb⟩; have HB' := Lib.hid hb; clear hb)
        go_ret
        refine ⟨?_, bl_then HB.out HB'.out⟩
        rw [← HR.out]
        cases he : eachB c with
        | false => rfl
        | true => have := (eachB_iff.1 he).2 x (List.mem_of_getElem? HK.out); rw [HQ.out] at this; cases this
      | true =>
        rw [hq] at hma
        have HQ := Lib.hid hq
        clear hrow hgk hq
        go_wp2_with (go_at_call 34; refine (hma _).mono ?_; rintro e w' ⟨rfl, hb⟩; have HB' := Lib.hid hb; clear hb)
        go_roundg (c.length - (k + 1))
        case measure => omega
        case rel =>
          refine ⟨k + 1, by omega, by omega, by go_num, (show Aside _ from fun i y hi hy => ?_), bl_then HB.out HB'.out⟩
          by_cases e : i = k
          · subst e; rw [HK.out] at hy; cases hy; exact HQ.out
          · exact HN.out i y (by omega) hy
    · obtain rfl : k = c.length := by omega
      have hltz : ¬ ((c.length : Nat) : Int) < ((c.length : Nat) : Int) := by omega
      have hall : 0 < c.length → R = true := fun h0 => by
        rw [← HR.out, eachB_iff]
        exact ⟨List.length_pos_iff.1 h0, fun x hx => by
          obtain ⟨i, hi⟩ := List.getElem?_of_mem hx
          exact HN.out i x (List.getElem?_eq_some_iff.1 hi).1 hi⟩
      have HALL := Lib.hid hall
      clear hall
      by_cases h0 : 0 < c.length
      · have h0z : (0 : Int) < (c.length : Int) := by omega
        go_wp2_with fail
        go_ret
        exact ⟨by rw [HALL.out h0] <;> simp [h0], HB.out⟩
      · have h0z : ¬ (0 : Int) < (c.length : Int) := by omega
        go_wp2_with fail
        go_ret
        exact ⟨by rw [← HR.out]; simp [h0, eachB], HB.out⟩
theorem low_env {ls : List Ln} (hne : ls ≠ []) {n d : Int} (h0 : 0 ≤ n) (hd : 0 < d) : htC (lowL ls) n d = htC ls n d :=
  Int.le_antisymm (dom_le (low_dom (lowL_is ls)) hne h0 hd) (dom_le (fun y hy n d h0 hd' => ⟨y, low_mem (lowL_is ls) y hy, Int.le_refl _⟩) (lowL_ne hne) h0 hd)
theorem made_ok {ls : List Ln} (h : madeB ls = true) : okC (lowL ls) = true := by
  unfold madeB at h
  simp only [Bool.and_eq_true, decide_eq_true_eq] at h
  unfold okC
  rw [h.2, (normRB_iff _).2 (low_norm (lowL_is ls))]
  simp [h.1]
set_option maxRecDepth 100000 in
set_option maxHeartbeats 4000000 in
theorem curveMakes_any (v : Value) (ls : List Ln) (n d : Int) (w : World) (h : SAt Ln.cells 2 w v ls) :
    Calls Try.prog 3 #[v, .int .i64 n, .int .i64 d] w fun e w' => e = .returned (.bool true) ∧ Below w.heap.size w w' := by
  have hlm := h.len
  unfold maxLen at hlm
  have H := Lib.hid h
  have hmy := fun W hb => lmay_any v ls W (h.below hb)
  obtain ⟨A, cc, rfl⟩ := h.slice
  clear h
  obtain ⟨R, hR⟩ : ∃ R : Ending → World → Prop, R = fun e w' => e = .returned (.bool true) ∧ Below w.heap.size w w' := ⟨_, rfl⟩
  rw [← hR]
  have HR := Lib.hid hR
  clear hR
  have HB : Hid (Below w.heap.size w w) := Lib.hid (Below.refl _ _)
  by_cases h40 : ls.length ≤ 40
  · have hz : ¬ (40 : Int) < (ls.length : Int) := by omega
    cases hq : eachB ls with
    | false =>
      rw [hq] at hmy
      have hmk := fun W hb => make_no _ ls W (H.out.below hb) hq
      have hto := fun W => told_any (.slice none 0 0) (.slice none 0 0) [] [] 2 2 W SAt.nil SAt.nil
      have HX := Lib.hid (And.intro hmy (And.intro hmk hto))
      clear hmy hmk hto hq
      go_enter Try.func3, Try.ntmps3
      go_wp2_with (first | (go_at_call 12; (with_reducible refine (HX.out.2.1 _ HB.out).mono ?_); rintro e w' ⟨rfl, hb⟩; replace HB := Lib.hid (bl_then HB.out hb); clear hb) | (go_at_call 13; (with_reducible refine (HX.out.1 _ HB.out).mono ?_); rintro e w' ⟨rfl, hb⟩; replace HB := Lib.hid (bl_then HB.out hb); clear hb) | (go_at_call 14; (with_reducible refine (HX.out.2.2 _).mono ?_); rintro e w' ⟨rfl, hb⟩; replace HB := Lib.hid (bl_then HB.out hb); clear hb) | (go_at_call 11; (with_reducible refine (known_any _).mono ?_); rintro e w' ⟨rfl, hb⟩; replace HB := Lib.hid (bl_then HB.out hb); clear hb))
      all_goals (rw [HR.out]; exact ⟨rfl, HB.out⟩)
    | true =>
      rw [hq] at hmy
      have HMY := Lib.hid hmy
      obtain ⟨hne, hmm⟩ := eachB_iff.1 hq
      have hmk := make_yes _ ls w H.out hq (by omega)
      have hrm := fun W hb => rmade_any _ ls W (H.out.below hb) hne (fun l hl => fits_of (hmm l hl)) (by omega)
      have HX := Lib.hid (And.intro hmk hrm)
      have HQ := Lib.hid (And.intro hne hmm)
      clear hmy hmk hrm hq hne hmm
      go_enter Try.func3, Try.ntmps3
      go_wp2_with fail
      refine HX.out.1.mono ?_
      rintro e w1 hm
      obtain ⟨⟨hmb, v1, rfl, hs1⟩ | ⟨hmb, rfl⟩, hb1⟩ := made_is hm
      · clear hm HB
        have HB := Lib.hid hb1
        have HOK := Lib.hid (made_ok hmb)
        have hllen := low_len (lowL_is ls)
        have HEN : Hid (∀ n d : Int, 0 ≤ n → 0 < d → htC (lowL ls) n d = htC ls n d) := Lib.hid fun n d h0 hd => low_env HQ.out.1 h0 hd
        have HRM : Hid (∀ W, Below w.heap.size w W → Calls Try.prog 15 #[.slice A ls.length cc] W fun e w' => (∃ v', e = .returned (.tuple #[v', .int .i64 0]) ∧ SAt Ln.cells 2 w' v' (lowL ls)) ∧ Below W.heap.size W w') := Lib.hid fun W hb => (HX.out.2 W hb).mono fun e w' hh => by
          obtain ⟨⟨_, hh⟩ | ⟨hx, _⟩, hb⟩ := hh
          · exact ⟨hh, hb⟩
          · rw [hmb] at hx; cases hx
        clear HX hmb
        generalize lowL ls = c at *
        obtain ⟨A1, c1, rfl⟩ := hs1.slice
        have HS1 := Lib.hid hs1
        have HW1 := Lib.hid hb1
        clear hs1 hb1
        have HB' : Hid (Below w1.heap.size w1 w1) := Lib.hid (Below.refl _ _)
        go_wp2_with (go_at_call 13; (with_reducible refine (HMY.out _ HB.out).mono ?_); rintro e w' ⟨rfl, hb⟩; replace HB := Lib.hid (bl_then HB.out hb); replace HB' := Lib.hid (bl_then HB'.out hb); clear hb)
        refine (HRM.out _ HB.out).mono ?_
        rintro e w2 ⟨⟨v2, rfl, hs2⟩, hb⟩
        replace HB := Lib.hid (bl_then HB.out hb)
        replace HB' := Lib.hid (bl_then HB'.out hb)
        obtain ⟨A2, c2, rfl⟩ := hs2.slice
        have HS2 := Lib.hid hs2
        clear hb hs2
        go_wp2_with fail
        refine (told_any _ _ c c 0 0 _ (HS1.out.below HB'.out) HS2.out).mono ?_
        rw [show (decide ((0 : Int) = 0) && decide (c = c)) = true by simp]
        rintro e w3 ⟨rfl, hb⟩
        replace HB := Lib.hid (bl_then HB.out hb)
        replace HB' := Lib.hid (bl_then HB'.out hb)
        clear hb HS2
        by_cases g0 : n < 0
        · go_wp2_with (go_at_call 11; (with_reducible refine (known_any _).mono ?_); rintro e w' ⟨rfl, hb⟩; replace HB := Lib.hid (bl_then HB.out hb); replace HB' := Lib.hid (bl_then HB'.out hb); clear hb)
          all_goals (rw [HR.out]; exact ⟨rfl, HB.out⟩)
        by_cases g1 : (1000000 : Int) < n
        · go_wp2_with (go_at_call 11; (with_reducible refine (known_any _).mono ?_); rintro e w' ⟨rfl, hb⟩; replace HB := Lib.hid (bl_then HB.out hb); replace HB' := Lib.hid (bl_then HB'.out hb); clear hb)
          all_goals (rw [HR.out]; exact ⟨rfl, HB.out⟩)
        by_cases g2 : d < 1
        · go_wp2_with (go_at_call 11; (with_reducible refine (known_any _).mono ?_); rintro e w' ⟨rfl, hb⟩; replace HB := Lib.hid (bl_then HB.out hb); replace HB' := Lib.hid (bl_then HB'.out hb); clear hb)
          all_goals (rw [HR.out]; exact ⟨rfl, HB.out⟩)
        by_cases g3 : (100 : Int) < d
        · go_wp2_with (go_at_call 11; (with_reducible refine (known_any _).mono ?_); rintro e w' ⟨rfl, hb⟩; replace HB := Lib.hid (bl_then HB.out hb); replace HB' := Lib.hid (bl_then HB'.out hb); clear hb)
          all_goals (rw [HR.out]; exact ⟨rfl, HB.out⟩)
        have hch := fun W hb => check_any _ c W (HS1.out.below hb)
        rw [HOK.out, if_pos rfl] at hch
        obtain ⟨hcne, hcm, hc32, hcn⟩ := okC_may HOK.out
        have hno := fun W hb => normal_any _ c W (HS1.out.below hb) hcm
        rw [(normRB_iff _).2 hcn, decide_eq_true (List.length_pos_iff.2 hcne), Bool.and_true] at hno
        have ha1 := fun W hb => rat_any _ c n d W (HS1.out.below hb) hcne (fun l hl => sumFits_of (hcm l hl) (by omega) (by omega) (by omega) (by omega))
        have ha2 := fun W hb => rat_any _ ls n d W (H.out.below hb) HQ.out.1 (fun l hl => sumFits_of (HQ.out.2 l hl) (by omega) (by omega) (by omega) (by omega))
        rw [HEN.out n d (by omega) (by omega)] at ha1
        generalize htC ls n d = hh at *
        have HX := Lib.hid (And.intro hch (And.intro hno (And.intro ha1 ha2)))
        clear hch hno ha1 ha2 hcne hcm hc32 hcn HEN HOK HMY
        go_wp2_with (first | (go_at_call 16; (with_reducible refine (HX.out.1 _ HB'.out).mono ?_); rintro e w' ⟨rfl, hb⟩; replace HB := Lib.hid (bl_then HB.out hb); replace HB' := Lib.hid (bl_then HB'.out hb); clear hb) | (go_at_call 17; (with_reducible refine (HX.out.2.1 _ HB'.out).mono ?_); rintro e w' ⟨rfl, hb⟩; replace HB := Lib.hid (bl_then HB.out hb); replace HB' := Lib.hid (bl_then HB'.out hb); clear hb) | (go_at_call 18; (with_reducible refine (HX.out.2.2.1 _ HB'.out).mono ?_); rintro e w' ⟨rfl, hb⟩; replace HB := Lib.hid (bl_then HB.out hb); replace HB' := Lib.hid (bl_then HB'.out hb); clear hb) | (go_at_call 18; (with_reducible refine (HX.out.2.2.2 _ HB.out).mono ?_); rintro e w' ⟨rfl, hb⟩; replace HB := Lib.hid (bl_then HB.out hb); replace HB' := Lib.hid (bl_then HB'.out hb); clear hb) | (go_at_call 11; (with_reducible refine (known_any _).mono ?_); rintro e w' ⟨rfl, hb⟩; replace HB := Lib.hid (bl_then HB.out hb); replace HB' := Lib.hid (bl_then HB'.out hb); clear hb))
        all_goals (rw [HR.out]; exact ⟨rfl, HB.out⟩)
      · clear hm HB
        have HB := Lib.hid hb1
        have HRM : Hid (∀ W, Below w.heap.size w W → Calls Try.prog 15 #[.slice A ls.length cc] W fun e w' => e = .returned (.tuple #[.slice none 0 0, .int .i64 3]) ∧ Below W.heap.size W w') := Lib.hid fun W hb => (HX.out.2 W hb).mono fun e w' hh => by
          obtain ⟨⟨hx, _⟩ | ⟨_, hh⟩, hb⟩ := hh
          · rw [hmb] at hx; cases hx
          · exact ⟨hh, hb⟩
        have hto := fun W => told_any (.slice none 0 0) (.slice none 0 0) [] [] 3 3 W SAt.nil SAt.nil
        have HTO := Lib.hid hto
        clear HX hmb hb1 hto
        go_wp2_with (first | (go_at_call 15; (with_reducible refine (HRM.out _ HB.out).mono ?_); rintro e w' ⟨rfl, hb⟩; replace HB := Lib.hid (bl_then HB.out hb); clear hb) | (go_at_call 13; (with_reducible refine (HMY.out _ HB.out).mono ?_); rintro e w' ⟨rfl, hb⟩; replace HB := Lib.hid (bl_then HB.out hb); clear hb) | (go_at_call 14; (with_reducible refine (HTO.out _).mono ?_); rintro e w' ⟨rfl, hb⟩; replace HB := Lib.hid (bl_then HB.out hb); clear hb) | (go_at_call 11; (with_reducible refine (known_any _).mono ?_); rintro e w' ⟨rfl, hb⟩; replace HB := Lib.hid (bl_then HB.out hb); clear hb))
        all_goals (rw [HR.out]; exact ⟨rfl, HB.out⟩)
  · have hz : (40 : Int) < (ls.length : Int) := by omega
    clear hmy
    go_enter Try.func3, Try.ntmps3
    go_wp2_with (go_at_call 11; (with_reducible refine (known_any _).mono ?_); rintro e w' ⟨rfl, hb⟩; replace HB := Lib.hid (bl_then HB.out hb); clear hb)
    all_goals (rw [HR.out]; exact ⟨rfl, HB.out⟩)
end Go.Proofs.Ytmkjiflliejjjaa
