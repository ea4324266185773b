/- Curve: CurveTwice. -/
import Derived.Test.YtmkjiflliejjjaaCurW
import Derived.StillTailTactics
namespace Go.Proofs.Ytmkjiflliejjjaa
open Go.RowKit Go.Shelf Go.Sort
set_option linter.unusedVariables false
set_option linter.unusedSimpArgs false
attribute [local go_sem] Oper.semAt_some
theorem laterL_ne {c : List Ln} (t : Int) (hne : c ≠ []) : laterL c t ≠ [] := by
  have hl0 : 0 < c.length := List.length_pos_iff.2 hne
  have hf := firstTo_lt c t c.length (Nat.le_refl _) hl0
  unfold laterL
  intro e
  have := congrArg List.length e
  simp at this
  omega
theorem dom_of_le {a b : List Ln} (hne : a ≠ []) (h : ∀ n d : Int, 0 ≤ n → 0 < d → htC a n d ≤ htC b n d) : Dom a b := fun y hy n d h0 hd => by
  obtain ⟨u, hu, e⟩ := htC_mem hne n d
  have h1 := h n d h0 hd
  have h2 := htC_le (n := n) (d := d) hy
  exact ⟨u, hu, by omega⟩
theorem later_twice {c : List Ln} {s t : Int} (h : NormI c) (hne : c ≠ []) (hs : 0 ≤ s) (ht0 : 0 ≤ t) : laterL (laterL c s) t = laterL c (s + t) := by
  have n1 := later_norm h hs hne
  have e1 := laterL_ne s hne
  have he : ∀ n d : Int, 0 ≤ n → 0 < d → htC (laterL (laterL c s) t) n d = htC (laterL c (s + t)) n d := fun n d h0 hd => by
    have := Int.mul_nonneg ht0 (Int.le_of_lt hd)
    rw [later_env n1 ht0 e1 h0 hd, later_env h hs hne (by omega) hd, later_env h (by omega) hne h0 hd, Int.add_mul]
    congr 1
    omega
  exact hull_one (later_norm n1 ht0 e1) (later_norm h (by omega) hne) (dom_of_le (laterL_ne _ e1) fun n d h0 hd => Int.le_of_eq (he n d h0 hd)) (dom_of_le (laterL_ne _ hne) fun n d h0 hd => Int.le_of_eq (he n d h0 hd).symm)
theorem atI_mono {l : Ln} {s t : Int} (h : 0 ≤ l.r) (hst : s ≤ t) : atI l s ≤ atI l t := by
  have := Int.mul_le_mul_of_nonneg_left hst h
  unfold atI
  omega
theorem later_last {c : List Ln} {t : Int} {x : Ln} (hx : c[c.length - 1]? = some x) (hne : c ≠ []) : (laterL c t)[(laterL c t).length - 1]? = some ⟨atI x t, x.r⟩ := by
  have hl0 : 0 < c.length := List.length_pos_iff.2 hne
  have hf := firstTo_lt c t c.length (Nat.le_refl _) hl0
  unfold laterL
  rw [List.length_map, List.length_drop, List.getElem?_map, List.getElem?_drop, show firstTo c t c.length + (c.length - firstTo c t c.length - 1) = c.length - 1 by omega, hx]
  rfl
theorem later_high {c : List Ln} {s t : Int} (h : okC c = true) (hs : 0 ≤ s) (ht0 : 0 ≤ t) (he : eachB (laterL c s) = false) : eachB (laterL c (s + t)) = false := by
  cases hq : eachB (laterL c (s + t)) with
  | false => rfl
  | true =>
    obtain ⟨hne, hm, h32, hn⟩ := okC_may h
    have hni := norm_idx.1 hn
    have hl0 : 0 < c.length := List.length_pos_iff.2 hne
    obtain ⟨x, hx⟩ : ∃ x, c[c.length - 1]? = some x := ⟨_, List.getElem?_eq_getElem (by omega)⟩
    have hmx := (eachB_iff.1 hq).2 _ (List.mem_of_getElem? (later_last (t := s + t) hx hne))
    have hxm := hm x (List.mem_of_getElem? hx)
    have : eachB (laterL c s) = true := by
      refine eachB_iff.2 ⟨laterL_ne s hne, fun u hu => ?_⟩
      obtain ⟨i, hi⟩ := List.getElem?_of_mem hu
      have hil := (List.getElem?_eq_some_iff.1 hi).1
      have hu2 : u.b ≤ atI x s := by
        have hl := later_last (t := s) hx hne
        by_cases e : i = (laterL c s).length - 1
        · subst e; rw [hi] at hl; cases hl; exact Int.le_refl _
        · have := ((later_norm hni hs hne).lt ((laterL c s).length - 1 - i - 1) i u _ hi (by rw [← hl]; congr 1; omega)).1
          simp only at this
          omega
      obtain ⟨y, hy, rfl⟩ := later_get hi
      have hmy := hm y (List.mem_of_getElem? hy)
      simp only [mayB, inB, Bool.and_eq_true, decide_eq_true_eq] at hmx hxm hmy ⊢
      have h1 := atI_mono (l := x) hxm.2.1 (show s ≤ s + t by omega)
      have h2 := atI_mono (l := y) hmy.2.1 hs
      have h3 : atI y 0 = y.b := by unfold atI; omega
      simp only at hu2
      omega
    rw [this] at he
    cases he
theorem low_same {xs ys : List Ln} (h : ∀ z, z ∈ xs ↔ z ∈ ys) : lowL xs = lowL ys :=
  low_one (lowL_norm xs) (fun z hz => (h z).1 (low_mem (lowL_is xs) z hz)) (fun y hy n d h0 hd => low_dom (lowL_is xs) y ((h y).2 hy) n d h0 hd)
theorem each_same {xs ys : List Ln} (h : ∀ z, z ∈ xs ↔ z ∈ ys) : eachB xs = eachB ys := by
  rw [Bool.eq_iff_iff, eachB_iff, eachB_iff]
  constructor
  · rintro ⟨h1, h2⟩
    refine ⟨?_, fun l hl => h2 l ((h l).2 hl)⟩
    rintro rfl
    exact h1 (List.eq_nil_iff_forall_not_mem.2 fun z hz => by have := (h z).1 hz; simp at this)
  · rintro ⟨h1, h2⟩
    refine ⟨?_, fun l hl => h2 l ((h l).1 hl)⟩
    rintro rfl
    exact h1 (List.eq_nil_iff_forall_not_mem.2 fun z hz => by have := (h z).2 hz; simp at this)
theorem elLs : ElT Try.prog 22 39 2 16 (.agg #[.int .i64 0, .int .i64 0]) := ElT.mk' Try.underlying22 (by kernel_rfl) rfl (by decide)
set_option maxRecDepth 100000 in
set_option maxHeartbeats 8000000 in
theorem curveTwice_any (v : Value) (ls : List Ln) (s t : Int) (w : World) (h : SAt Ln.cells 2 w v ls) :
    Calls Try.prog 5 #[v, .int .i64 s, .int .i64 t] w fun e w' => e = .returned (.bool true) ∧ Below w.heap.size w w' := by
  have hlm := h.len
  unfold maxLen at hlm
  have H := Lib.hid h
  obtain ⟨A, cc, rfl⟩ := h.slice
  clear h
  obtain ⟨R, hR⟩ : ∃ R : Ending → World → Prop, R = fun e w' => e = .returned (.bool true) ∧ Below w.heap.size w w' := ⟨_, rfl⟩
  rw [← hR]
  have HR := Lib.hid hR
  clear hR
  by_cases h40 : ls.length ≤ 20
  · have hz : ¬ (20 : Int) < (ls.length : Int) := by omega
    go_enter Try.func5, Try.ntmps5
    go_wp2_with fail
    go_loopg [7, 8] (ls.length + 1) (fun gg s7 s8 wr => ∃ m : Nat, m ≤ ls.length ∧ ls.length - m ≤ gg ∧ s8 = .int .i64 ((ls.length : Int) - 1 - m) ∧ Aside (∃ ts : List Ln, wr.ownsRow w.heap.size 39 2 s7 ts.length (ts.flatMap Ln.cells) ∧ ts.length = 2 * m ∧ (∀ z ∈ ts, z ∈ ls) ∧ ∀ j z, ls.length - m ≤ j → ls[j]? = some z → z ∈ ts) ∧ Aside (Below w.heap.size w wr))
    case atStart => exact ⟨0, by omega, by omega, by simp, ⟨[], World.ownsRow_nil _ _ _ _, rfl, by simp, fun j z hj hz => by have := (List.getElem?_eq_some_iff.1 hz).1; omega⟩, Below.refl _ _⟩
    case round =>
      obtain ⟨m, hm, hgg, rfl, HT, HB⟩ := hrel
      by_cases hlt : m < ls.length
      · obtain ⟨i, hi⟩ : ∃ i : Nat, i = ls.length - 1 - m := ⟨_, rfl⟩
        have hie : (ls.length : Int) - 1 - m = (i : Int) := by omega
        have hil : i < ls.length := by omega
        have hilz : (i : Int) < (ls.length : Int) := by omega
        have hi0 : (0 : Int) ≤ (i : Int) := by omega
        have hgk : ls[i]? = some ls[i] := List.getElem?_eq_getElem hil
        generalize ls[i] = x at hgk
        rcases H.out.below HB.out with ⟨h1, h2⟩ | ⟨b, o, c', h1, _, _, hrow⟩
        · subst h2; simp at hlt
        simp only [Value.slice.injEq] at h1
        obtain ⟨rfl, -, rfl⟩ := h1
        obtain ⟨c0, c1⟩ := LnAt.ofRow hrow hgk
        obtain ⟨ts, hown, htl, hts, hall⟩ := HT.out
        obtain ⟨A5, c5, rfl⟩ := own_form hown
        have HO := Lib.hid hown
        have HQ := Lib.hid (And.intro htl (And.intro hts hall))
        have HK := Lib.hid hgk
        have HI := Lib.hid hi
        clear hrow hgk hown htl hts hall HT hi
        rw [hie]
        clear hie
        generalize hN : ts.length = N at *
        have HN := Lib.hid hN
        clear hN
        obtain ⟨w0, hw0⟩ : ∃ w0, w0 = wr := ⟨_, rfl⟩
        subst hw0
        have HBW : Hid (w.heap.size ≤ w0.heap.size) := Lib.hid HB.out.size
        go_wp2_with fail
        have HL1 : Hid (ts.length + [x, x].length ≤ maxLen ∧ (ts.length + [x, x].length) * 16 ≤ 140737488355328) := Lib.hid (by have := HQ.out.1; have := HN.out; simp only [maxLen, List.length_cons, List.length_nil]; omega)
        have hbw0 : b < w0.heap.size := World.block_lt_of_cell? w0 ⟨b, _, none⟩ c0
        go_region_law (refine step_app rfl (.tmp 30) (.tmp 39) rfl elLs (fun _ => rfl) ln_one (base := w.heap.size) (v := .slice A5 N c5) (src := .slice (some ⟨w0.heap.size, 0, none⟩) 2 2) (xs := ts) (ys := [x, x]) (by go_simp) (by go_simp) HN.out.symm ?_ ?_ ?_ HL1.out.1 HL1.out.2 ?_; (· exact own_lies HO.out (by repeat (first | exact Below.refl _ _ | refine bl_alloc ?_ _ | refine bl_drew ?_ | refine bl_drewN ?_ _))); (· exact sat_manyL _ [x, x] _ rfl rfl rfl rfl (by simp [maxLen])); (· have := HBW.out; simp <;> omega); intro v9 w9 hown9 hb9; have hb9 : Below w.heap.size w w9 := Below.trans (by repeat (first | exact HB.out | refine bl_alloc ?_ _ | refine bl_drew ?_ | refine bl_drewN ?_ _)) hb9)
        all_goals
          have HB9 := Lib.hid (And.intro hown9 hb9)
          clear hown9 hb9
          go_wp2_with fail
          go_roundg (ls.length - (m + 1))
          case measure => omega
          case rel =>
            refine ⟨m + 1, by omega, by omega, by have := HI.out; congr 1; omega, ⟨ts ++ [x, x], HB9.out.1, by have := HQ.out.1; have := HN.out; simp; omega, fun z hz => ?_, fun j z hj hz => ?_⟩, HB9.out.2⟩
            · rcases List.mem_append.1 hz with hz | hz
              · exact HQ.out.2.1 z hz
              · simp at hz; subst hz; exact List.mem_of_getElem? HK.out
            · by_cases e : j = i
              · subst e; rw [HK.out] at hz; cases hz; simp
              · exact List.mem_append_left _ (HQ.out.2.2 j z (by have := HI.out; omega) hz)
      · obtain rfl : m = ls.length := by omega
        obtain ⟨ts, hown, htl, hts, hall⟩ := HT.out
        have hsame : ∀ z, z ∈ ts ↔ z ∈ ls := fun z => ⟨hts z, fun hz => by obtain ⟨j, hj⟩ := List.getElem?_of_mem hz; exact hall j z (by omega) hj⟩
        have hsat := SAt.ofOwn (enc := Ln.cells) (fun _ => rfl) rfl hown
        have hme : madeB ts = madeB ls := by unfold madeB; rw [low_same hsame]
        have HX := Lib.hid (And.intro hsat (And.intro (low_same hsame) (And.intro (each_same hsame) (And.intro hme htl))))
        obtain ⟨A5, c5, rfl⟩ := hsat.slice
        have hneg : (ls.length : Int) - 1 - (ls.length : Int) = -1 := by omega
        clear hown htl hts hall hsame hsat hme HT
        rw [hneg]
        clear hneg
        obtain ⟨w0, hw0⟩ : ∃ w0, w0 = wr := ⟨_, rfl⟩
        subst hw0
        have HB0 := Lib.hid HB.out
        clear HB
        have HB : Hid (Below w.heap.size w w0) := Lib.hid HB0.out
        have HB' : Hid (Below w0.heap.size w0 w0) := Lib.hid (Below.refl _ _)
        have HS5 : Hid (SAt Ln.cells 2 w0 (.slice A5 ts.length c5) ts) := Lib.hid HX.out.1
        cases hq : eachB ls with
        | false =>
          have hq2 := HX.out.2.2.1
          rw [hq] at hq2
          have HM1 := Lib.hid fun W (hb : Below w.heap.size w W) => make_no _ ls W (H.out.below hb) hq
          have HM2 := Lib.hid fun W (hb : Below w0.heap.size w0 W) => make_no _ ts W (HS5.out.below hb) hq2
          have HSA := Lib.hid fun W => rsame_any (.slice none 0 0) (.slice none 0 0) [] [] W SAt.nil SAt.nil
          clear hq hq2
          go_wp2_with (first | (go_at_call 12; (with_reducible refine (HM1.out _ HB.out).mono ?_); rintro e w' ⟨rfl, hb⟩; replace HB := Lib.hid (bl_then HB.out hb); replace HB' := Lib.hid (bl_then HB'.out hb); clear hb) | (go_at_call 12; (with_reducible refine (HM2.out _ HB'.out).mono ?_); rintro e w' ⟨rfl, hb⟩; replace HB := Lib.hid (bl_then HB.out hb); replace HB' := Lib.hid (bl_then HB'.out hb); clear hb) | (go_at_call 21; (with_reducible refine (HSA.out _).mono ?_); rintro e w' ⟨rfl, hb⟩; replace HB := Lib.hid (bl_then HB.out hb); replace HB' := Lib.hid (bl_then HB'.out hb); clear hb) | (go_at_call 11; (with_reducible refine (known_any _).mono ?_); rintro e w' ⟨rfl, hb⟩; replace HB := Lib.hid (bl_then HB.out hb); replace HB' := Lib.hid (bl_then HB'.out hb); clear hb))
          all_goals (rw [HR.out]; exact ⟨rfl, HB.out⟩)
        | true =>
          have hq2 := HX.out.2.2.1
          rw [hq] at hq2
          have HM1 := Lib.hid fun W (hb : Below w.heap.size w W) => make_yes _ ls W (H.out.below hb) hq (by omega)
          have HM2 := Lib.hid fun W (hb : Below w0.heap.size w0 W) => make_yes _ ts W (HS5.out.below hb) hq2 (by have := HX.out.2.2.2.2; omega)
          clear hq2 hq
          cases hmb : madeB ls with
          | false =>
            have hmb2 := HX.out.2.2.2.1
            rw [hmb] at hmb2
            have HN1 : Hid (∀ W, Below w.heap.size w W → Calls Try.prog 12 #[.slice A ls.length cc] W fun e w' => e = .returned (.tuple #[.slice none 0 0, .int .i64 3]) ∧ Below W.heap.size W w') := Lib.hid fun W hb => (HM1.out W hb).mono fun e w' hh => by
              obtain ⟨⟨hx, _⟩ | ⟨_, hh⟩, hb⟩ := made_is hh
              · rw [hmb] at hx; cases hx
              · exact ⟨hh, hb⟩
            have HN2 : Hid (∀ W, Below w0.heap.size w0 W → Calls Try.prog 12 #[.slice A5 ts.length c5] W fun e w' => e = .returned (.tuple #[.slice none 0 0, .int .i64 3]) ∧ Below W.heap.size W w') := Lib.hid fun W hb => (HM2.out W hb).mono fun e w' hh => by
              obtain ⟨⟨hx, _⟩ | ⟨_, hh⟩, hb⟩ := made_is hh
              · rw [hmb2] at hx; cases hx
              · exact ⟨hh, hb⟩
            have HSA := Lib.hid fun W => rsame_any (.slice none 0 0) (.slice none 0 0) [] [] W SAt.nil SAt.nil
            clear hmb hmb2
            go_wp2_with (first | (go_at_call 12; (with_reducible refine (HN1.out _ HB.out).mono ?_); rintro e w' ⟨rfl, hb⟩; replace HB := Lib.hid (bl_then HB.out hb); replace HB' := Lib.hid (bl_then HB'.out hb); clear hb) | (go_at_call 12; (with_reducible refine (HN2.out _ HB'.out).mono ?_); rintro e w' ⟨rfl, hb⟩; replace HB := Lib.hid (bl_then HB.out hb); replace HB' := Lib.hid (bl_then HB'.out hb); clear hb) | (go_at_call 21; (with_reducible refine (HSA.out _).mono ?_); rintro e w' ⟨rfl, hb⟩; replace HB := Lib.hid (bl_then HB.out hb); replace HB' := Lib.hid (bl_then HB'.out hb); clear hb) | (go_at_call 11; (with_reducible refine (known_any _).mono ?_); rintro e w' ⟨rfl, hb⟩; replace HB := Lib.hid (bl_then HB.out hb); replace HB' := Lib.hid (bl_then HB'.out hb); clear hb))
            all_goals (rw [HR.out]; exact ⟨rfl, HB.out⟩)
          | true =>
            have hmb2 := HX.out.2.2.2.1
            rw [hmb] at hmb2
            have hok := made_ok hmb
            obtain ⟨hcne, hcm, hc32, hcn⟩ := okC_may hok
            have hlt2 := fun (h1 : 0 ≤ s) (h2 : 0 ≤ t) => later_twice (norm_idx.1 hcn) hcne h1 h2
            have hhi := fun (h1 : 0 ≤ s) (h2 : 0 ≤ t) => later_high hok h1 h2
            have HN1 : Hid (∀ W, Below w.heap.size w W → Calls Try.prog 12 #[.slice A ls.length cc] W fun e w' => (∃ v', e = .returned (.tuple #[v', .int .i64 0]) ∧ SAt Ln.cells 2 w' v' (lowL ls)) ∧ Below W.heap.size W w') := Lib.hid fun W hb => (HM1.out W hb).mono fun e w' hh => by
              obtain ⟨⟨_, hh⟩ | ⟨hx, _⟩, hb⟩ := made_is hh
              · exact ⟨hh, hb⟩
              · rw [hmb] at hx; cases hx
            have HN2 : Hid (∀ W, Below w0.heap.size w0 W → Calls Try.prog 12 #[.slice A5 ts.length c5] W fun e w' => (∃ v', e = .returned (.tuple #[v', .int .i64 0]) ∧ SAt Ln.cells 2 w' v' (lowL ls)) ∧ Below W.heap.size W w') := Lib.hid fun W hb => (HM2.out W hb).mono fun e w' hh => by
              obtain ⟨⟨_, hh⟩ | ⟨hx, _⟩, hb⟩ := made_is hh
              · rw [HX.out.2.1] at hh; exact ⟨hh, hb⟩
              · rw [hmb2] at hx; cases hx
            have HC := Lib.hid (And.intro hok (And.intro hlt2 hhi))
            clear hmb hmb2 hok hcne hcm hc32 hcn hlt2 hhi HM1 HM2 HX
            generalize lowL ls = c at *
            generalize ts.length = N at *
            go_wp2_with fail
            refine (HN1.out _ HB.out).mono ?_
            rintro e w1 ⟨⟨v1, rfl, hs1⟩, hb⟩
            obtain ⟨A1, c1, rfl⟩ := hs1.slice
            have HS1 := Lib.hid hs1
            have HW1 := Lib.hid (bl_then HB.out hb)
            have HW1' := Lib.hid (bl_then HB'.out hb)
            clear hb hs1 HB HB'
            have HB : Hid (Below w.heap.size w w1) := Lib.hid HW1.out
            have HB' : Hid (Below w1.heap.size w1 w1) := Lib.hid (Below.refl _ _)
            go_wp2_with fail
            refine (HN2.out _ HW1'.out).mono ?_
            rintro e w2 ⟨⟨v2, rfl, hs2⟩, hb⟩
            obtain ⟨A2, c2, rfl⟩ := hs2.slice
            have HS2 := Lib.hid hs2
            replace HB := Lib.hid (bl_then HB.out hb)
            replace HB' := Lib.hid (bl_then HB'.out hb)
            clear hb hs2
            go_wp2_with fail
            refine (rsame_any _ _ c c _ (HS1.out.below HB'.out) HS2.out).mono ?_
            rw [show decide (c = c) = true by simp]
            rintro e w3 ⟨rfl, hb⟩
            replace HB := Lib.hid (bl_then HB.out hb)
            replace HB' := Lib.hid (bl_then HB'.out hb)
            clear hb HS2
            by_cases g0 : s < 0
            · go_wp2_with (go_at_call 11; (with_reducible refine (known_any _).mono ?_); rintro e w' ⟨rfl, hb⟩; replace HB := Lib.hid (bl_then HB.out hb); replace HB' := Lib.hid (bl_then HB'.out hb); clear hb)
              all_goals (rw [HR.out]; exact ⟨rfl, HB.out⟩)
            by_cases g1 : t < 0
            · go_wp2_with (go_at_call 11; (with_reducible refine (known_any _).mono ?_); rintro e w' ⟨rfl, hb⟩; replace HB := Lib.hid (bl_then HB.out hb); replace HB' := Lib.hid (bl_then HB'.out hb); clear hb)
              all_goals (rw [HR.out]; exact ⟨rfl, HB.out⟩)
            by_cases g2 : (1000 : Int) < s
            · go_wp2_with (go_at_call 11; (with_reducible refine (known_any _).mono ?_); rintro e w' ⟨rfl, hb⟩; replace HB := Lib.hid (bl_then HB.out hb); replace HB' := Lib.hid (bl_then HB'.out hb); clear hb)
              all_goals (rw [HR.out]; exact ⟨rfl, HB.out⟩)
            by_cases g3 : (1000 : Int) < t
            · go_wp2_with (go_at_call 11; (with_reducible refine (known_any _).mono ?_); rintro e w' ⟨rfl, hb⟩; replace HB := Lib.hid (bl_then HB.out hb); replace HB' := Lib.hid (bl_then HB'.out hb); clear hb)
              all_goals (rw [HR.out]; exact ⟨rfl, HB.out⟩)
            have i0 : 0 ≤ s := by omega
            have i1 : 0 ≤ t := by omega
            have hst := HC.out.2.1 i0 i1
            have hhi := HC.out.2.2 i0 i1
            have hlok := later_ok (t := s) HC.out.1 i0
            have L1 := Lib.hid fun W (hb : Below w1.heap.size w1 W) => later_yes _ c s W (HS1.out.below hb) HC.out.1 (by simp [inB]; omega)
            have L2 := Lib.hid fun W (hb : Below w1.heap.size w1 W) => later_yes _ c (s + t) W (HS1.out.below hb) HC.out.1 (by simp [inB]; omega)
            have j1 : inB t 2147483647 = true := by simp [inB]; omega
            have p1 : IntKind.i64.wrap (s + t) = s + t := by rw [IntWalk.i64_in _ (by omega)]
            have HY := Lib.hid (And.intro hst (And.intro hhi (And.intro hlok j1)))
            clear hst hhi hlok j1 HC
            go_wp2_with fail
            refine (L1.out _ HB'.out).mono ?_
            rintro e w4 ⟨⟨he4, v4, rfl, hs4⟩ | ⟨he4, rfl⟩, hb⟩
            · have hok4 := HY.out.2.2.1 he4
              have hy1 := HY.out.1
              have hj1 := HY.out.2.2.2
              generalize laterL c s = x at *
              obtain ⟨A4, c4, rfl⟩ := hs4.slice
              have HS4 := Lib.hid hs4
              have L3 := Lib.hid fun W (hb : Below w4.heap.size w4 W) => later_yes _ x t W (HS4.out.below hb) hok4 hj1
              replace HB := Lib.hid (bl_then HB.out hb)
              replace HB' := Lib.hid (bl_then HB'.out hb)
              have HB4 : Hid (Below w4.heap.size w4 w4) := Lib.hid (Below.refl _ _)
              have HY1 := Lib.hid hy1
              clear hb hs4 hy1 hok4 hj1 he4 HY
              go_wp2_with fail
              refine (L3.out _ HB4.out).mono ?_
              rintro e w5 ⟨⟨he5, v5, rfl, hs5⟩ | ⟨he5, rfl⟩, hb⟩
              · rw [HY1.out] at hs5 he5
                have HL2 : Hid (∀ W, Below w1.heap.size w1 W → Calls Try.prog 19 #[.slice A1 c.length c1, .int .i64 (s + t)] W fun e w' => (∃ v', e = .returned (.tuple #[v', .int .i64 0]) ∧ SAt Ln.cells 2 w' v' (laterL c (s + t))) ∧ Below W.heap.size W w') := Lib.hid fun W hb => (L2.out W hb).mono fun e w' hh => by
                  obtain ⟨⟨_, hh⟩ | ⟨hx, _⟩, hb⟩ := hh
                  · exact ⟨hh, hb⟩
                  · rw [he5] at hx; cases hx
                clear he5 L2 HY1
                generalize laterL c (s + t) = y at *
                obtain ⟨A6, c6, rfl⟩ := hs5.slice
                have HS5 := Lib.hid hs5
                replace HB := Lib.hid (bl_then HB.out hb)
                replace HB' := Lib.hid (bl_then HB'.out hb)
                clear hb hs5
                go_wp2_with fail
                refine (HL2.out _ HB'.out).mono ?_
                rintro e w6 ⟨⟨v6, rfl, hs6⟩, hb⟩
                obtain ⟨A7, c7, rfl⟩ := hs6.slice
                have hsa := rsame_any _ _ y y w6 (HS5.out.below hb) hs6
                rw [show decide (y = y) = true by simp] at hsa
                have HSA := Lib.hid hsa
                replace HB := Lib.hid (bl_then HB.out hb)
                clear hb hs6 hsa
                go_wp2_with fail
                refine HSA.out.mono ?_
                rintro e w7 ⟨rfl, hb⟩
                replace HB := Lib.hid (bl_then HB.out hb)
                clear hb
                go_wp2_with (go_at_call 11; (with_reducible refine (known_any _).mono ?_); rintro e w' ⟨rfl, hb⟩; replace HB := Lib.hid (bl_then HB.out hb); clear hb)
                all_goals (rw [HR.out]; exact ⟨rfl, HB.out⟩)
              · rw [HY1.out] at he5
                have HL2 : Hid (∀ W, Below w1.heap.size w1 W → Calls Try.prog 19 #[.slice A1 c.length c1, .int .i64 (s + t)] W fun e w' => e = .returned (.tuple #[.slice none 0 0, .int .i64 3]) ∧ Below W.heap.size W w') := Lib.hid fun W hb => (L2.out W hb).mono fun e w' hh => by
                  obtain ⟨⟨hx, _⟩ | ⟨_, hh⟩, hb⟩ := hh
                  · rw [he5] at hx; cases hx
                  · exact ⟨hh, hb⟩
                replace HB := Lib.hid (bl_then HB.out hb)
                replace HB' := Lib.hid (bl_then HB'.out hb)
                clear he5 L2 HY1 hb
                go_wp2_with (first | (go_at_call 19; (with_reducible refine (HL2.out _ HB'.out).mono ?_); rintro e w' ⟨rfl, hb⟩; replace HB := Lib.hid (bl_then HB.out hb); replace HB' := Lib.hid (bl_then HB'.out hb); clear hb) | (go_at_call 11; (with_reducible refine (known_any _).mono ?_); rintro e w' ⟨rfl, hb⟩; replace HB := Lib.hid (bl_then HB.out hb); replace HB' := Lib.hid (bl_then HB'.out hb); clear hb))
                all_goals (rw [HR.out]; exact ⟨rfl, HB.out⟩)
            · have he5 := HY.out.2.1 he4
              have HL2 : Hid (∀ W, Below w1.heap.size w1 W → Calls Try.prog 19 #[.slice A1 c.length c1, .int .i64 (s + t)] W fun e w' => e = .returned (.tuple #[.slice none 0 0, .int .i64 3]) ∧ Below W.heap.size W w') := Lib.hid fun W hb => (L2.out W hb).mono fun e w' hh => by
                  obtain ⟨⟨hx, _⟩ | ⟨_, hh⟩, hb⟩ := hh
                  · rw [he5] at hx; cases hx
                  · exact ⟨hh, hb⟩
              have HL3 : Hid (∀ W, Calls Try.prog 19 #[.slice none 0 0, .int .i64 t] W fun e w' => e = .returned (.tuple #[.slice none 0 0, .int .i64 2]) ∧ Below W.heap.size W w') := Lib.hid fun W => later_no _ [] t W SAt.nil (.inl rfl)
              replace HB := Lib.hid (bl_then HB.out hb)
              replace HB' := Lib.hid (bl_then HB'.out hb)
              clear he5 L2 HY hb he4
              go_wp2_with (first | (go_at_call 19; (with_reducible refine (HL3.out _).mono ?_); rintro e w' ⟨rfl, hb⟩; replace HB := Lib.hid (bl_then HB.out hb); replace HB' := Lib.hid (bl_then HB'.out hb); clear hb) | (go_at_call 19; (with_reducible refine (HL2.out _ HB'.out).mono ?_); rintro e w' ⟨rfl, hb⟩; replace HB := Lib.hid (bl_then HB.out hb); replace HB' := Lib.hid (bl_then HB'.out hb); clear hb) | (go_at_call 11; (with_reducible refine (known_any _).mono ?_); rintro e w' ⟨rfl, hb⟩; replace HB := Lib.hid (bl_then HB.out hb); replace HB' := Lib.hid (bl_then HB'.out hb); clear hb))
              all_goals (rw [HR.out]; exact ⟨rfl, HB.out⟩)
  · have hz : (20 : Int) < (ls.length : Int) := by omega
    have HB : Hid (Below w.heap.size w w) := Lib.hid (Below.refl _ _)
    go_enter Try.func5, Try.ntmps5
    go_wp2_with (go_at_call 11; (with_reducible refine (known_any _).mono ?_); rintro e w' ⟨rfl, hb⟩; replace HB := Lib.hid (bl_then HB.out hb); clear hb)
    all_goals (rw [HR.out]; exact ⟨rfl, HB.out⟩)
end Go.Proofs.Ytmkjiflliejjjaa
