/- Curve: lower's walk. -/
import Derived.Test.YtmkjiflliejjjaaCurD
import Derived.Deep.CutRange
namespace Go.Proofs.Ytmkjiflliejjjaa
open Go.RowKit Go.Shelf Go.Sort
set_option linter.unusedVariables false
set_option linter.unusedSimpArgs false
theorem popL_yes {x y z : Ln} {t : List Ln} (h : needB z y x = true) : popL x (y :: z :: t) = popL x (z :: t) := by
  rw [popL, if_pos h]
theorem popL_no {x y z : Ln} {t : List Ln} (h : needB z y x = false) : popL x (y :: z :: t) = y :: z :: t := by
  rw [popL, if_neg (by simp [h])]
theorem rev_last (y : Ln) (t : List Ln) : (y :: t).reverse[t.length]? = some y := by
  rw [List.getElem?_reverse (by simp)]
  simp
theorem rev_last2 (y z : Ln) (t : List Ln) : (y :: z :: t).reverse[t.length]? = some z := by
  rw [List.getElem?_reverse (by simp; omega)]
  simp
/-- Is the line skipped? -/
def skipB (s : List Ln) (x : Ln) : Bool := match s with
  | [] => false
  | y :: _ => decide (y.r ≤ x.r)
theorem step_skip {s : List Ln} {x : Ln} (h : skipB s x = true) : stepL s x = s := by
  match s, h with
  | y :: t, h =>
    simp only [skipB, decide_eq_true_eq] at h
    unfold stepL
    simp only
    rw [if_pos h]
theorem step_push {s : List Ln} {x : Ln} (h : skipB s x = false) : stepL s x = x :: popL x s := by
  match s, h with
  | [], h => rfl
  | y :: t, h =>
    simp only [skipB, decide_eq_false_iff_not] at h
    unfold stepL
    simp only
    rw [if_neg h]
set_option maxRecDepth 100000 in
set_option maxHeartbeats 2000000 in
theorem lower_any (v : Value) (ls : List Ln) (w : World) (h : SAt Ln.cells 2 w v ls) (hfit : ∀ l ∈ ls, fits l) (hlen : ls.length ≤ 1000000) :
    Calls Try.prog 37 #[v] w fun e w' => (∃ v' out, e = .returned v' ∧ IsLow ls out ∧ SAt Ln.cells 2 w' v' out) ∧ Below w.heap.size w w' := by
  have ho := ordered_any v ls w h (by omega)
  obtain ⟨A, c, rfl⟩ := h.slice
  have HFIT := Lib.hid hfit
  clear h hfit
  obtain ⟨R, hR⟩ : ∃ R : Ending → World → Prop, R = fun e w' => (∃ v' out, e = .returned v' ∧ IsLow ls out ∧ SAt Ln.cells 2 w' v' out) ∧ Below w.heap.size w w' := ⟨_, rfl⟩
  rw [← hR]
  have HR := Lib.hid hR
  clear hR
  go_enter Try.func37, Try.ntmps37
  go_wp2_with fail
  refine ho.mono ?_
  clear ho
  rintro e w1 ⟨⟨v1, ys, rfl, hp, hs, hsat⟩, hb1⟩
  obtain ⟨A1, c1, rfl⟩ := hsat.slice
  have hyl : ys.length ≤ 1000000 := by rw [hp.length_eq]; exact hlen
  have HP := Lib.hid hp
  have HSO := Lib.hid hs
  have HS := Lib.hid hsat
  have HB1 := Lib.hid hb1
  have HFY : Hid (∀ y ∈ ys, fits y) := Lib.hid fun y hy => HFIT.out y (hp.mem_iff.1 hy)
  clear hp hs hsat hb1 hlen
  go_wp2_with fail
  go_loopg [4, 6, 11] (ys.length + 1) (fun gg s4 s6 s11 wr => ∃ k : Nat, k ≤ ys.length ∧ ys.length - k ≤ gg ∧ s11 = .int .i64 k ∧ Aside (wr.ownsRow w1.heap.size 39 2 s4 ((ys.take k).foldl stepL []).length (((ys.take k).foldl stepL []).reverse.flatMap Ln.cells)) ∧ Aside (Below w1.heap.size w1 wr))
  case atStart => exact ⟨0, by omega, by omega, rfl, World.ownsRow_nil _ _ _ _, Below.refl _ _⟩
  case round =>
    obtain ⟨k, hk, hgg, rfl, HO, HB⟩ := hrel
    by_cases hlt : k < ys.length
    · have hltz : (k : Int) < (ys.length : Int) := by omega
      have hgk : ys[k]? = some ys[k] := List.getElem?_eq_getElem hlt
      generalize ys[k] = x at hgk
      have hst := fold_take hgk
      have hfm := fold_mem HSO.out k
      have hfl := fold_len (ys.take k) []
      simp only [List.length_nil, Nat.zero_add, List.length_take] at hfl
      generalize (ys.take k).foldl stepL [] = s at *
      have hsl : s.length ≤ 1000000 := by omega
      rcases HS.out.below HB.out with ⟨h1, h2⟩ | ⟨b, o, c', h1, _, _, hrow⟩
      · subst h2; simp at hlt
      · simp only [Value.slice.injEq] at h1
        obtain ⟨rfl, -, rfl⟩ := h1
        obtain ⟨c0, cc1⟩ := LnAt.ofRow hrow hgk
        have HK := Lib.hid hgk
        have HST := Lib.hid hst
        have HFM := Lib.hid hfm
        have HFX := Lib.hid (HFY.out x (List.mem_of_getElem? hgk))
        have hz := HB.out.size
        obtain ⟨A4, c4, rfl⟩ := own_form HO.out
        clear hrow hgk hst hfm hfl
        go_wp2_with fail
        refine wp_scope_straight ?_
        have hB2 : Below w1.heap.size w1 (wr.alloc (.cells #[.int .i64 x.b, .int .i64 x.r] 39)) := bl_alloc HB.out _
        have hO2 := HO.out.alloc (.cells #[.int .i64 x.b, .int .i64 x.r] 39)
        have hL2 : LnAt (wr.alloc (.cells #[.int .i64 x.b, .int .i64 x.r] 39)) wr.heap.size 0 x := by unfold LnAt; go_simp
        have hS2 := SAt.ofOwn (enc := Ln.cells) (fun _ => rfl) (by simp) hO2
        have hW2s : (wr.alloc (.cells #[.int .i64 x.b, .int .i64 x.r] 39)).heap.size = wr.heap.size + 1 := by simp
        go_upto_region 6 with fail
        generalize wr.alloc (.cells #[.int .i64 x.b, .int .i64 x.r] 39) = W2 at hB2 hO2 hL2 hS2 hW2s ⊢
        have HB2 := Lib.hid hB2
        have HO2 := Lib.hid hO2
        have HL2 := Lib.hid hL2
        clear hB2 hO2
        go_cut [29] from 15 to 29 (fun s29 wc => s29 = .bool (skipB s x) ∧ ∃ nq : Nat, wc = W2.drewN nq)
        case first =>
          obtain ⟨l0, l1⟩ := hL2
          simp only [Nat.zero_add] at l0 l1
          match s, hsl, hS2 with
          | [], _, _ =>
            go_quiet (fail)
            go_wp2_with fail
            go_meet
            case rel => exact ⟨rfl, _, rfl⟩
          | y :: t, hsl, hS2 =>
            rcases hS2 with ⟨-, h2⟩ | ⟨g, og, cg, h1, hcg, hcm, hrow⟩
            · simp at h2
            · simp only [Value.slice.injEq] at h1
              obtain ⟨rfl, -, rfl⟩ := h1
              obtain ⟨r0, r1⟩ := LnAt.ofRow hrow (rev_last y t)
              have hlz : (0 : Int) < ((y :: t).length : Int) := by simp only [List.length_cons]; omega
              have hl0 : 0 < (y :: t).length := by simp only [List.length_cons]; omega
              have hl1 : ((y :: t).length : Int) - 1 = (t.length : Int) := by simp only [List.length_cons]; omega
              have hl2 : (t.length : Int) < ((y :: t).length : Int) := by simp only [List.length_cons]; omega
              have hl3 : t.length < (y :: t).length := by simp only [List.length_cons]; omega
              have hl4 : (y :: t).length ≤ 1000000 := hsl
              clear hrow hsl
              generalize (y :: t).length = N at *
              by_cases hyx : y.r ≤ x.r
              · go_quiet (fail)
                go_wp2_with fail
                go_meet
                case rel => exact ⟨by simp [skipB, hyx], _, rfl⟩
              · go_quiet (fail)
                go_wp2_with fail
                go_meet
                case rel => exact ⟨by simp [skipB, hyx], _, rfl⟩
        case rest =>
          obtain ⟨rfl, nq, rfl⟩ := hcut
          cases hsk : skipB s x with
          | true =>
            have HSK := Lib.hid hsk
            clear hsk
            go_wp2_with fail
            rw [Exit.noGoto_exit]
            go_wp2_with fail
            go_roundg (ys.length - (k + 1))
            case measure => omega
            case rel => exact ⟨k + 1, by omega, by omega, by go_num, by rw [HST.out, step_skip HSK.out]; exact HO2.out, bl_drewN HB2.out _⟩
          | false =>
            have HSK := Lib.hid hsk
            clear hsk
            go_wp2_with fail
            go_step3
            go_wp2_with fail
            have hBn := bl_drewN HB2.out nq
            have hOn : (W2.drewN nq).ownsRow w1.heap.size 39 2 (.slice A4 s.length c4) s.length (s.reverse.flatMap Ln.cells) := HO2.out
            have hLn : LnAt (W2.drewN nq) wr.heap.size 0 x := HL2.out
            have hWn : (W2.drewN nq).heap.size = wr.heap.size + 1 := hW2s
            generalize W2.drewN nq = W3 at hBn hOn hLn hWn ⊢
            have HBn := Lib.hid hBn
            have HOn := Lib.hid hOn
            have HLn := Lib.hid hLn
            clear hBn hOn hLn HL2 HO2 HB2 HB HO hW2s
            obtain ⟨wa, hwa⟩ : ∃ wa, wa = wr := ⟨_, rfl⟩
            subst hwa
            have hsz3 : W3.heap.size = wa.heap.size + 1 := hWn
            go_loopg [4] (s.length + 1) (fun gg s4 wr => ∃ s' : List Ln, s'.length ≤ gg ∧ s'.length ≤ 1000000 ∧ Aside (popL x s' = popL x s ∧ ∀ y ∈ s', y ∈ s) ∧ Aside (wr.ownsRow w1.heap.size 39 2 s4 s'.length (s'.reverse.flatMap Ln.cells)) ∧ Aside (Below W3.heap.size W3 wr))
            case atStart => exact ⟨s, by omega, hsl, ⟨rfl, fun y hy => hy⟩, HOn.out, Below.refl _ _⟩
            case round =>
              obtain ⟨s', hg', hl', HPQ, HO', HB'⟩ := hrel
              obtain ⟨A5, c5, rfl⟩ := own_form HO'.out
              match s', hg', hl', HPQ, HO' with
              | y :: z :: t, hg', hl', HPQ, HO' =>
                have hsat := SAt.ofOwn (enc := Ln.cells) (fun _ => rfl) (by simp) HO'.out
                have hO5 := HO'.out
                obtain ⟨g, cg, hAe, hcg, hgs⟩ := own_blk hO5 (by simp)
                simp only [Value.slice.injEq] at hAe
                obtain ⟨rfl, -, rfl⟩ := hAe
                obtain ⟨b0, b1⟩ : wr.cell? ⟨wa.heap.size, 0, none⟩ = some (.int .i64 x.b) ∧ wr.cell? ⟨wa.heap.size, 1, none⟩ = some (.int .i64 x.r) := by
                  have := HLn.out.below HB'.out
                  unfold LnAt at this
                  simpa using this
                rcases hsat with ⟨h3, -⟩ | ⟨g2, og, cg2, h3, _, hcm, hrow2⟩
                · cases h3
                · simp only [Value.slice.injEq, Option.some.injEq, Addr.mk.injEq, and_true] at h3
                  obtain ⟨⟨rfl, rfl⟩, -, rfl⟩ := h3
                  obtain ⟨z0, z1⟩ := LnAt.ofRow hrow2 (rev_last2 y z t)
                  have hry : (y :: z :: t).reverse[t.length + 1]? = some y := rev_last y (z :: t)
                  obtain ⟨y0, y1⟩ := LnAt.ofRow hrow2 hry
                  simp only [Nat.zero_add] at z0 z1 y0 y1
                  have hfz : fits z := HFY.out z (HFM.out.2 z (HPQ.out.2 z (by simp)))
                  have hfy : fits y := HFY.out y (HFM.out.2 y (HPQ.out.2 y (by simp)))
                  have hnd := fun w => needless_any z y x w hfz hfy HFX.out
                  have HO6 := Lib.hid hO5
                  have n1 : 1 < (y :: z :: t).length := by simp
                  have n2 : (1 : Int) < ((y :: z :: t).length : Int) := by simp only [List.length_cons]; omega
                  have n3 : ((y :: z :: t).length : Int) - 1 = (t.length : Int) + 1 := by simp only [List.length_cons]; omega
                  have n4 : ((y :: z :: t).length : Int) - 2 = (t.length : Int) := by simp only [List.length_cons]; omega
                  have n5 : (t.length : Int) < ((y :: z :: t).length : Int) := by simp only [List.length_cons]; omega
                  have n6 : (t.length : Int) + 1 < ((y :: z :: t).length : Int) := by simp only [List.length_cons]; omega
                  have n7 : t.length < (y :: z :: t).length := by simp only [List.length_cons]; omega
                  have n8 : t.length + 1 < (y :: z :: t).length := by simp only [List.length_cons]; omega
                  have HNE := Lib.hid (show (y :: z :: t).length = t.length + 2 from by simp)
                  generalize (y :: z :: t).length = N at *
                  generalize htm : t.length = m at *
                  have HTM := Lib.hid htm
                  clear htm
                  have k1 : IntKind.i64.wrap (m : Int) = (m : Int) := by rw [IntWalk.i64_in _ (by omega)]
                  have k2 : IntKind.i64.wrap ((m : Int) + 1) = (m : Int) + 1 := by rw [IntWalk.i64_in _ (by omega)]
                  have k3 : (0 : Int) ≤ (m : Int) := by omega
                  have k4 : (0 : Int) ≤ (m : Int) + 1 := by omega
                  have HSX : Hid (∀ X, Below wr.heap.size wr X → (fun w' => (w'.cell? ⟨g, m * 2, none⟩ = some (.int .i64 z.b) ∧ w'.cell? ⟨g, m * 2 + 1, none⟩ = some (.int .i64 z.r)) ∧ (w'.cell? ⟨g, (m + 1) * 2, none⟩ = some (.int .i64 y.b) ∧ w'.cell? ⟨g, (m + 1) * 2 + 1, none⟩ = some (.int .i64 y.r)) ∧ w'.cell? ⟨wa.heap.size, 0, none⟩ = some (.int .i64 x.b) ∧ w'.cell? ⟨wa.heap.size, 1, none⟩ = some (.int .i64 x.r)) X) :=
                    Lib.hid fun X hX => ⟨⟨bl_cell hX z0, bl_cell hX z1⟩, ⟨bl_cell hX y0, bl_cell hX y1⟩, bl_cell hX b0, bl_cell hX b1⟩
                  clear hrow2 hry
                  have hzs : w1.heap.size ≤ wr.heap.size := by have := HBn.out.size; have := HB'.out.size; omega
                  cases hq : needB z y x with
                  | true =>
                    rw [hq] at hnd
                    have HQ := Lib.hid hq
                    clear hq
                    have hcut2 := fun W => run_cut g N _ (m + 1) (Nat.le_trans (by omega) hcg) W
                    rw [show (((m + 1 : Nat) : Int)) = (m : Int) + 1 by omega] at hcut2
                    go_upto_region 8 with fail
                    first
                    | go_region_held3 (fun w' => (w'.cell? ⟨g, m * 2, none⟩ = some (.int .i64 z.b) ∧ w'.cell? ⟨g, m * 2 + 1, none⟩ = some (.int .i64 z.r)) ∧ (w'.cell? ⟨g, (m + 1) * 2, none⟩ = some (.int .i64 y.b) ∧ w'.cell? ⟨g, (m + 1) * 2 + 1, none⟩ = some (.int .i64 y.r)) ∧ w'.cell? ⟨wa.heap.size, 0, none⟩ = some (.int .i64 x.b) ∧ w'.cell? ⟨wa.heap.size, 1, none⟩ = some (.int .i64 x.r))
                        (exact HSX.out _ (by repeat (first | exact Below.refl _ _ | refine bl_drew ?_ | refine bl_drewN ?_ _ | (refine bl_then ?_ hb; clear hb))))
                        ((go_at_call 52; refine (hnd _).mono ?_; rintro e w' ⟨rfl, hb⟩))
                    | fail "held3"
                    all_goals
                      have hbF : Below wr.heap.size wr w' := by repeat (first | exact Below.refl _ _ | refine bl_drew ?_ | refine bl_drewN ?_ _ | (refine bl_then ?_ hb; clear hb))
                      have HBF := Lib.hid hbF
                      clear hb hbF
                      go_wp2_with fail
                      go_roundg (z :: t).length
                      case measure => have := HNE.out; have := HTM.out; simp; omega
                      case rel =>
                        refine ⟨z :: t, Nat.le_refl _, by have := HNE.out; have := HTM.out; simp; omega, ⟨by rw [← HPQ.out.1, popL_yes HQ.out], fun u hu => HPQ.out.2 u (List.mem_cons_of_mem _ hu)⟩, ?_, bl_then HB'.out HBF.out⟩
                        have h9 := own_cut (own_lies HO6.out HBF.out) (j := m + 1) (by omega)
                        have e9 : ((y :: z :: t).reverse.flatMap Ln.cells).take ((m + 1) * 2) = (z :: t).reverse.flatMap Ln.cells := by
                          rw [List.reverse_cons, List.flatMap_append]
                          exact List.take_left' (by rw [flat_length (k := 2) (fun _ => rfl)]; simp [HTM.out])
                        rw [e9] at h9
                        rw [show (z :: t).length = m + 1 by simp [HTM.out]]
                        exact h9
                  | false =>
                    rw [hq] at hnd
                    have HQ := Lib.hid hq
                    clear hq
                    go_upto_region 8 with fail
                    first
                    | go_region_held3 (fun w' => (w'.cell? ⟨g, m * 2, none⟩ = some (.int .i64 z.b) ∧ w'.cell? ⟨g, m * 2 + 1, none⟩ = some (.int .i64 z.r)) ∧ (w'.cell? ⟨g, (m + 1) * 2, none⟩ = some (.int .i64 y.b) ∧ w'.cell? ⟨g, (m + 1) * 2 + 1, none⟩ = some (.int .i64 y.r)) ∧ w'.cell? ⟨wa.heap.size, 0, none⟩ = some (.int .i64 x.b) ∧ w'.cell? ⟨wa.heap.size, 1, none⟩ = some (.int .i64 x.r))
                        (exact HSX.out _ (by repeat (first | exact Below.refl _ _ | refine bl_drew ?_ | refine bl_drewN ?_ _ | (refine bl_then ?_ hb; clear hb))))
                        ((go_at_call 52; refine (hnd _).mono ?_; rintro e w' ⟨rfl, hb⟩))
                    | fail "held3"
                    all_goals
                      have hbF : Below wr.heap.size wr w' := by repeat (first | exact Below.refl _ _ | refine bl_drew ?_ | refine bl_drewN ?_ _ | (refine bl_then ?_ hb; clear hb))
                      have HBF := Lib.hid hbF
                      clear hb hbF
                      have hSS : (y :: z :: t).length ≤ 1000000 := by have := HNE.out; have := HTM.out; simp only [List.length_cons]; omega
                      have HBW : Hid (Below w1.heap.size w1 wr) := Lib.hid (HBn.out.trans (HB'.out.mono HBn.out.size))
                      go_wp2_with (at_builtin; go_loud (refine wpList_app rfl (.tmp 53) (.tmp 55) rfl elCv (fun _ => rfl) ln_one (base := w1.heap.size) (xs := (y :: z :: t).reverse) (ys := [x]) rfl rfl (by have := HNE.out; have := HTM.out; simp; omega) ((own_lies HO6.out HBF.out).alloc _) (sat_oneL _ x rfl) (by have := HBF.out.size; simp <;> omega) (by have := hSS; simp only [maxLen, List.length_reverse, List.length_cons, List.length_nil] at this ⊢ <;> omega) (by have := hSS; simp only [List.length_reverse, List.length_cons, List.length_nil] at this ⊢ <;> omega) ?_; intro v9 w9 hown9 hg9; have hb9 : Below w1.heap.size w1 w9 := ((HBW.out.trans (HBF.out.mono HBW.out.size)).alloc (by have := HBF.out.size; omega) _).trans (own_below ((own_lies HO6.out HBF.out).alloc _) hg9 (by have := HBF.out.size; simp <;> omega)); clear hg9))
                      rw [Exit.noGoto_normal]
                      go_wp2_with fail
                      go_roundg (ys.length - (k + 1))
                      case measure => omega
                      case rel =>
                        refine ⟨k + 1, by omega, by omega, by go_num, ?_, hb9⟩
                        rw [HST.out, step_push HSK.out, ← HPQ.out.1, popL_no HQ.out]
                        rw [List.reverse_cons, show ∀ s : List Ln, (x :: s).length = (s.reverse ++ [x]).length from fun s => by simp]
                        exact hown9
              | [], hg', hl', HPQ, HO' =>
                have hSS : ([] : List Ln).length ≤ 1000000 := by simp
                have HBW : Hid (Below w1.heap.size w1 wr) := Lib.hid (HBn.out.trans (HB'.out.mono HBn.out.size))
                have HBF : Hid (Below wr.heap.size wr wr) := Lib.hid (Below.refl _ _)
                have hzs : w1.heap.size ≤ wr.heap.size := HBW.out.size
                obtain ⟨b0, b1⟩ : wr.cell? ⟨wa.heap.size, 0, none⟩ = some (.int .i64 x.b) ∧ wr.cell? ⟨wa.heap.size, 1, none⟩ = some (.int .i64 x.r) := by
                  have := HLn.out.below HB'.out
                  unfold LnAt at this
                  simpa using this
                go_wp2_with (at_builtin; go_loud (refine wpList_app rfl (.tmp 53) (.tmp 55) rfl elCv (fun _ => rfl) ln_one (base := w1.heap.size) (xs := ([] : List Ln).reverse) (ys := [x]) rfl rfl rfl ((own_lies HO'.out HBF.out).alloc _) (sat_oneL _ x rfl) (by have := HBF.out.size; simp <;> omega) (by have := hSS; simp only [maxLen, List.length_reverse, List.length_cons, List.length_nil] at this ⊢ <;> omega) (by have := hSS; simp only [List.length_reverse, List.length_cons, List.length_nil] at this ⊢ <;> omega) ?_; intro v9 w9 hown9 hg9; have hb9 : Below w1.heap.size w1 w9 := ((HBW.out.trans (HBF.out.mono HBW.out.size)).alloc (by have := HBF.out.size; omega) _).trans (own_below ((own_lies HO'.out HBF.out).alloc _) hg9 (by have := HBF.out.size; simp <;> omega)); clear hg9))
                rw [Exit.noGoto_normal]
                go_wp2_with fail
                go_roundg (ys.length - (k + 1))
                case measure => omega
                case rel =>
                  refine ⟨k + 1, by omega, by omega, by go_num, ?_, hb9⟩
                  rw [HST.out, step_push HSK.out, ← HPQ.out.1, (show popL x [] = [] from rfl)]
                  rw [List.reverse_cons, show ∀ s : List Ln, (x :: s).length = (s.reverse ++ [x]).length from fun s => by simp]
                  exact hown9
              | [y], hg', hl', HPQ, HO' =>
                have hSS : [y].length ≤ 1000000 := by simp
                have HBW : Hid (Below w1.heap.size w1 wr) := Lib.hid (HBn.out.trans (HB'.out.mono HBn.out.size))
                have HBF : Hid (Below wr.heap.size wr wr) := Lib.hid (Below.refl _ _)
                have hzs : w1.heap.size ≤ wr.heap.size := HBW.out.size
                obtain ⟨b0, b1⟩ : wr.cell? ⟨wa.heap.size, 0, none⟩ = some (.int .i64 x.b) ∧ wr.cell? ⟨wa.heap.size, 1, none⟩ = some (.int .i64 x.r) := by
                  have := HLn.out.below HB'.out
                  unfold LnAt at this
                  simpa using this
                go_wp2_with (at_builtin; go_loud (refine wpList_app rfl (.tmp 53) (.tmp 55) rfl elCv (fun _ => rfl) ln_one (base := w1.heap.size) (xs := [y].reverse) (ys := [x]) rfl rfl rfl ((own_lies HO'.out HBF.out).alloc _) (sat_oneL _ x rfl) (by have := HBF.out.size; simp <;> omega) (by have := hSS; simp only [maxLen, List.length_reverse, List.length_cons, List.length_nil] at this ⊢ <;> omega) (by have := hSS; simp only [List.length_reverse, List.length_cons, List.length_nil] at this ⊢ <;> omega) ?_; intro v9 w9 hown9 hg9; have hb9 : Below w1.heap.size w1 w9 := ((HBW.out.trans (HBF.out.mono HBW.out.size)).alloc (by have := HBF.out.size; omega) _).trans (own_below ((own_lies HO'.out HBF.out).alloc _) hg9 (by have := HBF.out.size; simp <;> omega)); clear hg9))
                rw [Exit.noGoto_normal]
                go_wp2_with fail
                go_roundg (ys.length - (k + 1))
                case measure => omega
                case rel =>
                  refine ⟨k + 1, by omega, by omega, by go_num, ?_, hb9⟩
                  rw [HST.out, step_push HSK.out, ← HPQ.out.1, (show popL x [y] = [y] from rfl)]
                  rw [List.reverse_cons, show ∀ s : List Ln, (x :: s).length = (s.reverse ++ [x]).length from fun s => by simp]
                  exact hown9
    · obtain rfl : k = ys.length := by omega
      have hltz : ¬ ((ys.length : Nat) : Int) < ((ys.length : Nat) : Int) := by omega
      have hsat := SAt.ofOwn (enc := Ln.cells) (fun _ => rfl) (by simp) HO.out
      obtain ⟨A4, c4, rfl⟩ := own_form HO.out
      rw [List.take_length] at hsat
      have HSAT := Lib.hid hsat
      clear hsat
      go_wp2_with fail
      rw [HR.out]
      exact ⟨⟨_, _, rfl, ⟨ys, HP.out, HSO.out, rfl⟩, by simpa using HSAT.out⟩, bl_then HB1.out HB.out⟩
end Go.Proofs.Ytmkjiflliejjjaa
