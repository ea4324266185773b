/- Soft: the document's Texts; known. -/
import Derived.Test.YtojeombljhmkaaaSoftT
namespace Go.Proofs.Ytojeombljhmkaaa
open Go.RowKit Go.Shelf Go.Sort
set_option linter.unusedVariables false
set_option linter.unusedSimpArgs false
attribute [local go_sem] Oper.semAt_some
theorem str_row {w : World} {b o : Nat} {xs : List ByteArray} (h : RowAt sCells 1 w b o xs) {j : Nat} {x : ByteArray} (hj : xs[j]? = some x) : w.cell? ⟨b, o + j * 1, none⟩ = some (.string x) := h j x hj 0 _ rfl
theorem take_eq_snoc {α : Type} {xs ys : List α} {k : Nat} {x y : α} (hx : xs[k]? = some x) (hy : ys[k]? = some y) (h : xs.take k = ys.take k) : xs.take (k + 1) = ys.take (k + 1) ↔ x = y := by
  rw [← take_snoc' hx, ← take_snoc' hy, h]
  constructor
  · intro h1
    have := List.append_cancel_left h1
    simpa using this
  · rintro rfl; rfl
set_option maxRecDepth 100000 in
set_option maxHeartbeats 1000000 in
theorem texts_any (v1 v2 : Value) (l1 l2 : List ByteArray) (w : World) (h1 : SAt sCells 1 w v1 l1) (h2 : SAt sCells 1 w v2 l2) :
    Calls Try.prog 29 #[v1, v2] w fun e w' => e = .returned (.bool (decide (l1 = l2))) ∧ Below w.heap.size w w' := by
  have hm1 := h1.len
  have hm2 := h2.len
  unfold maxLen at hm1 hm2
  obtain ⟨A1, k1, rfl⟩ := h1.slice
  obtain ⟨A2, k2, rfl⟩ := h2.slice
  have H1 := Lib.hid h1
  have H2 := Lib.hid h2
  clear h1 h2
  obtain ⟨Q, hQ⟩ : ∃ Q : Ending → World → Prop, Q = fun e w' => e = .returned (.bool (decide (l1 = l2))) ∧ Below w.heap.size w w' := ⟨_, rfl⟩
  rw [← hQ]
  have HQ := Lib.hid hQ
  clear hQ
  by_cases hl : l1.length = l2.length
  · have HL := Lib.hid hl
    have hz : ((l1.length : Int) != (l2.length : Int)) = false := by rw [hl]; simp
    clear hl
    go_enter Try.func29, Try.ntmps29
    go_wp2_with fail
    go_loopg [5] (l1.length + 1) (fun gg s5 wr => ∃ k : Nat, k ≤ l1.length ∧ l1.length - k ≤ gg ∧ s5 = .int .i64 k ∧ Aside (Below w.heap.size w wr) ∧ Aside (l1.take k = l2.take k))
    case atStart => exact ⟨0, by omega, by omega, rfl, Below.refl _ _, (show l1.take 0 = l2.take 0 by rw [List.take_zero, List.take_zero])⟩
    case round =>
      obtain ⟨k, hk, hgg, rfl, HB, HE⟩ := hrel
      by_cases hlt : k < l1.length
      · have hltz : (k : Int) < (l1.length : Int) := by omega
        have hltz2 : (k : Int) < (l2.length : Int) := by have := HL.out; omega
        have hlt2 : k < l2.length := by have := HL.out; omega
        have hg1 : l1[k]? = some l1[k] := List.getElem?_eq_getElem hlt
        have hg2 : l2[k]? = some l2[k] := List.getElem?_eq_getElem hlt2
        generalize l1[k] = x at hg1
        generalize l2[k] = y at hg2
        rcases H1.out.below HB.out with ⟨-, q2⟩ | ⟨b, o, c', q1, _, _, hrow⟩
        · subst q2; simp at hlt
        · rcases H2.out.below HB.out with ⟨-, q2⟩ | ⟨b2, o2, c2', q2, _, _, hrow2⟩
          · subst q2; simp at hlt2
          · simp only [Value.slice.injEq] at q1 q2
            obtain ⟨rfl, -, rfl⟩ := q1
            obtain ⟨rfl, -, rfl⟩ := q2
            have c1 := str_row hrow hg1
            have c2 := str_row hrow2 hg2
            have HG := Lib.hid (And.intro hg1 hg2)
            simp only [Nat.mul_one] at c1 c2
            have hc1 : wr.drew.cell? ⟨b, o + k, none⟩ = some (.string x) := c1
            have hc2 : wr.drew.cell? ⟨b2, o2 + k, none⟩ = some (.string y) := c2
            clear hrow hrow2 hg1 hg2
            by_cases hxy : x = y
            · have hb : (x.toList == y.toList) = true := by rw [hxy]; simp
              have HXY := Lib.hid hxy
              clear hxy
              go_upto_region 6 with fail
              go_quiet (fail)
              go_wp2_with fail
              go_roundg (l1.length - (k + 1))
              case measure => omega
              case rel => exact ⟨k + 1, by omega, by omega, by go_num, by repeat (first | exact HB.out | refine bl_drew ?_ | refine bl_drewN ?_ _), (take_eq_snoc HG.out.1 HG.out.2 HE.out).2 HXY.out⟩
            · have hb : (x.toList == y.toList) = false := by
                cases h4 : x.toList == y.toList with
                | false => rfl
                | true => exact absurd (toList_inj (beq_iff_eq.1 h4)) hxy
              have HXY := Lib.hid hxy
              clear hxy
              go_upto_region 6 with fail
              go_quiet (fail)
              go_wp2_with fail
              rw [HQ.out]
              have hne : l1 ≠ l2 := fun e => HXY.out ((take_eq_snoc HG.out.1 HG.out.2 HE.out).1 (by rw [e]))
              exact ⟨by rw [decide_eq_false hne]; rfl, by repeat (first | exact HB.out | refine bl_drew ?_ | refine bl_drewN ?_ _)⟩
      · obtain rfl : k = l1.length := by omega
        have hltz : ¬ ((l1.length : Nat) : Int) < ((l1.length : Nat) : Int) := by omega
        have he : l1 = l2 := by have := HE.out; rw [List.take_length, HL.out, List.take_length] at this; exact this
        have HEE := Lib.hid he
        clear he
        go_wp2_with fail
        rw [HQ.out]
        exact ⟨by rw [decide_eq_true HEE.out], HB.out⟩
  · have hz : ((l1.length : Int) != (l2.length : Int)) = true := by simpa [bne_iff_ne] using fun h : (l1.length : Int) = l2.length => hl (by omega)
    have HL := Lib.hid hl
    clear hl
    go_enter Try.func29, Try.ntmps29
    go_wp2_with fail
    rw [HQ.out]
    exact ⟨by rw [decide_eq_false fun e => HL.out (by rw [e])]; rfl, Below.refl _ _⟩
abbrev sA : ByteArray := ⟨#[97]⟩
abbrev sB : ByteArray := ⟨#[98]⟩
theorem nm_A : namedB sA = true := by decide +kernel
theorem nm_B : namedB sB = true := by decide +kernel
theorem lt_AB : ltS sA sB = true := by decide +kernel
theorem keep_1 : keepL 0 [] sA 4 = ([⟨sA, 4, 4, 21⟩], true, 0) := by
  unfold keepL
  rw [if_pos ⟨nm_A, by decide⟩]
  rfl
theorem keep_2 : keepL 0 [⟨sA, 4, 4, 21⟩] sB 2 = ([⟨sA, 4, 4, 21⟩, ⟨sB, 2, 2, 11⟩], true, 0) := by
  unfold keepL
  rw [if_pos ⟨nm_B, by decide⟩]
  have h1 : findL [⟨sA, 4, 4, 21⟩] sB = none := by decide +kernel
  rw [h1]
  show ((if 256 ≤ 1 then _ else _ : List Th × Bool × Int)) = _
  rw [if_neg (by omega)]
  have h2 : withL [⟨sA, 4, 4, 21⟩] ⟨sB, 2, 0 + 2, 0 + lifeI 2⟩ = [⟨sA, 4, 4, 21⟩, ⟨sB, 2, 2, 11⟩] := by
    unfold withL
    rw [List.filter_cons_of_pos (by decide +kernel), List.filter_nil]
    unfold insL
    rw [if_pos lt_AB]
    rfl
  rw [h2]
theorem gone_2 : goneL 2 [⟨sA, 4, 4, 21⟩, ⟨sB, 2, 2, 11⟩] = [] := by
  unfold goneL
  rw [show ([⟨sA, 4, 4, 21⟩, ⟨sB, 2, 2, 11⟩] : List Th).filter (fun x => decide (x.forgot ≤ 2)) = [] from rfl, List.mergeSort_nil]
theorem due_2 : dueL 2 [⟨sA, 4, 4, 21⟩, ⟨sB, 2, 2, 11⟩] = [⟨sB, 2, 2, 11⟩] := rfl
theorem go_2 : goTo 2 [⟨sA, 4, 4, 21⟩, ⟨sB, 2, 2, 11⟩] = [⟨sA, 4, 4, 21⟩, ⟨sB, 2, 4, 11⟩] := rfl
theorem gone_11 : goneL 11 [⟨sA, 4, 4, 21⟩, ⟨sB, 2, 4, 11⟩] = [⟨sB, 2, 4, 11⟩] := by
  unfold goneL
  rw [show ([⟨sA, 4, 4, 21⟩, ⟨sB, 2, 4, 11⟩] : List Th).filter (fun x => decide (x.forgot ≤ 11)) = [⟨sB, 2, 4, 11⟩] from rfl, List.mergeSort_singleton]
theorem due_11 : dueL 11 [⟨sA, 4, 4, 21⟩, ⟨sB, 2, 4, 11⟩] = [⟨sA, 4, 4, 21⟩] := rfl
theorem keepA (p r : Nat) (es : List (Nat × Th)) (w : World) (h : Tb w p r 0 [] es) : Calls Try.prog 11 #[.pointer (some ⟨p, 0, none⟩), .string ⟨#[97]⟩, .int .i64 4] w fun e w' => e = .returned (.tuple #[.bool true, .int .i64 0]) ∧ Did p r es w 0 [⟨sA, 4, 4, 21⟩] w' := by
  have := keep_all p r 0 [] es sA 4 w h
  rw [keep_1] at this
  exact this
theorem keepB (p r : Nat) (es : List (Nat × Th)) (w : World) (h : Tb w p r 0 [⟨sA, 4, 4, 21⟩] es) : Calls Try.prog 11 #[.pointer (some ⟨p, 0, none⟩), .string ⟨#[98]⟩, .int .i64 2] w fun e w' => e = .returned (.tuple #[.bool true, .int .i64 0]) ∧ Did p r es w 0 [⟨sA, 4, 4, 21⟩, ⟨sB, 2, 2, 11⟩] w' := by
  have := keep_all p r 0 _ es sB 2 w h
  rw [keep_2] at this
  exact this
theorem goA (p r : Nat) (es : List (Nat × Th)) (w : World) (h : Tb w p r 0 [⟨sA, 4, 4, 21⟩, ⟨sB, 2, 2, 11⟩] es) : Calls Try.prog 13 #[.pointer (some ⟨p, 0, none⟩), .int .i64 2] w fun e w' => (∃ u v, e = .returned (.tuple #[u, v, .int .i64 0]) ∧ SAt sCells 1 w' u [] ∧ w'.ownsRow w.heap.size 9 1 v 1 ([sB].flatMap sCells)) ∧ DidIn p r es w 2 [⟨sA, 4, 4, 21⟩, ⟨sB, 2, 4, 11⟩] w' := by
  refine (go_all 20 (by omega) stable20 p r 0 _ es 2 w h (by simp) (by omega) (by omega)).mono ?_
  rintro e w' ⟨u, v, he, hu, hv, hd⟩
  rw [gone_2] at hu
  rw [due_2] at hv
  rw [go_2] at hd
  exact ⟨⟨u, v, he, SAt.ofOwn (fun _ => rfl) rfl hu, hv⟩, hd⟩
theorem goB (p r : Nat) (es : List (Nat × Th)) (w : World) (h : Tb w p r 2 [⟨sA, 4, 4, 21⟩, ⟨sB, 2, 4, 11⟩] es) : Calls Try.prog 13 #[.pointer (some ⟨p, 0, none⟩), .int .i64 11] w fun e w' => (∃ u v, e = .returned (.tuple #[u, v, .int .i64 0]) ∧ SAt sCells 1 w' u [sB] ∧ SAt sCells 1 w' v [sA]) ∧ MovS (TSet p r es) w w' := by
  refine (go_all 20 (by omega) stable20 p r 2 _ es 11 w h (by simp) (by omega) (by omega)).mono ?_
  rintro e w' ⟨u, v, he, hu, hv, es', -, -, hm⟩
  rw [gone_11] at hu
  rw [due_11] at hv
  exact ⟨⟨u, v, he, SAt.ofOwn (xs := [sB]) (fun _ => rfl) rfl hu, SAt.ofOwn (xs := [sA]) (fun _ => rfl) rfl hv⟩, hm⟩
theorem texts_yes (v : Value) (s : ByteArray) (W : World) (h : SAt sCells 1 W v [s]) : Calls Try.prog 29 #[v, .slice (some ⟨W.heap.size, 0, none⟩) 1 1] (W.alloc (.cells #[.string s] 9)) fun e w' => e = .returned (.bool true) ∧ Below W.heap.size W w' := by
  have := texts_any v _ [s] [s] _ (h.below (bl_alloc (Below.refl _ _) _)) (sat_oneS W s rfl)
  rw [decide_eq_true rfl] at this
  exact this.mono fun e w' ⟨he, hb⟩ => ⟨he, bl_then (bl_alloc (Below.refl _ _) _) hb⟩
set_option maxRecDepth 100000 in
set_option maxHeartbeats 2000000 in
theorem known_any (w : World) :
    Calls Try.prog 9 #[] w fun e w' => e = .returned (.bool true) ∧ Below w.heap.size w w' := by
  have hn := Lib.hid (new_all w)
  obtain ⟨Q, hQ⟩ : ∃ Q : Ending → World → Prop, Q = fun e w' => e = .returned (.bool true) ∧ Below w.heap.size w w' := ⟨_, rfl⟩
  rw [← hQ]
  have HQ := Lib.hid hQ
  clear hQ
  go_enter Try.func9, Try.ntmps9
  go_upto_region 2 with (go_at_call 10; refine hn.out.mono ?_; rintro e w1 ⟨p, r, rfl, hp, hr, ht, hb⟩; have HS : Hid (∀ i, TSet p r [] i → w.heap.size ≤ i) := Lib.hid (by rintro i (rfl | rfl | h); exact hp; exact hr; simp at h); have HT := Lib.hid ht; have HB := Lib.hid hb; clear ht hb hp hr)
  go_upto_region 3 with (go_at_call 11; refine (keepA _ _ _ _ HT.out).mono ?_; rintro e w2 ⟨rfl, hd⟩; obtain ⟨es2, ht, hs, hb⟩ := hd.below HS.out HB.out.size; replace HB := Lib.hid (HB.out.trans hb); replace HT := Lib.hid ht; replace HS := Lib.hid hs; clear ht hs hb hd)
  go_upto_region 4 with (go_at_call 11; refine (keepB _ _ _ _ HT.out).mono ?_; rintro e w3 ⟨rfl, hd⟩; obtain ⟨es2, ht, hs, hb⟩ := hd.below HS.out HB.out.size; replace HB := Lib.hid (HB.out.trans hb); replace HT := Lib.hid ht; replace HS := Lib.hid hs; clear ht hs hb hd)
  go_upto_region 5 with (go_at_call 13; refine (goA _ _ _ _ HT.out).mono ?_; rintro e w4 ⟨⟨u1, v1, rfl, hu, hv⟩, hd⟩; have HU := Lib.hid hu; have HV := Lib.hid hv; clear hu hv; have hlt := HT.out.tab.lt; obtain ⟨es2, ht, hs, hb, hin⟩ := hd.below HS.out HB.out.size; have HLT : Hid (∀ i, TSet p r es2 i → i < w3.heap.size) := Lib.hid fun i hi => hlt i (hin i hi); replace HB := Lib.hid (HB.out.trans hb); replace HT := Lib.hid ht; replace HS := Lib.hid hs; clear ht hs hb hin hd hlt)
  go_upto_region 6 with (go_at_call 13; refine (goB _ _ _ _ HT.out).mono ?_; rintro e w5 ⟨⟨u2, v2, rfl, hu2, hv2⟩, hm⟩; have HU2 := Lib.hid hu2; have HV2 := Lib.hid hv2; have HV1 := Lib.hid (SAt.ofOwn (enc := sCells) (xs := [sB]) (fun _ => rfl) rfl (hm.own HV.out HLT.out)); replace HB := Lib.hid (HB.out.trans (hm.below HS.out HB.out.size)); clear hu2 hv2 hm)
  have HU0 : ∃ A k, u1 = .slice A 0 k := HU.out.slice
  obtain ⟨A1, k1, rfl⟩ := HU0
  have hlA := Lib.hid (fun w => life_any 4 w)
  have hlB := Lib.hid (fun w => life_any 3 w)
  rw [show lifeI 4 = 21 from by decide] at hlA
  rw [show lifeI 3 = 16 from by decide] at hlB
  go_wp2_with (first | (go_at_call 15; first | (with_reducible refine (hlA.out _).mono ?_; rintro e w' ⟨rfl, rfl⟩) | (with_reducible refine (hlB.out _).mono ?_; rintro e w' ⟨rfl, rfl⟩)) | (go_at_call 29; first | (with_reducible refine (texts_yes v1 sB w5 HV1.out).mono ?_; rintro e w6 ⟨rfl, hb6⟩; have HB6 := Lib.hid hb6; clear hb6) | (with_reducible refine (texts_yes u2 sB _ (HU2.out.below HB6.out)).mono ?_; rintro e w7 ⟨rfl, hb7⟩; have HB7 := Lib.hid (bl_then HB6.out hb7); clear hb7) | (with_reducible refine (texts_yes v2 sA _ (HV2.out.below HB7.out)).mono ?_; rintro e w8 ⟨rfl, hb8⟩; have HB8 := Lib.hid (bl_then HB7.out hb8); clear hb8)))
  rw [HQ.out]
  exact ⟨rfl, bl_then HB.out HB8.out⟩
end Go.Proofs.Ytojeombljhmkaaa
