/- Soft: slices.symMergeCmpFunc where the second run is of one. -/
import Derived.Test.YtojeombljhmkaaaSoftAD
namespace Go.Proofs.Ytojeombljhmkaaa
open Go.RowKit Go.Shelf Go.Sort
set_option linter.unusedVariables false
set_option linter.unusedSimpArgs false
attribute [local go_sem] Oper.semAt_some
set_option maxRecDepth 100000 in
set_option maxHeartbeats 4000000 in
theorem merge_last (base g cap N a m b : Nat) (Pre Xs Post : List Th) (y : Th) (w : World) (hr : RowS base g cap (Pre ++ (Xs ++ (y :: Post))) w) (hb0 : base ≤ w.heap.size) (hX : 1 < Xs.length) (hsX : ByL Xs) (hnm : ∀ x ∈ Xs, ltS x.name y.name = true) (hN : (Pre ++ (Xs ++ (y :: Post))).length = N) (hlen : N ≤ 1000000) (ha : Pre.length = a) (hm : a + Xs.length = m) (hb : m + 1 = b) :
    Calls Try.prog 59 #[.slice (some ⟨g, 0, none⟩) N cap, .int .i64 (a : Int), .int .i64 (m : Int), .int .i64 (b : Int), .func (.func 35) #[] #[]] w fun e w' =>
      e = .returned (.tuple #[]) ∧ (∃ Z, Z.Perm (Xs ++ [y]) ∧ ByL Z ∧ RowS base g cap (Pre ++ (Z ++ Post)) w') ∧ Below base w w' := by
  obtain ⟨Q, hQ⟩ : ∃ Q : Ending → World → Prop, Q = fun e w' => e = .returned (.tuple #[]) ∧ (∃ Z, Z.Perm (Xs ++ [y]) ∧ ByL Z ∧ RowS base g cap (Pre ++ (Z ++ Post)) w') ∧ Below base w w' := ⟨_, rfl⟩
  rw [← hQ]
  have HQ := Lib.hid hQ
  have HR := Lib.hid hr
  have hbN : b ≤ N := by rw [← hN, ← hb, ← hm, ← ha]; simp only [List.length_append, List.length_cons]; omega
  have HE := Lib.hid (And.intro hN (And.intro ha (And.intro hm (And.intro hb hb0))))
  have HYS := Lib.hid (And.intro hsX hnm)
  have z0 : ((m : Int) - (a : Int) == 1) = false := beq_eq_false_iff_ne.2 (by omega)
  have z1 : (b : Int) - (m : Int) = 1 := by omega
  have hmb : m < b := by omega
  have ham : a < m := by omega
  have en := en_go2
  clear hr hQ hX hN ha hm hb hb0 hsX hnm
  go_enter Try.func59, Try.ntmps59
  go_wp2_with fail
  go_loopg [14, 15] (m - a) (fun gg s14 s15 wr => ∃ (i j : Nat), s14 = .int .i64 (i : Int) ∧ s15 = .int .i64 (j : Int) ∧ a ≤ i ∧ i ≤ j ∧ j ≤ m ∧ j - i ≤ gg ∧ Aside (∀ t x, Xs[t]? = some x → a + t < i → ltL y x = false) ∧ Aside (∀ t x, Xs[t]? = some x → j ≤ a + t → ltL y x = true) ∧ Aside (RowS base g cap (Pre ++ (Xs ++ (y :: Post))) wr) ∧ Aside (Below base w wr))
  case atStart => exact ⟨a, m, rfl, rfl, by omega, by omega, by omega, by omega, fun t x _ h => absurd h (by omega), fun t x ht h => by have := (List.getElem?_eq_some_iff.1 ht).1; have := HE.out; omega, HR.out, Below.refl _ _⟩
  case round =>
    obtain ⟨i, j, rfl, rfl, hi, hij, hj, hgg, HL, HG, HRW, HB⟩ := hrel
    have hbz : base ≤ wr.heap.size := Nat.le_trans HE.out.2.2.2.2 HB.out.size
    by_cases hlt : i < j
    · have hltz : (i : Int) < (j : Int) := by omega
      obtain ⟨h, hh⟩ : ∃ h, h = (i + j) / 2 := ⟨_, rfl⟩
      have zh : ((i : Int) + (j : Int)) / 2 = (h : Int) := by omega
      have h1 : i ≤ h := by omega
      have h2 : h < j := by omega
      have hhN : (h : Int) < (N : Int) := by omega
      have hmN : (m : Int) < (N : Int) := by omega
      have hXl : h - a < Xs.length := by have := HE.out; omega
      have hgx : Xs[h - a]? = some Xs[h - a] := List.getElem?_eq_getElem hXl
      generalize Xs[h - a] = x at hgx
      have hrow : (Pre ++ (Xs ++ (y :: Post)))[h]? = some x := by
        have he := HE.out
        rw [List.getElem?_append_right (by omega), show h - Pre.length = h - a by omega, List.getElem?_append_left hXl]
        exact hgx
      have hrow0 : (Pre ++ (Xs ++ (y :: Post)))[m]? = some y := by
        rw [← List.append_assoc]
        exact get_mid (by have := HE.out; simp; omega)
      have HSX : Hid (∀ X, Below wr.heap.size wr X → ((X.cell? ⟨g, h * 4, none⟩ = some (.string x.name) ∧ X.cell? ⟨g, h * 4 + 1, none⟩ = some (.int .i64 x.period) ∧ X.cell? ⟨g, h * 4 + 2, none⟩ = some (.int .i64 x.next) ∧ X.cell? ⟨g, h * 4 + 3, none⟩ = some (.int .i64 x.forgot)) ∧ X.cell? ⟨g, m * 4, none⟩ = some (.string y.name) ∧ X.cell? ⟨g, m * 4 + 1, none⟩ = some (.int .i64 y.period) ∧ X.cell? ⟨g, m * 4 + 2, none⟩ = some (.int .i64 y.next) ∧ X.cell? ⟨g, m * 4 + 3, none⟩ = some (.int .i64 y.forgot))) := Lib.hid fun X hX => ⟨((HRW.out.below hX).at hrow).1, ((HRW.out.below hX).at hrow0).1⟩
      have hnm := HYS.out.2 x (List.mem_of_getElem? hgx)
      have hci := cmpF_L hnm
      have HCI := Lib.hid (And.intro hgx (And.intro hci (And.intro h1 h2)))
      obtain ⟨cc, hcc⟩ : ∃ cc, cmpF y x = cc := ⟨_, rfl⟩
      have HCC := Lib.hid hcc
      clear hgx hrow hrow0 hnm hci hcc hh hXl
      by_cases hc : cc < 0
      · skip
        go_upto_region 17 with fail
        first
        | go_region_held3 (fun X => ((X.cell? ⟨g, h * 4, none⟩ = some (.string x.name) ∧ X.cell? ⟨g, h * 4 + 1, none⟩ = some (.int .i64 x.period) ∧ X.cell? ⟨g, h * 4 + 2, none⟩ = some (.int .i64 x.next) ∧ X.cell? ⟨g, h * 4 + 3, none⟩ = some (.int .i64 x.forgot)) ∧ X.cell? ⟨g, m * 4, none⟩ = some (.string y.name) ∧ X.cell? ⟨g, m * 4 + 1, none⟩ = some (.int .i64 y.period) ∧ X.cell? ⟨g, m * 4 + 2, none⟩ = some (.int .i64 y.next) ∧ X.cell? ⟨g, m * 4 + 3, none⟩ = some (.int .i64 y.forgot)))
            (exact HSX.out _ (by first | exact HB5.out | exact bl_drew (Below.refl _ _)))
            (first | (go_at_call 35; refine (go2_bel y x _).mono ?_; rintro e w5 ⟨rfl, hb⟩; rw [HCC.out]; have HB5 := Lib.hid (bl_then (bl_drew (Below.refl wr.heap.size wr)) hb); clear hb))
        | fail "held3"
        all_goals
          have hly : ltL y x = true := HCI.out.2.1.1 (by rw [HCC.out]; omega)
          have HLY := Lib.hid hly
          clear hly
          go_wp2_with fail
          go_roundg (h - i)
          case measure => omega
          case rel =>
            refine ⟨i, h, rfl, by go_num, hi, by omega, by omega, by omega, HL.out, (show ∀ t x', Xs[t]? = some x' → h ≤ a + t → ltL y x' = true from fun t x' ht hth => ?_), HRW.out.below HB5.out, bl_thenB HB.out HB5.out⟩
            by_cases he : a + t = h
            · obtain rfl : t = h - a := by omega
              rw [HCI.out.1] at ht
              cases ht
              exact HLY.out
            · exact ltL_trans HLY.out (pair_at HYS.out.1 HCI.out.1 ht (by omega))
      · have hcd : decide (cc < 0) = false := decide_eq_false hc
        go_upto_region 17 with fail
        first
        | go_region_held3 (fun X => ((X.cell? ⟨g, h * 4, none⟩ = some (.string x.name) ∧ X.cell? ⟨g, h * 4 + 1, none⟩ = some (.int .i64 x.period) ∧ X.cell? ⟨g, h * 4 + 2, none⟩ = some (.int .i64 x.next) ∧ X.cell? ⟨g, h * 4 + 3, none⟩ = some (.int .i64 x.forgot)) ∧ X.cell? ⟨g, m * 4, none⟩ = some (.string y.name) ∧ X.cell? ⟨g, m * 4 + 1, none⟩ = some (.int .i64 y.period) ∧ X.cell? ⟨g, m * 4 + 2, none⟩ = some (.int .i64 y.next) ∧ X.cell? ⟨g, m * 4 + 3, none⟩ = some (.int .i64 y.forgot)))
            (exact HSX.out _ (by first | exact HB5.out | exact bl_drew (Below.refl _ _)))
            (first | (go_at_call 35; refine (go2_bel y x _).mono ?_; rintro e w5 ⟨rfl, hb⟩; rw [HCC.out]; have HB5 := Lib.hid (bl_then (bl_drew (Below.refl wr.heap.size wr)) hb); clear hb))
        | fail "held3"
        all_goals
          have hly : ltL y x = false := by
            cases hq : ltL y x with
            | false => rfl
            | true => exact absurd (HCI.out.2.1.2 hq) (by rw [HCC.out]; omega)
          have HLY := Lib.hid hly
          clear hly
          go_wp2_with fail
          go_roundg (j - (h + 1))
          case measure => omega
          case rel =>
            refine ⟨h + 1, j, by go_num, rfl, by omega, by omega, hj, by omega, (show ∀ t x', Xs[t]? = some x' → a + t < h + 1 → ltL y x' = false from fun t x' ht hth => ?_), HG.out, HRW.out.below HB5.out, bl_thenB HB.out HB5.out⟩
            by_cases he : a + t = h
            · obtain rfl : t = h - a := by omega
              rw [HCI.out.1] at ht
              cases ht
              exact HLY.out
            · cases hq : ltL y x' with
              | false => rfl
              | true => have := ltL_trans hq (pair_at HYS.out.1 ht HCI.out.1 (by omega)); rw [HLY.out] at this; cases this
    · obtain rfl : i = j := by omega
      have hltz : ¬ (i : Int) < (i : Int) := by omega
      obtain ⟨X1, X2, hX12, hl1⟩ : ∃ X1 X2, Xs = X1 ++ X2 ∧ X1.length = i - a := ⟨Xs.take (i - a), Xs.drop (i - a), (List.take_append_drop _ _).symm, by have := HE.out; simp; omega⟩
      have hZ : ByL (X1 ++ y :: X2) := by
        have hs := HYS.out.1
        have hnm := HYS.out.2
        rw [hX12] at hs hnm
        obtain ⟨s1, s2, s3⟩ := List.pairwise_append.1 hs
        refine List.pairwise_append.2 ⟨s1, List.pairwise_cons.2 ⟨fun z hz => ?_, s2⟩, fun u hu z hz => ?_⟩
        · obtain ⟨t, ht⟩ := List.getElem?_of_mem hz
          exact HG.out (X1.length + t) z (by rw [hX12, List.getElem?_append_right (by omega)]; simpa using ht) (by omega)
        · have huy : ltL u y = true := by
            obtain ⟨t, ht⟩ := List.getElem?_of_mem hu
            have htl := (List.getElem?_eq_some_iff.1 ht).1
            exact ltL_of (HL.out t u (by rw [hX12, List.getElem?_append_left htl]; exact ht) (by omega)) (hnm u (List.mem_append_left _ hu))
          rcases List.mem_cons.1 hz with rfl | hz
          · exact huy
          · exact s3 u hu z hz
      have HZ := Lib.hid hZ
      have HX12 := Lib.hid (And.intro hX12 hl1)
      have HR1 := Lib.hid HRW.out
      have HB1 := Lib.hid HB.out
      obtain ⟨wa, hwa⟩ : ∃ wa, wa = wr := ⟨_, rfl⟩
      subst hwa
      have h20 : m < N := by omega
      have hN6 : (N : Int) ≤ 1000000 := by omega
      clear hX12 hl1 hZ HRW HB HL HG
      go_wp2_with fail
      go_loopg [17] (X2.length + 1) (fun gg s17 wr => ∃ (k : Nat) (Xa Xb : List Th), s17 = .int .i64 (k : Int) ∧ k ≤ m ∧ Xa.length ≤ gg ∧ Aside (X2 = Xa ++ Xb ∧ Xb.length + k = m) ∧ Aside (RowS base g cap (Pre ++ (X1 ++ (Xa ++ (y :: (Xb ++ Post))))) wr) ∧ Aside (Below base w wr))
      case atStart => exact ⟨m, X2, [], rfl, Nat.le_refl _, by omega, ⟨by simp, by simp⟩, (show RowS base g cap _ _ from by have := HR1.out; rw [HX12.out.1] at this; simpa using this), HB1.out⟩
      case round =>
        obtain ⟨k, Xa, Xb, rfl, hkm, hgg2, HK, HRW, HB⟩ := hrel
        have hlen2 : Xa.length + i = k := by
          have h1 := HK.out.1
          have h2 := HX12.out
          have h3 := HE.out
          have h4 := HK.out.2
          have h5 : Xs.length = X1.length + X2.length := by rw [h2.1]; simp
          rw [h1] at h5
          simp at h5
          omega
        rcases List.eq_nil_or_concat Xa with hnil | ⟨Xc, z, hcon⟩
        · subst hnil
          have hkz : ¬ (i : Int) < (k : Int) := by simp at hlen2; omega
          clear hlen2
          go_wp2_with fail
          go_end0
          rw [HQ.out]
          refine ⟨rfl, ⟨X1 ++ y :: X2, ?_, HZ.out, ?_⟩, HB.out⟩
          · rw [HX12.out.1]
            exact (List.perm_middle).trans (List.perm_append_singleton y (X1 ++ X2)).symm
          · have := HRW.out
            have h1 := HK.out.1
            rw [List.nil_append] at h1
            rw [h1]
            simpa using this
        · subst hcon
          have hkz : (i : Int) < (k : Int) := by simp at hlen2; omega
          obtain ⟨B, hB⟩ : ∃ B, B = k - 1 := ⟨_, rfl⟩
          have w3 : IntKind.i64.wrap ((k : Int) - 1) = (B : Int) := by rw [IntKind.wrap_i64]; omega
          have q5 : (k : Int) < (N : Int) := by omega
          have q6 : (B : Int) < (N : Int) := by omega
          have hl1 : k = (Pre ++ (X1 ++ (Xc ++ [z]))).length := by have := HX12.out.2; have := HE.out; simp at hlen2 ⊢; omega
          have hl2 : B = (Pre ++ (X1 ++ Xc)).length := by have := HX12.out.2; have := HE.out; simp at hlen2 ⊢; omega
          have hrow1 : Pre ++ (X1 ++ (Xc ++ [z] ++ (y :: (Xb ++ Post)))) = (Pre ++ (X1 ++ (Xc ++ [z]))) ++ y :: (Xb ++ Post) := by simp
          have hrow2 : Pre ++ (X1 ++ (Xc ++ [z] ++ (y :: (Xb ++ Post)))) = (Pre ++ (X1 ++ Xc)) ++ z :: (y :: (Xb ++ Post)) := by simp
          have hgy : (Pre ++ (X1 ++ (Xc ++ [z] ++ (y :: (Xb ++ Post)))))[k]? = some y := by rw [hrow1]; exact get_mid hl1
          have hgz : (Pre ++ (X1 ++ (Xc ++ [z] ++ (y :: (Xb ++ Post)))))[B]? = some z := by rw [hrow2]; exact get_mid hl2
          have hrw : RowS base g cap (Pre ++ (X1 ++ (Xc ++ [z] ++ (y :: (Xb ++ Post))))) wr := by have := HRW.out; simpa using this
          obtain ⟨⟨c0, c1, c2, c3⟩, hfz⟩ := hrw.at hgy
          obtain ⟨⟨d0, d1, d2, d3⟩, -⟩ := hrw.at hgz
          have hAB : B < k := by omega
          have f0 := hfz (k * 4)
          have f1 := hfz (k * 4 + 1)
          have f2 := hfz (k * 4 + 2)
          have f3 := hfz (k * 4 + 3)
          have k0 := hfz (B * 4)
          have k1 := hfz (B * 4 + 1)
          have k2 := hfz (B * 4 + 2)
          have k3 := hfz (B * 4 + 3)
          have hsw := hrw.swap2 hgy hgz
          rw [hrow1, set_mid hl1, show (Pre ++ (X1 ++ (Xc ++ [z]))) ++ z :: (Xb ++ Post) = (Pre ++ (X1 ++ Xc)) ++ z :: (z :: (Xb ++ Post)) by simp, set_mid hl2] at hsw
          have HSW := Lib.hid hsw
          have HBE := Lib.hid (HB.out.trans (swap2_below hrw k B y z))
          have HKK := Lib.hid (And.intro HK.out.1 (And.intro hB (by omega : 0 < k)))
          have hgl : Xc.length + 1 ≤ gk := by simp at hgg2; omega
          clear hrw hfz hrow1 hrow2 hl1 hl2 hgy hgz hsw hB hlen2 hgg2
          go_upto_region 23 with fail
          go_region_law (fail)
          all_goals
            go_wp2_with fail
            go_roundg (Xc.length)
            case measure => omega
            case rel =>
              refine ⟨k - 1, Xc, z :: Xb, ?_, by omega, by omega, ⟨by rw [HKK.out.1]; simp, by have := HK.out.2; have := HKK.out.2.2; simp; omega⟩, (show RowS base g cap _ _ from ?_), HBE.out⟩
              · have hB2 := HKK.out.2.1
                have hk0 := HKK.out.2.2
                first | (rw [← hB2]; done) | (congr 1; omega) | go_num
              · have := HSW.out
                simpa using this
end Go.Proofs.Ytojeombljhmkaaa
