/- Soft: slices.symMergeCmpFunc: what is sought, and a run of one. -/
import Derived.Test.YtojeombljhmkaaaSoftAC
namespace Go.Proofs.Ytojeombljhmkaaa
open Go.RowKit Go.Shelf Go.Sort
set_option linter.unusedVariables false
set_option linter.unusedSimpArgs false
attribute [local go_sem] Oper.semAt_some
abbrev ByL (xs : List Th) : Prop := xs.Pairwise fun a b => ltL a b = true
theorem ltL_irrefl (x : Th) : ltL x x = false := swoL.irrefl x
theorem ltL_trans {x y z : Th} (h : ltL x y = true) (k : ltL y z = true) : ltL x z = true := swoL.trans _ _ _ h k
theorem ltL_asymm {x y : Th} (h : ltL x y = true) : ltL y x = false := by
  cases k : ltL y x with
  | false => rfl
  | true => have := ltL_trans h k; rw [ltL_irrefl] at this; cases this
/-- Of two of different names one is less. -/
theorem ltL_of {x y : Th} (h : ltL y x = false) (hn : ltS x.name y.name = true) : ltL x y = true := by
  simp only [ltL, Bool.or_eq_false_iff, Bool.and_eq_false_iff, decide_eq_false_iff_not, Bool.or_eq_true, Bool.and_eq_true, decide_eq_true_eq] at h ⊢
  by_cases h1 : x.forgot < y.forgot
  · exact .inl h1
  · exact .inr ⟨by omega, hn⟩
set_option maxHeartbeats 400000 in
theorem go2_bel (x y : Th) (w : World) :
    Calls Try.prog 35 #[.agg #[.string x.name, .int .i64 x.period, .int .i64 x.next, .int .i64 x.forgot], .agg #[.string y.name, .int .i64 y.period, .int .i64 y.next, .int .i64 y.forgot]] w fun e w' => e = .returned (.int .i64 (cmpF x y)) ∧ Below w.heap.size w w' := by
  unfold cmpF
  go_enter Try.func35, Try.ntmps35
  go_wp2_with (go_at_call 36; refine (cmp64_any _ _ _).mono ?_; rintro e w' ⟨rfl, rfl⟩)
  go_ret
  exact ⟨rfl, bl_alloc (bl_alloc (Below.refl _ _) _) _⟩
theorem cmpF_iff (x y : Th) : cmpF x y < 0 ↔ ltF x y = true := by
  unfold cmpF ltF
  rw [cmpI_lt]
  simp
/-- The second run's thing against the first run's. -/
theorem cmpF_L {x y : Th} (h : ltS x.name y.name = true) : cmpF y x < 0 ↔ ltL y x = true := by
  rw [cmpF_iff, ltF_L h]
theorem pair_at {Y : List Th} (h : ByL Y) {s t : Nat} {y z : Th} (hs : Y[s]? = some y) (ht : Y[t]? = some z) (hst : s < t) : ltL y z = true := by
  obtain ⟨h1, rfl⟩ := List.getElem?_eq_some_iff.1 hs
  obtain ⟨h2, rfl⟩ := List.getElem?_eq_some_iff.1 ht
  exact (List.pairwise_iff_getElem.1 h) s t h1 h2 hst
theorem bl_thenB {B : Nat} {w w1 w2 : World} (h : Below B w w1) (k : Below w1.heap.size w1 w2) (hB : B ≤ w1.heap.size := by first | assumption | omega) : Below B w w2 := h.trans (k.mono hB)
set_option maxRecDepth 100000 in
set_option maxHeartbeats 4000000 in
theorem merge_first (base g cap N a m b : Nat) (Pre Y Post : List Th) (x : Th) (w : World) (h : RowS base g cap (Pre ++ (x :: (Y ++ Post))) w) (hb0 : base ≤ w.heap.size) (hY : 0 < Y.length) (hsY : ByL Y) (hnm : ∀ y ∈ Y, ltS x.name y.name = true) (hN : (Pre ++ (x :: (Y ++ Post))).length = N) (hlen : N ≤ 1000000) (ha : Pre.length = a) (hm : a + 1 = m) (hb : m + Y.length = b) :
    Calls Try.prog 59 #[.slice (some ⟨g, 0, none⟩) N cap, .int .i64 (a : Int), .int .i64 (m : Int), .int .i64 (b : Int), .func (.func 35) #[] #[]] w fun e w' =>
      e = .returned (.tuple #[]) ∧ (∃ Z, Z.Perm (x :: Y) ∧ ByL Z ∧ RowS base g cap (Pre ++ (Z ++ Post)) w') ∧ Below base w w' := by
  obtain ⟨Q, hQ⟩ : ∃ Q : Ending → World → Prop, Q = fun e w' => e = .returned (.tuple #[]) ∧ (∃ Z, Z.Perm (x :: Y) ∧ ByL Z ∧ RowS base g cap (Pre ++ (Z ++ Post)) w') ∧ Below base w w' := ⟨_, rfl⟩
  rw [← hQ]
  have HQ := Lib.hid hQ
  have HR := Lib.hid h
  have hbN : b ≤ N := by rw [← hN, ← hb, ← hm, ← ha]; simp only [List.length_append, List.length_cons]; omega
  have HE := Lib.hid (And.intro hN (And.intro ha (And.intro hm (And.intro hb hb0))))
  have HYS := Lib.hid (And.intro hsY hnm)
  have z1 : (m : Int) - (a : Int) = 1 := by omega
  have hmb : m < b := by omega
  have ham : a < m := by omega
  have en := en_go2
  clear h hQ hY hN ha hm hb hb0 hsY hnm
  go_enter Try.func59, Try.ntmps59
  go_wp2_with fail
  go_loopg [10, 11] (b - m) (fun gg s10 s11 wr => ∃ (i j : Nat), s10 = .int .i64 (i : Int) ∧ s11 = .int .i64 (j : Int) ∧ m ≤ i ∧ i ≤ j ∧ j ≤ b ∧ j - i ≤ gg ∧ Aside (∀ t y, Y[t]? = some y → m + t < i → ltL y x = true) ∧ Aside (∀ t y, Y[t]? = some y → j ≤ m + t → ltL y x = false) ∧ Aside (RowS base g cap (Pre ++ (x :: (Y ++ Post))) wr) ∧ Aside (Below base w wr))
  case atStart => exact ⟨m, b, rfl, rfl, by omega, by omega, by omega, by omega, fun t y _ h => absurd h (by omega), fun t y ht h => by have := (List.getElem?_eq_some_iff.1 ht).1; have := HE.out; omega, HR.out, Below.refl _ _⟩
  case round =>
    obtain ⟨i, j, rfl, rfl, hi, hij, hj, hgg, HL, HG, HRW, HB⟩ := hrel
    have hbz : base ≤ wr.heap.size := Nat.le_trans HE.out.2.2.2.2 HB.out.size
    by_cases hlt : i < j
    · have hltz : (i : Int) < (j : Int) := by omega
      obtain ⟨h, hh⟩ : ∃ h, h = (i + j) / 2 := ⟨_, rfl⟩
      have zh : ((i : Int) + (j : Int)) / 2 = (h : Int) := by omega
      have h1 : i ≤ h := by omega
      have h2 : h < j := by omega
      have hhN : (h : Int) < (N : Int) := by omega
      have haN : (a : Int) < (N : Int) := by omega
      have hYl : h - m < Y.length := by have := HE.out; omega
      have hgy : Y[h - m]? = some Y[h - m] := List.getElem?_eq_getElem hYl
      generalize Y[h - m] = y at hgy
      have hrow : (Pre ++ (x :: (Y ++ Post)))[h]? = some y := by
        have he := HE.out
        rw [List.getElem?_append_right (by omega), show h - Pre.length = (h - m) + 1 by omega, List.getElem?_cons_succ, List.getElem?_append_left hYl]
        exact hgy
      have hrow0 : (Pre ++ (x :: (Y ++ Post)))[a]? = some x := get_mid (by have := HE.out; omega)
      have HSX : Hid (∀ X, Below wr.heap.size wr X → ((X.cell? ⟨g, h * 4, none⟩ = some (.string y.name) ∧ X.cell? ⟨g, h * 4 + 1, none⟩ = some (.int .i64 y.period) ∧ X.cell? ⟨g, h * 4 + 2, none⟩ = some (.int .i64 y.next) ∧ X.cell? ⟨g, h * 4 + 3, none⟩ = some (.int .i64 y.forgot)) ∧ X.cell? ⟨g, a * 4, none⟩ = some (.string x.name) ∧ X.cell? ⟨g, a * 4 + 1, none⟩ = some (.int .i64 x.period) ∧ X.cell? ⟨g, a * 4 + 2, none⟩ = some (.int .i64 x.next) ∧ X.cell? ⟨g, a * 4 + 3, none⟩ = some (.int .i64 x.forgot))) := Lib.hid fun X hX => ⟨((HRW.out.below hX).at hrow).1, ((HRW.out.below hX).at hrow0).1⟩
      have hnm := HYS.out.2 y (List.mem_of_getElem? hgy)
      have hci := cmpF_L hnm
      have HCI := Lib.hid (And.intro hgy (And.intro hci (And.intro h1 h2)))
      obtain ⟨cc, hcc⟩ : ∃ cc, cmpF y x = cc := ⟨_, rfl⟩
      have HCC := Lib.hid hcc
      clear hgy hrow hrow0 hnm hci hcc hh hYl
      go_upto_region 5 with fail
      first
      | go_region_held3 (fun X => ((X.cell? ⟨g, h * 4, none⟩ = some (.string y.name) ∧ X.cell? ⟨g, h * 4 + 1, none⟩ = some (.int .i64 y.period) ∧ X.cell? ⟨g, h * 4 + 2, none⟩ = some (.int .i64 y.next) ∧ X.cell? ⟨g, h * 4 + 3, none⟩ = some (.int .i64 y.forgot)) ∧ X.cell? ⟨g, a * 4, none⟩ = some (.string x.name) ∧ X.cell? ⟨g, a * 4 + 1, none⟩ = some (.int .i64 x.period) ∧ X.cell? ⟨g, a * 4 + 2, none⟩ = some (.int .i64 x.next) ∧ X.cell? ⟨g, a * 4 + 3, none⟩ = some (.int .i64 x.forgot)))
          (exact HSX.out _ (by first | exact HB5.out | exact bl_drew (Below.refl _ _)))
          (first | (go_at_call 35; refine (go2_bel y x _).mono ?_; rintro e w5 ⟨rfl, hb⟩; rw [HCC.out]; have HB5 := Lib.hid (bl_then (bl_drew (Below.refl wr.heap.size wr)) hb); clear hb))
      | fail "held3"
      all_goals
        by_cases hc : cc < 0
        · have hly : ltL y x = true := HCI.out.2.1.1 (by rw [HCC.out]; exact hc)
          have HLY := Lib.hid hly
          clear hly
          go_wp2_with fail
          go_roundg (j - (h + 1))
          case measure => omega
          case rel =>
            refine ⟨h + 1, j, by go_num, rfl, by omega, by omega, hj, by omega, (show ∀ t y', Y[t]? = some y' → m + t < h + 1 → ltL y' x = true from fun t y' ht hth => ?_), HG.out, HRW.out.below HB5.out, bl_thenB HB.out HB5.out⟩
            by_cases he : m + t = h
            · obtain rfl : t = h - m := by omega
              rw [HCI.out.1] at ht
              cases ht
              exact HLY.out
            · exact ltL_trans (pair_at HYS.out.1 ht HCI.out.1 (by omega)) HLY.out
        · have hly : ltL y x = false := by
            cases hq : ltL y x with
            | false => rfl
            | true => exact absurd (HCI.out.2.1.2 hq) (by rw [HCC.out]; exact hc)
          have HLY := Lib.hid hly
          clear hly
          go_wp2_with fail
          go_roundg (h - i)
          case measure => omega
          case rel =>
            refine ⟨i, h, rfl, by go_num, hi, by omega, by omega, by omega, HL.out, (show ∀ t y', Y[t]? = some y' → h ≤ m + t → ltL y' x = false from fun t y' ht hth => ?_), HRW.out.below HB5.out, bl_thenB HB.out HB5.out⟩
            by_cases he : m + t = h
            · obtain rfl : t = h - m := by omega
              rw [HCI.out.1] at ht
              cases ht
              exact HLY.out
            · cases hq : ltL y' x with
              | false => rfl
              | true => have := ltL_trans (pair_at HYS.out.1 HCI.out.1 ht (by omega)) hq; rw [HLY.out] at this; cases this
    · obtain rfl : i = j := by omega
      have hltz : ¬ (i : Int) < (i : Int) := by omega
      obtain ⟨Y1, Y2, hY12, hl1⟩ : ∃ Y1 Y2, Y = Y1 ++ Y2 ∧ Y1.length = i - m := ⟨Y.take (i - m), Y.drop (i - m), (List.take_append_drop _ _).symm, by have := HE.out; simp; omega⟩
      have hZ : ByL (Y1 ++ x :: Y2) := by
        have hs := HYS.out.1
        have hnm := HYS.out.2
        rw [hY12] at hs hnm
        obtain ⟨s1, s2, s3⟩ := List.pairwise_append.1 hs
        refine List.pairwise_append.2 ⟨s1, List.pairwise_cons.2 ⟨fun z hz => ?_, s2⟩, fun u hu z hz => ?_⟩
        · obtain ⟨t, ht⟩ := List.getElem?_of_mem hz
          have h1 := HG.out (Y1.length + t) z (by rw [hY12, List.getElem?_append_right (by omega)]; simpa using ht) (by omega)
          exact ltL_of h1 (hnm z (List.mem_append_right _ hz))
        · have hux : ltL u x = true := by
            obtain ⟨t, ht⟩ := List.getElem?_of_mem hu
            have htl := (List.getElem?_eq_some_iff.1 ht).1
            exact HL.out t u (by rw [hY12, List.getElem?_append_left htl]; exact ht) (by omega)
          rcases List.mem_cons.1 hz with rfl | hz
          · exact hux
          · exact s3 u hu z hz
      have HZ := Lib.hid hZ
      have HY12 := Lib.hid (And.intro hY12 hl1)
      have HR1 := Lib.hid HRW.out
      have HB1 := Lib.hid HB.out
      obtain ⟨wa, hwa⟩ : ∃ wa, wa = wr := ⟨_, rfl⟩
      subst hwa
      have h20 : i ≤ N := by omega
      have hN6 : (N : Int) ≤ 1000000 := by omega
      clear hY12 hl1 hZ HRW HB HL HG
      go_wp2_with fail
      go_loopg [13] (Y1.length + 1) (fun gg s13 wr => ∃ (k : Nat) (Ya Yb : List Th), s13 = .int .i64 (k : Int) ∧ a ≤ k ∧ Yb.length ≤ gg ∧ Aside (Y1 = Ya ++ Yb ∧ Ya.length + a = k) ∧ Aside (RowS base g cap (Pre ++ (Ya ++ (x :: (Yb ++ (Y2 ++ Post))))) wr) ∧ Aside (Below base w wr))
      case atStart => exact ⟨a, [], Y1, rfl, Nat.le_refl _, by omega, ⟨rfl, by simp⟩, (show RowS base g cap _ _ from by have := HR1.out; rw [HY12.out.1] at this; simpa using this), HB1.out⟩
      case round =>
        obtain ⟨k, Ya, Yb, rfl, hak, hgg2, HK, HRW, HB⟩ := hrel
        cases Yb with
        | nil =>
          have hkz : ¬ (k : Int) < (i : Int) - 1 := by have h1 := HK.out.1; have h2 := HY12.out.2; rw [h1] at h2; have := HE.out; have := HK.out.2; simp at h2; omega
          go_wp2_with fail
          go_end0
          rw [HQ.out]
          refine ⟨rfl, ⟨Y1 ++ x :: Y2, ?_, HZ.out, ?_⟩, HB.out⟩
          · rw [HY12.out.1]; exact List.perm_middle
          · have := HRW.out
            have h1 := HK.out.1
            rw [List.append_nil] at h1
            rw [h1]
            simpa using this
        | cons y Yb =>
          have hkz : (k : Int) < (i : Int) - 1 := by have h1 := HK.out.1; have h2 := HY12.out.2; rw [h1] at h2; have := HE.out; have := HK.out.2; simp at h2; omega
          obtain ⟨B, hB⟩ : ∃ B, B = k + 1 := ⟨_, rfl⟩
          have w2 : IntKind.i64.wrap ((k : Int) + 1) = (B : Int) := by rw [IntKind.wrap_i64]; omega
          have q5 : (k : Int) < (N : Int) := by omega
          have q6 : (B : Int) < (N : Int) := by omega
          have hAB : k < B := by omega
          have hl1 : k = (Pre ++ Ya).length := by have := HK.out.2; have := HE.out; simp; omega
          have hl2 : B = (Pre ++ (Ya ++ [x])).length := by have := HK.out.2; have := HE.out; simp; omega
          have hrow1 : Pre ++ (Ya ++ (x :: (y :: Yb ++ (Y2 ++ Post)))) = (Pre ++ Ya) ++ x :: (y :: (Yb ++ (Y2 ++ Post))) := by simp
          have hrow2 : Pre ++ (Ya ++ (x :: (y :: Yb ++ (Y2 ++ Post)))) = (Pre ++ (Ya ++ [x])) ++ y :: (Yb ++ (Y2 ++ Post)) := by simp
          have hgx : (Pre ++ (Ya ++ (x :: (y :: Yb ++ (Y2 ++ Post)))))[k]? = some x := by rw [hrow1]; exact get_mid hl1
          have hgy : (Pre ++ (Ya ++ (x :: (y :: Yb ++ (Y2 ++ Post)))))[B]? = some y := by rw [hrow2]; exact get_mid hl2
          have hrw := HRW.out
          obtain ⟨⟨c0, c1, c2, c3⟩, hfz⟩ := hrw.at hgx
          obtain ⟨⟨d0, d1, d2, d3⟩, -⟩ := hrw.at hgy
          have f0 := hfz (k * 4)
          have f1 := hfz (k * 4 + 1)
          have f2 := hfz (k * 4 + 2)
          have f3 := hfz (k * 4 + 3)
          have k0 := hfz (B * 4)
          have k1 := hfz (B * 4 + 1)
          have k2 := hfz (B * 4 + 2)
          have k3 := hfz (B * 4 + 3)
          have hsw := hrw.swap2 hgx hgy
          rw [hrow1, set_mid hl1, show (Pre ++ Ya) ++ y :: (y :: (Yb ++ (Y2 ++ Post))) = (Pre ++ (Ya ++ [y])) ++ y :: (Yb ++ (Y2 ++ Post)) by simp, set_mid (by rw [hl2]; simp)] at hsw
          have HSW := Lib.hid hsw
          have HBE := Lib.hid (HB.out.trans (swap2_below hrw k B x y))
          have HKK := Lib.hid (And.intro HK.out.1 hB)
          clear hrw hfz hrow1 hrow2 hl1 hl2 hgx hgy hsw hB
          go_upto_region 11 with fail
          go_region_law (fail)
          all_goals
            go_wp2_with fail
            go_roundg (Yb.length)
            case measure => simp only [List.length_cons] at *; omega
            case rel =>
              refine ⟨k + 1, Ya ++ [y], Yb, ?_, by omega, by omega, ⟨by rw [HKK.out.1]; simp, by have := HK.out.2; simp; omega⟩, (show RowS base g cap _ _ from ?_), HBE.out⟩
              · first | (rw [HKK.out.2]; done) | (rw [HKK.out.2]; go_num; done) | (have hB2 := HKK.out.2; go_num)
              · have := HSW.out
                simpa using this
end Go.Proofs.Ytojeombljhmkaaa
