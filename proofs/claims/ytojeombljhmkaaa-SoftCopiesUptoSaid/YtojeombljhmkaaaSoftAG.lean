/- Soft: slices.symMergeCmpFunc: the walk of the general case. -/
import Derived.Test.YtojeombljhmkaaaSoftAF
namespace Go.Proofs.Ytojeombljhmkaaa
open Go.RowKit Go.Shelf Go.Sort
set_option linter.unusedVariables false
set_option linter.unusedSimpArgs false
attribute [local go_sem] Oper.semAt_some
set_option maxRecDepth 100000 in
set_option maxHeartbeats 8000000 in
theorem merge_step (sz : Nat) (IH : MergeIs sz) (base g cap N a m b : Nat) (Pre X Y Post : List Th) (w : World) (hr : RowS base g cap (Pre ++ (X ++ (Y ++ Post))) w) (hb0 : base ≤ w.heap.size) (hX : 1 < X.length) (hY : 1 < Y.length) (hsz : X.length + Y.length ≤ sz + 1) (hsX : ByL X) (hsY : ByL Y) (hnm : ∀ x ∈ X, ∀ y ∈ Y, ltS x.name y.name = true)
    (hN : (Pre ++ (X ++ (Y ++ Post))).length = N) (hlen : N ≤ 1000000) (ha : Pre.length = a) (hm : a + X.length = m) (hb : m + Y.length = b) :
    Calls Try.prog 59 #[.slice (some ⟨g, 0, none⟩) N cap, .int .i64 (a : Int), .int .i64 (m : Int), .int .i64 (b : Int), .func (.func 35) #[] #[]] w fun e w' =>
      e = .returned (.tuple #[]) ∧ (∃ Z, Z.Perm (X ++ Y) ∧ ByL Z ∧ RowS base g cap (Pre ++ (Z ++ Post)) w') ∧ Below base w w' := by
  obtain ⟨Q, hQ⟩ : ∃ Q : Ending → World → Prop, Q = fun e w' => e = .returned (.tuple #[]) ∧ (∃ Z, Z.Perm (X ++ Y) ∧ ByL Z ∧ RowS base g cap (Pre ++ (Z ++ Post)) w') ∧ Below base w w' := ⟨_, rfl⟩
  rw [← hQ]
  have HQ := Lib.hid hQ
  have HR := Lib.hid hr
  have HIH := Lib.hid IH
  have hbN : b ≤ N := by rw [← hN, ← hb, ← hm, ← ha]; simp only [List.length_append]; omega
  obtain ⟨mid, hmid⟩ : ∃ mid, mid = (a + b) / 2 := ⟨_, rfl⟩
  obtain ⟨LO, HI, hLH⟩ : ∃ LO HI : Nat, (mid < m ∧ LO + b = mid + m ∧ HI = mid) ∨ (m ≤ mid ∧ LO = a ∧ HI = m) := by
    by_cases h : mid < m
    · exact ⟨mid + m - b, mid, .inl ⟨h, by omega, rfl⟩⟩
    · exact ⟨a, m, .inr ⟨by omega, rfl, rfl⟩⟩
  have hmb : m + 2 ≤ b := by omega
  have ham : a + 2 ≤ m := by omega
  have hLOHI : LO ≤ HI := by omega
  have HE := Lib.hid (And.intro hN (And.intro ha (And.intro hm (And.intro hb (And.intro hb0 (And.intro hsz (And.intro hmid hLH)))))))
  have HYS := Lib.hid (And.intro hsX (And.intro hsY hnm))
  have z0 : ((m : Int) - (a : Int) == 1) = false := beq_eq_false_iff_ne.2 (by omega)
  have z1 : ((b : Int) - (m : Int) == 1) = false := beq_eq_false_iff_ne.2 (by omega)
  have z2 : ((a : Int) + (b : Int)) / 2 = (mid : Int) := by omega
  have hmm : mid < b := by omega
  have en := en_go2
  have hbb : ∀ c, LO ≤ c → c < HI → a ≤ c ∧ c < m ∧ m ≤ mid + m - 1 - c ∧ mid + m - 1 - c < b := fun c h1 h2 => by omega
  have HBB := Lib.hid hbb
  clear hr hQ IH hX hY hN ha hm hb hb0 hsX hsY hnm hsz hmid hLH hbb
  rcases (by omega : (mid : Int) < (m : Int) ∨ ¬ (mid : Int) < (m : Int)) with g1 | g1
  all_goals
    go_enter Try.func59, Try.ntmps59
    go_wp2_with fail
    go_loopg [20, 21] (HI - LO) (fun gg s20 s21 wr => ∃ (s r : Nat), s20 = .int .i64 (s : Int) ∧ s21 = .int .i64 (r : Int) ∧ LO ≤ s ∧ s ≤ r ∧ r ≤ HI ∧ r - s ≤ gg ∧ Aside (∀ c x y, LO ≤ c → c < s → X[c - a]? = some x → Y[mid + m - 1 - c - m]? = some y → ltL y x = false) ∧ Aside (∀ c x y, r ≤ c → c < HI → X[c - a]? = some x → Y[mid + m - 1 - c - m]? = some y → ltL y x = true) ∧ Aside (RowS base g cap (Pre ++ (X ++ (Y ++ Post))) wr) ∧ Aside (Below base w wr))
    case atStart => exact ⟨LO, HI, by have := HE.out.2.2.2.2.2.2.2; congr 1; omega, by have := HE.out.2.2.2.2.2.2.2; congr 1; omega, by omega, by omega, by omega, by omega, fun c x y h1 h2 => absurd h1 (by omega), fun c x y h1 h2 => absurd h1 (by omega), HR.out, Below.refl _ _⟩
    case round =>
      obtain ⟨s, r, rfl, rfl, hs1, hsr, hr1, hgg, HL, HG, HRW, HB⟩ := hrel
      have hbz : base ≤ wr.heap.size := Nat.le_trans HE.out.2.2.2.2.1 HB.out.size
      by_cases hlt : s < r
      · have hltz : (s : Int) < (r : Int) := by omega
        obtain ⟨c, hc0⟩ : ∃ c, c = (s + r) / 2 := ⟨_, rfl⟩
        have zh : ((s : Int) + (r : Int)) / 2 = (c : Int) := by omega
        have h1 : s ≤ c := by omega
        have h2 : c < r := by omega
        obtain ⟨b1, b2, b3, b4⟩ := HBB.out c (by omega) (by omega)
        obtain ⟨q, hq⟩ : ∃ q, q = mid + m - 1 - c := ⟨_, rfl⟩
        have zq : IntKind.i64.wrap ((mid : Int) + (m : Int) - 1 - (c : Int)) = (q : Int) := by rw [IntKind.wrap_i64]; omega
        have hcN : (c : Int) < (N : Int) := by omega
        have hqN : (q : Int) < (N : Int) := by omega
        have hXl : c - a < X.length := by have := HE.out; omega
        have hYl : q - m < Y.length := by have := HE.out; omega
        have hgx : X[c - a]? = some X[c - a] := List.getElem?_eq_getElem hXl
        have hgy : Y[q - m]? = some Y[q - m] := List.getElem?_eq_getElem hYl
        generalize X[c - a] = x at hgx
        generalize Y[q - m] = y at hgy
        have hrow : (Pre ++ (X ++ (Y ++ Post)))[q]? = some y := by
          have he := HE.out
          rw [List.getElem?_append_right (by omega), List.getElem?_append_right (by omega), List.getElem?_append_left (by omega), show q - Pre.length - X.length = q - m by omega]
          exact hgy
        have hrow0 : (Pre ++ (X ++ (Y ++ Post)))[c]? = some x := by
          have he := HE.out
          rw [List.getElem?_append_right (by omega), List.getElem?_append_left (by omega), show c - Pre.length = c - a by omega]
          exact hgx
        have HSX : Hid (∀ W, Below wr.heap.size wr W → ((W.cell? ⟨g, q * 4, none⟩ = some (.string y.name) ∧ W.cell? ⟨g, q * 4 + 1, none⟩ = some (.int .i64 y.period) ∧ W.cell? ⟨g, q * 4 + 2, none⟩ = some (.int .i64 y.next) ∧ W.cell? ⟨g, q * 4 + 3, none⟩ = some (.int .i64 y.forgot)) ∧ W.cell? ⟨g, c * 4, none⟩ = some (.string x.name) ∧ W.cell? ⟨g, c * 4 + 1, none⟩ = some (.int .i64 x.period) ∧ W.cell? ⟨g, c * 4 + 2, none⟩ = some (.int .i64 x.next) ∧ W.cell? ⟨g, c * 4 + 3, none⟩ = some (.int .i64 x.forgot))) := Lib.hid fun W hW => ⟨((HRW.out.below hW).at hrow).1, ((HRW.out.below hW).at hrow0).1⟩
        have hnm := HYS.out.2.2 x (List.mem_of_getElem? hgx) y (List.mem_of_getElem? hgy)
        have hci := cmpF_L hnm
        have HCI := Lib.hid (And.intro hgx (And.intro hgy (And.intro hci (And.intro h1 (And.intro h2 hq)))))
        obtain ⟨cc, hcc⟩ : ∃ cc, cmpF y x = cc := ⟨_, rfl⟩
        have HCC := Lib.hid hcc
        clear hgx hgy hrow hrow0 hnm hci hcc hc0 hXl hYl hq
        by_cases hc : cc < 0
        · skip
          go_upto_region 35 with fail
          first
          | go_region_held3 (fun W => ((W.cell? ⟨g, q * 4, none⟩ = some (.string y.name) ∧ W.cell? ⟨g, q * 4 + 1, none⟩ = some (.int .i64 y.period) ∧ W.cell? ⟨g, q * 4 + 2, none⟩ = some (.int .i64 y.next) ∧ W.cell? ⟨g, q * 4 + 3, none⟩ = some (.int .i64 y.forgot)) ∧ W.cell? ⟨g, c * 4, none⟩ = some (.string x.name) ∧ W.cell? ⟨g, c * 4 + 1, none⟩ = some (.int .i64 x.period) ∧ W.cell? ⟨g, c * 4 + 2, none⟩ = some (.int .i64 x.next) ∧ W.cell? ⟨g, c * 4 + 3, none⟩ = some (.int .i64 x.forgot)))
              (exact HSX.out _ (by first | exact HB5.out | exact bl_drew (Below.refl _ _)))
              (first | (go_at_call 35; refine (go2_bel y x _).mono ?_; rintro e w5 ⟨rfl, hb⟩; rw [HCC.out]; have HB5 := Lib.hid (bl_then (bl_drew (Below.refl wr.heap.size wr)) hb); clear hb))
          | fail "held3"
          all_goals
            have hly : ltL y x = true := HCI.out.2.2.1.1 (by rw [HCC.out]; omega)
            have HLY := Lib.hid hly
            clear hly
            go_wp2_with fail
            go_roundg (c - s)
            case measure => omega
            case rel =>
              refine ⟨s, c, rfl, by go_num, hs1, by omega, by omega, by omega, HL.out, (show ∀ c' x' y', c ≤ c' → c' < HI → X[c' - a]? = some x' → Y[mid + m - 1 - c' - m]? = some y' → ltL y' x' = true from fun c' x' y' k1 k2 k3 k4 => ?_), HRW.out.below HB5.out, bl_thenB HB.out HB5.out⟩
              have hq := HCI.out.2.2.2.2.2
              have hb' := HBB.out c' (by omega) k2
              by_cases he : c' = c
              · subst he
                rw [HCI.out.1] at k3
                rw [← hq, HCI.out.2.1] at k4
                cases k3
                cases k4
                exact HLY.out
              · have j1 := pair_at HYS.out.2.1 k4 HCI.out.2.1 (by omega)
                have j2 := pair_at HYS.out.1 HCI.out.1 k3 (by omega)
                exact ltL_trans (ltL_trans j1 HLY.out) j2
        · have hcd : decide (cc < 0) = false := decide_eq_false hc
          go_upto_region 35 with fail
          first
          | go_region_held3 (fun W => ((W.cell? ⟨g, q * 4, none⟩ = some (.string y.name) ∧ W.cell? ⟨g, q * 4 + 1, none⟩ = some (.int .i64 y.period) ∧ W.cell? ⟨g, q * 4 + 2, none⟩ = some (.int .i64 y.next) ∧ W.cell? ⟨g, q * 4 + 3, none⟩ = some (.int .i64 y.forgot)) ∧ W.cell? ⟨g, c * 4, none⟩ = some (.string x.name) ∧ W.cell? ⟨g, c * 4 + 1, none⟩ = some (.int .i64 x.period) ∧ W.cell? ⟨g, c * 4 + 2, none⟩ = some (.int .i64 x.next) ∧ W.cell? ⟨g, c * 4 + 3, none⟩ = some (.int .i64 x.forgot)))
              (exact HSX.out _ (by first | exact HB5.out | exact bl_drew (Below.refl _ _)))
              (first | (go_at_call 35; refine (go2_bel y x _).mono ?_; rintro e w5 ⟨rfl, hb⟩; rw [HCC.out]; have HB5 := Lib.hid (bl_then (bl_drew (Below.refl wr.heap.size wr)) hb); clear hb))
          | fail "held3"
          all_goals
            have hly : ltL y x = false := by
              cases hq : ltL y x with
              | false => rfl
              | true => exact absurd (HCI.out.2.2.1.2 hq) (by rw [HCC.out]; omega)
            have HLY := Lib.hid hly
            clear hly
            go_wp2_with fail
            go_roundg (r - (c + 1))
            case measure => omega
            case rel =>
              refine ⟨c + 1, r, by go_num, rfl, by omega, by omega, hr1, by omega, (show ∀ c' x' y', LO ≤ c' → c' < c + 1 → X[c' - a]? = some x' → Y[mid + m - 1 - c' - m]? = some y' → ltL y' x' = false from fun c' x' y' k1 k2 k3 k4 => ?_), HG.out, HRW.out.below HB5.out, bl_thenB HB.out HB5.out⟩
              have hq := HCI.out.2.2.2.2.2
              have hb' := HBB.out c' k1 (by omega)
              by_cases he : c' = c
              · subst he
                rw [HCI.out.1] at k3
                rw [← hq, HCI.out.2.1] at k4
                cases k3
                cases k4
                exact HLY.out
              · cases hq2 : ltL y' x' with
                | false => rfl
                | true =>
                  have j1 := pair_at HYS.out.2.1 HCI.out.2.1 k4 (by omega)
                  have j2 := pair_at HYS.out.1 k3 HCI.out.1 (by omega)
                  have := ltL_trans (ltL_trans j1 hq2) j2
                  rw [HLY.out] at this
                  cases this
      · obtain rfl : s = r := by omega
        have hltz : ¬ (s : Int) < (s : Int) := by omega
        obtain ⟨X1, X2, Y1, Y2, hX12, hY12, hl1, hl2, hC1, hC2⟩ := seek_plain (a := a) (m := m) (b := b) (mid := mid) (s := s) (LO := LO) (HI := HI) HYS.out.1 HYS.out.2.1 HYS.out.2.2 HE.out.2.2.1 HE.out.2.2.2.1 HE.out.2.2.2.2.2.2.1 HE.out.2.2.2.2.2.2.2 hs1 hr1 HL.out HG.out
        have he := HE.out
        have hlX : X.length = X1.length + X2.length := by rw [hX12]; simp
        have hlY : Y.length = Y1.length + Y2.length := by rw [hY12]; simp
        have hbX := HYS.out.1
        have hbY := HYS.out.2.1
        have hnm := HYS.out.2.2
        rw [hX12] at hbX hnm
        rw [hY12] at hbY hnm
        obtain ⟨sX1, sX2, -⟩ := List.pairwise_append.1 hbX
        obtain ⟨sY1, sY2, -⟩ := List.pairwise_append.1 hbY
        obtain ⟨e, hed⟩ : ∃ e, e = mid + m - s := ⟨_, rfl⟩
        have ze : (mid : Int) + (m : Int) - (s : Int) = (e : Int) := by omega
        have hN2 : (Pre ++ (X1 ++ (X2 ++ (Y1 ++ (Y2 ++ Post))))).length = N := by rw [← he.1, hX12, hY12]; simp only [List.length_append]; omega
        have hN3 : (Pre ++ (X1 ++ (Y1 ++ (X2 ++ (Y2 ++ Post))))).length = N := by rw [← he.1, hX12, hY12]; simp only [List.length_append]; omega
        have hrw : RowS base g cap (Pre ++ (X1 ++ (X2 ++ (Y1 ++ (Y2 ++ Post))))) wr := by have := HRW.out; rw [hX12, hY12] at this; simpa using this
        have hrt : s < m → m < e → Calls Try.prog 63 #[.slice (some ⟨g, 0, none⟩) N cap, .int .i64 (s : Int), .int .i64 (m : Int), .int .i64 (e : Int), .func (.func 35) #[] #[]] wr fun e w' => e = .returned (.tuple #[]) ∧ RowS base g cap (Pre ++ (X1 ++ (Y1 ++ (X2 ++ (Y2 ++ Post))))) w' ∧ Below base wr w' := fun k1 k2 => by
          have := rotate_any base g cap N s m e (Pre ++ X1) X2 Y1 (Y2 ++ Post) (.func (.func 35) #[] #[]) wr (by simpa using hrw) hbz (by omega) (by omega) (by simpa using hN2) hlen (by simp; omega) (by omega) (by omega)
          simpa using this
        have hm1 : ∀ W, Below base w W → RowS base g cap (Pre ++ (X1 ++ (Y1 ++ (X2 ++ (Y2 ++ Post))))) W → a < s → s < mid → Calls Try.prog 59 #[.slice (some ⟨g, 0, none⟩) N cap, .int .i64 (a : Int), .int .i64 (s : Int), .int .i64 (mid : Int), .func (.func 35) #[] #[]] W fun e w' => e = .returned (.tuple #[]) ∧ (∃ Z, Z.Perm (X1 ++ Y1) ∧ ByL Z ∧ RowS base g cap (Pre ++ (Z ++ (X2 ++ (Y2 ++ Post)))) w') ∧ Below base W w' := fun W hbW hrW k1 k2 =>
          HIH.out base g cap N a s mid Pre X1 Y1 (X2 ++ (Y2 ++ Post)) W hrW (Nat.le_trans he.2.2.2.2.1 hbW.size) (by omega) (by omega) (by omega) sX1 sY1 (fun x hx y hy => hnm x (List.mem_append_left _ hx) y (List.mem_append_left _ hy)) hN3 hlen he.2.1 (by omega) (by omega)
        have hm2 : ∀ W Z1, Below base w W → Z1.Perm (X1 ++ Y1) → RowS base g cap (Pre ++ (Z1 ++ (X2 ++ (Y2 ++ Post)))) W → mid < e → e < b → Calls Try.prog 59 #[.slice (some ⟨g, 0, none⟩) N cap, .int .i64 (mid : Int), .int .i64 (e : Int), .int .i64 (b : Int), .func (.func 35) #[] #[]] W fun e w' => e = .returned (.tuple #[]) ∧ (∃ Z, Z.Perm (X2 ++ Y2) ∧ ByL Z ∧ RowS base g cap (Pre ++ (Z1 ++ (Z ++ Post))) w') ∧ Below base W w' := fun W Z1 hbW hpZ hrW k1 k2 => by
          have hlz := hpZ.length_eq
          simp only [List.length_append] at hlz
          have := HIH.out base g cap N mid e b (Pre ++ Z1) X2 Y2 Post W (by simpa using hrW) (Nat.le_trans he.2.2.2.2.1 hbW.size) (by omega) (by omega) (by omega) sX2 sY2 (fun x hx y hy => hnm x (List.mem_append_right _ hx) y (List.mem_append_right _ hy)) (by rw [← hN3]; simp only [List.length_append]; omega) hlen (by simp; omega) (by omega) (by omega)
          simpa using this
        have hzero : (¬ (s < m ∧ m < e) → X2 ++ Y1 = Y1 ++ X2) ∧ (¬ (a < s ∧ s < mid) → ByL (X1 ++ Y1)) ∧ (¬ (mid < e ∧ e < b) → ByL (X2 ++ Y2)) := by
          refine ⟨fun k => ?_, fun k => ?_, fun k => ?_⟩
          · by_cases k1 : s < m
            · have : Y1 = [] := List.eq_nil_of_length_eq_zero (by omega)
              subst this; simp
            · have : X2 = [] := List.eq_nil_of_length_eq_zero (by omega)
              subst this; simp
          · by_cases k1 : a < s
            · have : Y1 = [] := List.eq_nil_of_length_eq_zero (by omega)
              subst this; simpa using sX1
            · have : X1 = [] := List.eq_nil_of_length_eq_zero (by omega)
              subst this; simpa using sY1
          · by_cases k1 : mid < e
            · have : Y2 = [] := List.eq_nil_of_length_eq_zero (by omega)
              subst this; simpa using sX2
            · have : X2 = [] := List.eq_nil_of_length_eq_zero (by omega)
              subst this; simpa using sY2
        have HRT := Lib.hid hrt
        have HM1 := Lib.hid hm1
        have HM2 := Lib.hid hm2
        have HZE := Lib.hid hzero
        have HCP := Lib.hid (And.intro hX12 (And.intro hY12 (And.intro hbX (And.intro hbY (And.intro hC1 hC2)))))
        have HRW2 := Lib.hid hrw
        have HB1 := Lib.hid HB.out
        have hamid : a < mid := by omega
        clear hrt hm1 hm2 hzero hX12 hY12 hl1 hl2 hC1 hC2 he hlX hlY hbX hbY hnm sX1 sX2 sY1 sY2 hed hN2 hN3 hrw HL HG HRW HB
        by_cases k1 : s < m ∧ m < e
        · obtain ⟨k1a, k1b⟩ := k1
          have k1z : (s : Int) < (m : Int) := by omega
          have k1y : (m : Int) < (e : Int) := by omega
          go_upto_region 41 with (go_at_call 63; (with_reducible refine (HRT.out k1a k1b).mono ?_); rintro e' w3 ⟨rfl, hr3, hb3⟩; have HC := Lib.hid hr3; have HB2 := Lib.hid (HB1.out.trans hb3); clear hr3 hb3)
          by_cases k2 : a < s ∧ s < mid
          · obtain ⟨k2a, k2b⟩ := k2
            have k2z : (a : Int) < (s : Int) := by omega
            have k2y : (s : Int) < (mid : Int) := by omega
            go_upto_region 43 with (go_at_call 59; (with_reducible refine (HM1.out _ HB2.out HC.out k2a k2b).mono ?_); rintro e' w4 ⟨rfl, ⟨Z1, hp1, hs1', hr4⟩, hb4⟩; have HZ1 := Lib.hid (And.intro hp1 (And.intro hs1' hr4)); have HB3 := Lib.hid (HB2.out.trans hb4); clear hp1 hs1' hr4 hb4)
            by_cases k3 : mid < e ∧ e < b
            · obtain ⟨k3a, k3b⟩ := k3
              have k3z : (mid : Int) < (e : Int) := by omega
              have k3y : (e : Int) < (b : Int) := by omega
              go_wp2_with (go_at_call 59; (with_reducible refine (HM2.out _ Z1 HB3.out HZ1.out.1 HZ1.out.2.2 k3a k3b).mono ?_); rintro e' w5 ⟨rfl, ⟨Z2, hp2, hs2', hr5⟩, hb5⟩; have HZ2 := Lib.hid (And.intro hp2 (And.intro hs2' hr5)); have HB4 := Lib.hid (HB3.out.trans hb5); clear hp2 hs2' hr5 hb5)
              go_end0
              rw [HQ.out]
              have hcp := cut_plain HCP.out.2.2.1 HCP.out.2.2.2.1 HCP.out.2.2.2.2.1 HCP.out.2.2.2.2.2 HZ1.out.1 HZ1.out.2.1 HZ2.out.1 HZ2.out.2.1
              refine ⟨rfl, ⟨Z1 ++ Z2, by rw [HCP.out.1, HCP.out.2.1]; exact hcp.1, hcp.2, ?_⟩, HB4.out⟩
              have := HZ2.out.2.2
              simpa using this
            · have hs2' := HZE.out.2.2 k3
              obtain ⟨Z2, hZ2⟩ : ∃ Z2, Z2 = X2 ++ Y2 := ⟨_, rfl⟩
              have HZ2 := Lib.hid (And.intro (show Z2.Perm (X2 ++ Y2) by rw [hZ2]) (And.intro (show ByL Z2 by rw [hZ2]; exact hs2') (show RowS base g cap (Pre ++ (Z1 ++ (Z2 ++ Post))) _ by have := HZ1.out.2.2; rw [hZ2]; simpa using this)))
              have HB4 := HB3
              clear hs2' hZ2
              rcases (by omega : (¬ (mid : Int) < (e : Int)) ∨ ((mid : Int) < (e : Int) ∧ ¬ (e : Int) < (b : Int))) with kz | ⟨kz, kz'⟩
              all_goals
                go_wp2_with fail
                go_end0
                rw [HQ.out]
                have hcp := cut_plain HCP.out.2.2.1 HCP.out.2.2.2.1 HCP.out.2.2.2.2.1 HCP.out.2.2.2.2.2 HZ1.out.1 HZ1.out.2.1 HZ2.out.1 HZ2.out.2.1
                refine ⟨rfl, ⟨Z1 ++ Z2, by rw [HCP.out.1, HCP.out.2.1]; exact hcp.1, hcp.2, ?_⟩, HB4.out⟩
                have := HZ2.out.2.2
                simpa using this
          · have hs1' := HZE.out.2.1 k2
            obtain ⟨Z1, hZ1⟩ : ∃ Z1, Z1 = X1 ++ Y1 := ⟨_, rfl⟩
            have HZ1 := Lib.hid (And.intro (show Z1.Perm (X1 ++ Y1) by rw [hZ1]) (And.intro (show ByL Z1 by rw [hZ1]; exact hs1') (show RowS base g cap (Pre ++ (Z1 ++ (X2 ++ (Y2 ++ Post)))) _ by have := HC.out; rw [hZ1]; simpa using this)))
            have HB3 := HB2
            clear hs1' hZ1
            rcases (by omega : (¬ (a : Int) < (s : Int)) ∨ ((a : Int) < (s : Int) ∧ ¬ (s : Int) < (mid : Int))) with kw | ⟨kw, kw'⟩
            all_goals
              go_upto_region 43 with fail
              by_cases k3 : mid < e ∧ e < b
              · obtain ⟨k3a, k3b⟩ := k3
                have k3z : (mid : Int) < (e : Int) := by omega
                have k3y : (e : Int) < (b : Int) := by omega
                go_wp2_with (go_at_call 59; (with_reducible refine (HM2.out _ Z1 HB3.out HZ1.out.1 HZ1.out.2.2 k3a k3b).mono ?_); rintro e' w5 ⟨rfl, ⟨Z2, hp2, hs2', hr5⟩, hb5⟩; have HZ2 := Lib.hid (And.intro hp2 (And.intro hs2' hr5)); have HB4 := Lib.hid (HB3.out.trans hb5); clear hp2 hs2' hr5 hb5)
                go_end0
                rw [HQ.out]
                have hcp := cut_plain HCP.out.2.2.1 HCP.out.2.2.2.1 HCP.out.2.2.2.2.1 HCP.out.2.2.2.2.2 HZ1.out.1 HZ1.out.2.1 HZ2.out.1 HZ2.out.2.1
                refine ⟨rfl, ⟨Z1 ++ Z2, by rw [HCP.out.1, HCP.out.2.1]; exact hcp.1, hcp.2, ?_⟩, HB4.out⟩
                have := HZ2.out.2.2
                simpa using this
              · have hs2' := HZE.out.2.2 k3
                obtain ⟨Z2, hZ2⟩ : ∃ Z2, Z2 = X2 ++ Y2 := ⟨_, rfl⟩
                have HZ2 := Lib.hid (And.intro (show Z2.Perm (X2 ++ Y2) by rw [hZ2]) (And.intro (show ByL Z2 by rw [hZ2]; exact hs2') (show RowS base g cap (Pre ++ (Z1 ++ (Z2 ++ Post))) _ by have := HZ1.out.2.2; rw [hZ2]; simpa using this)))
                have HB4 := HB3
                clear hs2' hZ2
                rcases (by omega : (¬ (mid : Int) < (e : Int)) ∨ ((mid : Int) < (e : Int) ∧ ¬ (e : Int) < (b : Int))) with kz | ⟨kz, kz'⟩
                all_goals
                  go_wp2_with fail
                  go_end0
                  rw [HQ.out]
                  have hcp := cut_plain HCP.out.2.2.1 HCP.out.2.2.2.1 HCP.out.2.2.2.2.1 HCP.out.2.2.2.2.2 HZ1.out.1 HZ1.out.2.1 HZ2.out.1 HZ2.out.2.1
                  refine ⟨rfl, ⟨Z1 ++ Z2, by rw [HCP.out.1, HCP.out.2.1]; exact hcp.1, hcp.2, ?_⟩, HB4.out⟩
                  have := HZ2.out.2.2
                  simpa using this
        · have hsw := HZE.out.1 k1
          have HC : Hid (RowS base g cap (Pre ++ (X1 ++ (Y1 ++ (X2 ++ (Y2 ++ Post))))) wr) := Lib.hid (by
            have := HRW2.out
            rw [show X2 ++ (Y1 ++ (Y2 ++ Post)) = (X2 ++ Y1) ++ (Y2 ++ Post) by simp, hsw, List.append_assoc] at this
            exact this)
          have HB2 := HB1
          clear hsw
          rcases (by omega : (¬ (s : Int) < (m : Int)) ∨ ((s : Int) < (m : Int) ∧ ¬ (m : Int) < (e : Int))) with kv | ⟨kv, kv'⟩
          all_goals
            go_upto_region 41 with fail
            by_cases k2 : a < s ∧ s < mid
            · obtain ⟨k2a, k2b⟩ := k2
              have k2z : (a : Int) < (s : Int) := by omega
              have k2y : (s : Int) < (mid : Int) := by omega
              go_upto_region 43 with (go_at_call 59; (with_reducible refine (HM1.out _ HB2.out HC.out k2a k2b).mono ?_); rintro e' w4 ⟨rfl, ⟨Z1, hp1, hs1', hr4⟩, hb4⟩; have HZ1 := Lib.hid (And.intro hp1 (And.intro hs1' hr4)); have HB3 := Lib.hid (HB2.out.trans hb4); clear hp1 hs1' hr4 hb4)
              by_cases k3 : mid < e ∧ e < b
              · obtain ⟨k3a, k3b⟩ := k3
                have k3z : (mid : Int) < (e : Int) := by omega
                have k3y : (e : Int) < (b : Int) := by omega
                go_wp2_with (go_at_call 59; (with_reducible refine (HM2.out _ Z1 HB3.out HZ1.out.1 HZ1.out.2.2 k3a k3b).mono ?_); rintro e' w5 ⟨rfl, ⟨Z2, hp2, hs2', hr5⟩, hb5⟩; have HZ2 := Lib.hid (And.intro hp2 (And.intro hs2' hr5)); have HB4 := Lib.hid (HB3.out.trans hb5); clear hp2 hs2' hr5 hb5)
                go_end0
                rw [HQ.out]
                have hcp := cut_plain HCP.out.2.2.1 HCP.out.2.2.2.1 HCP.out.2.2.2.2.1 HCP.out.2.2.2.2.2 HZ1.out.1 HZ1.out.2.1 HZ2.out.1 HZ2.out.2.1
                refine ⟨rfl, ⟨Z1 ++ Z2, by rw [HCP.out.1, HCP.out.2.1]; exact hcp.1, hcp.2, ?_⟩, HB4.out⟩
                have := HZ2.out.2.2
                simpa using this
              · have hs2' := HZE.out.2.2 k3
                obtain ⟨Z2, hZ2⟩ : ∃ Z2, Z2 = X2 ++ Y2 := ⟨_, rfl⟩
                have HZ2 := Lib.hid (And.intro (show Z2.Perm (X2 ++ Y2) by rw [hZ2]) (And.intro (show ByL Z2 by rw [hZ2]; exact hs2') (show RowS base g cap (Pre ++ (Z1 ++ (Z2 ++ Post))) _ by have := HZ1.out.2.2; rw [hZ2]; simpa using this)))
                have HB4 := HB3
                clear hs2' hZ2
                rcases (by omega : (¬ (mid : Int) < (e : Int)) ∨ ((mid : Int) < (e : Int) ∧ ¬ (e : Int) < (b : Int))) with kz | ⟨kz, kz'⟩
                all_goals
                  go_wp2_with fail
                  go_end0
                  rw [HQ.out]
                  have hcp := cut_plain HCP.out.2.2.1 HCP.out.2.2.2.1 HCP.out.2.2.2.2.1 HCP.out.2.2.2.2.2 HZ1.out.1 HZ1.out.2.1 HZ2.out.1 HZ2.out.2.1
                  refine ⟨rfl, ⟨Z1 ++ Z2, by rw [HCP.out.1, HCP.out.2.1]; exact hcp.1, hcp.2, ?_⟩, HB4.out⟩
                  have := HZ2.out.2.2
                  simpa using this
            · have hs1' := HZE.out.2.1 k2
              obtain ⟨Z1, hZ1⟩ : ∃ Z1, Z1 = X1 ++ Y1 := ⟨_, rfl⟩
              have HZ1 := Lib.hid (And.intro (show Z1.Perm (X1 ++ Y1) by rw [hZ1]) (And.intro (show ByL Z1 by rw [hZ1]; exact hs1') (show RowS base g cap (Pre ++ (Z1 ++ (X2 ++ (Y2 ++ Post)))) _ by have := HC.out; rw [hZ1]; simpa using this)))
              have HB3 := HB2
              clear hs1' hZ1
              rcases (by omega : (¬ (a : Int) < (s : Int)) ∨ ((a : Int) < (s : Int) ∧ ¬ (s : Int) < (mid : Int))) with kw | ⟨kw, kw'⟩
              all_goals
                go_upto_region 43 with fail
                by_cases k3 : mid < e ∧ e < b
                · obtain ⟨k3a, k3b⟩ := k3
                  have k3z : (mid : Int) < (e : Int) := by omega
                  have k3y : (e : Int) < (b : Int) := by omega
                  go_wp2_with (go_at_call 59; (with_reducible refine (HM2.out _ Z1 HB3.out HZ1.out.1 HZ1.out.2.2 k3a k3b).mono ?_); rintro e' w5 ⟨rfl, ⟨Z2, hp2, hs2', hr5⟩, hb5⟩; have HZ2 := Lib.hid (And.intro hp2 (And.intro hs2' hr5)); have HB4 := Lib.hid (HB3.out.trans hb5); clear hp2 hs2' hr5 hb5)
                  go_end0
                  rw [HQ.out]
                  have hcp := cut_plain HCP.out.2.2.1 HCP.out.2.2.2.1 HCP.out.2.2.2.2.1 HCP.out.2.2.2.2.2 HZ1.out.1 HZ1.out.2.1 HZ2.out.1 HZ2.out.2.1
                  refine ⟨rfl, ⟨Z1 ++ Z2, by rw [HCP.out.1, HCP.out.2.1]; exact hcp.1, hcp.2, ?_⟩, HB4.out⟩
                  have := HZ2.out.2.2
                  simpa using this
                · have hs2' := HZE.out.2.2 k3
                  obtain ⟨Z2, hZ2⟩ : ∃ Z2, Z2 = X2 ++ Y2 := ⟨_, rfl⟩
                  have HZ2 := Lib.hid (And.intro (show Z2.Perm (X2 ++ Y2) by rw [hZ2]) (And.intro (show ByL Z2 by rw [hZ2]; exact hs2') (show RowS base g cap (Pre ++ (Z1 ++ (Z2 ++ Post))) _ by have := HZ1.out.2.2; rw [hZ2]; simpa using this)))
                  have HB4 := HB3
                  clear hs2' hZ2
                  rcases (by omega : (¬ (mid : Int) < (e : Int)) ∨ ((mid : Int) < (e : Int) ∧ ¬ (e : Int) < (b : Int))) with kz | ⟨kz, kz'⟩
                  all_goals
                    go_wp2_with fail
                    go_end0
                    rw [HQ.out]
                    have hcp := cut_plain HCP.out.2.2.1 HCP.out.2.2.2.1 HCP.out.2.2.2.2.1 HCP.out.2.2.2.2.2 HZ1.out.1 HZ1.out.2.1 HZ2.out.1 HZ2.out.2.1
                    refine ⟨rfl, ⟨Z1 ++ Z2, by rw [HCP.out.1, HCP.out.2.1]; exact hcp.1, hcp.2, ?_⟩, HB4.out⟩
                    have := HZ2.out.2.2
                    simpa using this
end Go.Proofs.Ytojeombljhmkaaa
