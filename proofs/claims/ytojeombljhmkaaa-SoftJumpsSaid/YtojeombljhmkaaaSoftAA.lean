/- Soft: SoftJumps. -/
import Derived.Test.YtojeombljhmkaaaSoftZ
import Derived.Test.YtojeombljhmkaaaSoftY
import Derived.Deep.RegionLaw
namespace Go.Proofs.Ytojeombljhmkaaa
open Go.RowKit Go.Shelf Go.Sort
set_option linter.unusedVariables false
set_option linter.unusedSimpArgs false
attribute [local go_sem] Oper.semAt_some
abbrev uCells (n : Int) : List Value := [.int .u8 n]
theorem u_row {w : World} {b o : Nat} {xs : List Int} (h : RowAt uCells 1 w b o xs) {j : Nat} {x : Int} (hj : xs[j]? = some x) : w.cell? ⟨b, o + j * 1, none⟩ = some (.int .u8 x) := h j x hj 0 _ rfl
theorem new_two (w : World) (pa ra : Nat) (hp : w.heap.size ≤ pa) (hr : w.heap.size ≤ ra) (w1 : World) (ht : Tb w1 pa ra 0 [] []) (hb : Below w.heap.size w w1) :
    Calls Try.prog 10 #[] w1 fun e w' => ∃ pb rb, e = .returned (.pointer (some ⟨pb, 0, none⟩)) ∧ Two w.heap.size w' pa ra 0 [] [] pb rb 0 [] [] ∧ Below w.heap.size w w' := by
  refine (new_all w1).mono ?_
  rintro e w' ⟨pb, rb, rfl, h1, h2, ht2, hb2⟩
  have hlt := ht.tab.lt
  have hz := hb.size
  refine ⟨pb, rb, rfl, ⟨ht.below hb2, ht2, ?_, ?_, ?_⟩, bl_then hb hb2⟩
  · rintro i hi (k | k | k)
    · have := hlt i hi; omega
    · have := hlt i hi; omega
    · simp at k
  · rintro i (k | k | k)
    · omega
    · omega
    · simp at k
  · rintro i (k | k | k)
    · omega
    · omega
    · simp at k
theorem DidIn.did_of {p r : Nat} {es : List (Nat × Th)} {w w' : World} {now now' : Int} {L' : List Th} (h : DidIn p r es w now' L' w') (ht : TAt w p r now es) : Did p r es w now' L' w' := by
  obtain ⟨es', htb, hs, hm⟩ := h
  refine ⟨es', htb, fun e he => ?_, hm⟩
  rcases hs e.1 (.inr (.inr (List.mem_map.2 ⟨e, he, rfl⟩))) with h | h | h
  · exact absurd h (htb.tab.ne_p he)
  · exact absurd h (htb.tab.ne_r he)
  · exact .inl h
set_option maxRecDepth 100000 in
set_option maxHeartbeats 4000000 in
theorem softJumps_any (v0 v1 : Value) (ls : List ByteArray) (us : List Int) (n : Int) (w : World) (h0 : SAt sCells 1 w v0 ls) (h1 : SAt uCells 1 w v1 us) (hu : ∀ u ∈ us, 0 ≤ u ∧ u ≤ 255) :
    Calls Try.prog 4 #[v0, v1, .int .i64 n] w fun e w' => e = .returned (.bool true) ∧ Below w.heap.size w w' := by
  obtain ⟨Q, hQ⟩ : ∃ Q : Ending → World → Prop, Q = fun e w' => e = .returned (.bool true) ∧ Below w.heap.size w w' := ⟨_, rfl⟩
  rw [← hQ]
  have HQ := Lib.hid hQ
  clear hQ
  have HK := Lib.hid (known_any w)
  have H0 := Lib.hid h0
  have H1 := Lib.hid h1
  have HU := Lib.hid hu
  have hm0 := h0.len
  have hm1 := h1.len
  unfold maxLen at hm0 hm1
  obtain ⟨A0, c0, rfl⟩ := h0.slice
  obtain ⟨A1, c1, rfl⟩ := h1.slice
  clear h0 h1 hu
  by_cases q1 : 20 < ls.length
  · have z1 : (20 : Int) < (ls.length : Int) := by omega
    go_enter Try.func4, Try.ntmps4
    go_wp2_with (go_at_call 9; refine HK.out.mono ?_; rintro e w' ⟨rfl, hb⟩; have HB := Lib.hid hb; clear hb)
    rw [HQ.out]
    exact ⟨rfl, HB.out⟩
  have z1 : ¬ (20 : Int) < (ls.length : Int) := by omega
  by_cases q2 : us.length < ls.length
  · have z2 : (us.length : Int) < (ls.length : Int) := by omega
    go_enter Try.func4, Try.ntmps4
    go_wp2_with (go_at_call 9; refine HK.out.mono ?_; rintro e w' ⟨rfl, hb⟩; have HB := Lib.hid hb; clear hb)
    rw [HQ.out]
    exact ⟨rfl, HB.out⟩
  have z2 : ¬ (us.length : Int) < (ls.length : Int) := by omega
  by_cases q3 : n < 0
  · go_enter Try.func4, Try.ntmps4
    go_wp2_with (go_at_call 9; refine HK.out.mono ?_; rintro e w' ⟨rfl, hb⟩; have HB := Lib.hid hb; clear hb)
    rw [HQ.out]
    exact ⟨rfl, HB.out⟩
  by_cases q4 : 200 < n
  · go_enter Try.func4, Try.ntmps4
    go_wp2_with (go_at_call 9; refine HK.out.mono ?_; rintro e w' ⟨rfl, hb⟩; have HB := Lib.hid hb; clear hb)
    rw [HQ.out]
    exact ⟨rfl, HB.out⟩
  have HLE : Hid (ls.length ≤ 20 ∧ ls.length ≤ us.length ∧ 0 ≤ n ∧ n ≤ 200) := Lib.hid (by omega)
  clear HK q1 q2
  have hnew := Lib.hid (new_all w)
  go_enter Try.func4, Try.ntmps4
  go_wp2_with (first | (go_at_call 10; (with_reducible refine hnew.out.mono ?_); rintro e w1 ⟨pa, ra, rfl, hp, hr, ht, hb⟩; have HN2 := Lib.hid (new_two w pa ra hp hr w1 ht hb); clear ht hb hp hr) | (go_at_call 10; (with_reducible refine HN2.out.mono ?_); rintro e w2 ⟨pb, rb, rfl, ht, hb⟩; have HT := Lib.hid ht; have HB := Lib.hid hb; clear ht hb))
  go_loopg [9] (ls.length + 1) (fun gg s9 wr => ∃ (k : Nat) (L : List Th) (ea eb : List (Nat × Th)), k ≤ ls.length ∧ ls.length - k ≤ gg ∧ s9 = .int .i64 k ∧ Aside (Two w.heap.size wr pa ra 0 L ea pb rb 0 L eb) ∧ Aside (L.length ≤ k ∧ ∀ x ∈ L, 0 < x.forgot) ∧ Aside (Below w.heap.size w wr))
  case atStart => exact ⟨0, [], [], [], by omega, by omega, rfl, HT.out, ⟨by simp, fun x hx => by simp at hx⟩, HB.out⟩
  case round =>
    clear HT HB
    obtain ⟨k, L, ea, eb, hk, hgg, rfl, HT, HL, HB⟩ := hrel
    by_cases hlt : k < ls.length
    · have hltz : (k : Int) < (ls.length : Int) := by omega
      have hlt1 : k < us.length := by have := HLE.out; omega
      have hltz1 : (k : Int) < (us.length : Int) := by omega
      have hg0 : ls[k]? = some ls[k] := List.getElem?_eq_getElem hlt
      have hg1 : us[k]? = some us[k] := List.getElem?_eq_getElem hlt1
      have hu0 := HU.out _ (List.getElem_mem hlt1)
      generalize ls[k] = s at hg0
      generalize us[k] = u at hg1 hu0
      rcases H0.out.below HB.out with ⟨-, g2⟩ | ⟨b0, o0, c0', g1, _, _, hrow0⟩
      · subst g2; simp at hlt
      · rcases H1.out.below HB.out with ⟨-, g2⟩ | ⟨b1, o1, c1', g2, _, _, hrow1⟩
        · subst g2; simp at hlt1
        · simp only [Value.slice.injEq] at g1 g2
          obtain ⟨rfl, -, rfl⟩ := g1
          obtain ⟨rfl, -, rfl⟩ := g2
          have d0 := str_row hrow0 hg0
          have d1 := u_row hrow1 hg1
          rw [Nat.mul_one] at d0 d1
          have HSX : Hid (∀ X, Below w.heap.size w X → (X.cell? ⟨b0, o0 + k, none⟩ = some (.string s) ∧ X.cell? ⟨b1, o1 + k, none⟩ = some (.int .u8 u))) := Lib.hid fun X hX => by
            rcases H0.out with ⟨-, g2⟩ | ⟨b0', o0', c0', g1, _, _, hr0⟩
            · subst g2; simp at hlt
            · rcases H1.out with ⟨-, g2⟩ | ⟨b1', o1', c1', g2, _, _, hr1⟩
              · subst g2; simp at hlt1
              · simp only [Value.slice.injEq, Option.some.injEq, Addr.mk.injEq] at g1 g2
                obtain ⟨⟨rfl, rfl, -⟩, -, -⟩ := g1
                obtain ⟨⟨rfl, rfl, -⟩, -, -⟩ := g2
                have e0 := str_row hr0 hg0
                have e1 := u_row hr1 hg1
                rw [Nat.mul_one] at e0 e1
                exact ⟨bl_cell hX e0, bl_cell hX e1⟩
          clear hrow0 hrow1 hg0 hg1
          by_cases hs : 60 < s.size
          · have hsz : (60 : Int) < (s.size : Int) := by omega
            have HK2 := Lib.hid (known_any wr)
            go_wp2_with (go_at_call 9; refine HK2.out.mono ?_; rintro e w' ⟨rfl, hb⟩; have HB' := Lib.hid (bl_then HB.out hb); clear hb)
            rw [HQ.out]
            exact ⟨rfl, HB'.out⟩
          · have hsz : ¬ (60 : Int) < (s.size : Int) := by omega
            obtain ⟨u1, u2⟩ := hu0
            have HTM : Hid ((IntKind.i64.wrap u).tmod 40 = u % 40) := Lib.hid (by rw [show IntKind.i64.wrap u = u by rw [IntKind.wrap_i64]; omega, Int.tmod_eq_emod_of_nonneg u1])
            obtain ⟨L2, bo, en, hke⟩ : ∃ L2 bo en, keepL 0 L s (u % 40) = (L2, bo, en) := ⟨_, _, _, rfl⟩
            have hL2 : L2.length ≤ k + 1 ∧ ∀ x ∈ L2, 0 < x.forgot := by
              have h1 : L2.length ≤ L.length + 1 := by have h1 := keep_len1 L s (u % 40) 0; rw [hke] at h1; exact h1
              have h2 := keep_pos (s := s) (n := u % 40) HL.out.2
              rw [hke] at h2
              have := HL.out.1
              exact ⟨by omega, h2⟩
            have HL2 := Lib.hid hL2
            have hTd := HT.out.below (bl_drew (Below.refl _ _))
            have hka := keep_all pa ra 0 L ea s (u % 40) _ hTd.a
            rw [hke] at hka
            have HKA := Lib.hid hka
            have HTD := Lib.hid hTd
            have HBD := Lib.hid (bl_drew HB.out)
            have HKE := Lib.hid hke
            clear hka hTd hL2 hke HB HT HL
            go_upto_region 9 with fail
            first
            | go_region_held3 (fun w' => w'.cell? ⟨b0, o0 + k, none⟩ = some (.string s) ∧ w'.cell? ⟨b1, o1 + k, none⟩ = some (.int .u8 u))
                (exact HSX.out _ (by first | exact HB3.out | exact HBD.out))
                (first | (go_at_call 11; rw [HTM.out]; refine HKA.out.mono ?_; rintro e w3 ⟨rfl, hd⟩; obtain ⟨ea3, ht, hb⟩ := HTD.out.did hd HBD.out.size; have HT3 := Lib.hid ht; have HB3 := Lib.hid (HBD.out.trans hb); clear ht hb hd))
            | fail "held3"
            all_goals
              have hTd := HT3.out.swap.below (bl_drew (Below.refl _ _))
              have hkb := keep_all pb rb 0 L eb s (u % 40) _ hTd.a
              rw [HKE.out] at hkb
              have HKB := Lib.hid hkb
              have HTD2 := Lib.hid hTd
              have HBD2 := Lib.hid (bl_drew HB3.out)
              clear hkb hTd
              go_upto_region 10 with fail
              first
              | go_region_held3 (fun w' => w'.cell? ⟨b0, o0 + k, none⟩ = some (.string s) ∧ w'.cell? ⟨b1, o1 + k, none⟩ = some (.int .u8 u))
                  (exact HSX.out _ (by first | exact HB4.out | exact HBD2.out))
                  (first | (go_at_call 11; rw [HTM.out]; refine HKB.out.mono ?_; rintro e w4 ⟨rfl, hd⟩; obtain ⟨eb4, ht, hb⟩ := HTD2.out.did hd HBD2.out.size; have HT4 := Lib.hid ht; have HB4 := Lib.hid (HBD2.out.trans hb); clear ht hb hd))
              | fail "held3"
              all_goals
                go_wp2_with fail
                go_roundg (ls.length - (k + 1))
                case measure => omega
                case rel => exact ⟨k + 1, L2, ea3, eb4, by omega, by omega, by go_num, HT4.out.swap, HL2.out, HB4.out⟩
    · obtain rfl : k = ls.length := by omega
      have hltz : ¬ (ls.length : Int) < (ls.length : Int) := by omega
      have hL20 : L.length ≤ 20 := by have := HL.out.1; have := HLE.out; omega
      have HL20 := Lib.hid hL20
      have HL1 := Lib.hid HL.out
      have HT1 := Lib.hid HT.out
      have HB1 := Lib.hid HB.out
      obtain ⟨wa, hwa⟩ : ∃ wa, wa = wr := ⟨_, rfl⟩
      subst hwa
      clear HT HL HB hL20
      go_wp2_with fail
      go_loopg [14, 15] (n.toNat + 1) (fun gg s14 s15 wr => ∃ (k : Nat) (g : Nat) (La : List Th) (ea' : List (Nat × Th)), (k : Int) ≤ n ∧ n.toNat - k ≤ gg ∧ s15 = .int .i64 ((k : Int) + 1) ∧ s14 = .int .i64 (g : Int) ∧ Aside (Two w.heap.size wr pa ra k La ea' pb rb 0 L eb) ∧ Aside (Ticked L k La g) ∧ Aside (Below w.heap.size w wr))
      case atStart => exact ⟨0, 0, L, ea, by omega, by omega, rfl, rfl, HT1.out, ticked_zero HL1.out.2, HB1.out⟩
      case round =>
        clear HT1 HB1
        obtain ⟨k, g, La, ea', hk, hgg, rfl, rfl, HT, HTK, HB⟩ := hrel
        have hgs := HTK.out.sum
        have h20 := HL20.out
        have hg20 : (g : Int) ≤ 20 := by omega
        have hn200 : n ≤ 200 := HLE.out.2.2.2
        by_cases hkn : (k : Int) + 1 ≤ n
        · have hst := HTK.out.step (n := (k : Int) + 1) (by omega)
          have hgo := go_len pa ra k La _ ea' ((k : Int) + 1) _ _ wr HT.out.a (by omega) (by omega) (by omega) rfl rfl rfl
          have hgl : (goneL ((k : Int) + 1) La).length ≤ 20 := by have := gone_len ((k : Int) + 1) La; omega
          generalize (goneL ((k : Int) + 1) La).length = gl at hst hgo hgl
          generalize (dueL ((k : Int) + 1) La).length = dl at hgo
          have hglz : (gl : Int) ≤ 20 := by omega
          have HST := Lib.hid hst
          have HGO := Lib.hid hgo
          clear hst hgo hgs h20 hgl
          go_wp2_with (go_at_call 13; refine HGO.out.mono ?_; rintro e w3 ⟨⟨A3, k3, A4, k4, rfl⟩, hdid⟩; obtain ⟨ea3, ht, hb⟩ := HT.out.did (hdid.did_of HT.out.a.tab) HB.out.size; have HT3 := Lib.hid ht; have HB3 := Lib.hid (HB.out.trans hb); clear ht hb hdid)
          go_roundg (n.toNat - (k + 1))
          case measure => omega
          case rel => exact ⟨k + 1, g + gl, _, ea3, by omega, by omega, by go_num, by go_num, HT3.out, HST.out, HB3.out⟩
        · obtain rfl : n = (k : Int) := by omega
          have hon := ticked_once HTK.out
          have hgo := go_len pb rb 0 L _ eb k _ _ wr HT.out.b (by omega) (by omega) (by omega) hon.1 rfl rfl
          generalize (dueL (k : Int) L).length = dl at hgo
          have HGO := Lib.hid hgo
          have HON := Lib.hid hon
          clear hgo hon hgs h20
          have hla := fun W (h : Tb W pa ra k La ea' ) => len_all pa ra k La ea' W h
          have HLA := Lib.hid hla
          have hkz : ¬ ((k : Int) + 1 ≤ (k : Int)) := by omega
          clear hla
          go_wp2_with (first | (go_at_call 13; refine HGO.out.mono ?_; rintro e w3 ⟨⟨A3, k3, A4, k4, rfl⟩, hdid⟩; obtain ⟨eb3, ht, hb⟩ := HT.out.swap.did (hdid.did_of HT.out.b.tab) HB.out.size; have HT3 := Lib.hid ht.swap; have HB3 := Lib.hid (HB.out.trans hb); have hlb := len_all pb rb k (goTo (k : Int) L) eb3 w3 ht.a; rw [HON.out.2.2] at hlb; have HLB := Lib.hid hlb; clear ht hb hdid hlb) | (go_at_call 12; first | (with_reducible refine (HLA.out _ HT3.out.a).mono ?_; rintro e w' ⟨rfl, rfl⟩) | (with_reducible refine HLB.out.mono ?_; rintro e w' ⟨rfl, rfl⟩)))
          have HNF := Lib.hid HON.out.2.1
          generalize goTo (k : Int) L = Lb at HT3 HNF
          obtain ⟨wq, hwq⟩ : ∃ wq, wq = wr := ⟨_, rfl⟩
          subst hwq
          go_loopg [22] (ls.length + 1) (fun gg s22 wr => ∃ (j : Nat), j ≤ ls.length ∧ ls.length - j ≤ gg ∧ s22 = .int .i64 (j : Int) ∧ Aside (Below w3.heap.size w3 wr))
          case atStart => exact ⟨0, by omega, by omega, rfl, Below.refl _ _⟩
          case round =>
            obtain ⟨j, hj, hgg2, rfl, HBD⟩ := hrel
            by_cases hlt : j < ls.length
            · have hltz : (j : Int) < (ls.length : Int) := by omega
              have hg0 : ls[j]? = some ls[j] := List.getElem?_eq_getElem hlt
              generalize ls[j] = s at hg0
              rcases H0.out with ⟨-, g2⟩ | ⟨b0, o0, c0', g1, _, _, hrow0⟩
              · subst g2; simp at hlt
              · simp only [Value.slice.injEq] at g1
                obtain ⟨rfl, -, rfl⟩ := g1
                have d0 := str_row hrow0 hg0
                rw [Nat.mul_one] at d0
                have hcell : ∀ X, Below w3.heap.size w3 X → X.cell? ⟨b0, o0 + j, none⟩ = some (.string s) := fun X hX => bl_cell (bl_then HB3.out hX) d0
                have HCE := Lib.hid hcell
                have hcur := hcell _ HBD.out
                obtain ⟨hnf1, hnf2⟩ := HNF.out.get s
                have hga := get_all pa ra k La ea' s wr (HT3.out.a.below HBD.out)
                have hgb := fun X (hX : Below w3.heap.size w3 X) => get_all pb rb k Lb eb3 s X (HT3.out.b.below hX)
                generalize getL La s = ta at hga hnf1 hnf2
                generalize getL Lb s = tb at hgb hnf1 hnf2
                obtain ⟨⟨xn, xp, xx, xf⟩, xb⟩ := ta
                obtain ⟨⟨yn, yp, yx, yf⟩, yb⟩ := tb
                simp only at hnf1 hnf2
                subst hnf1 hnf2
                have HGA := Lib.hid hga
                have HGB := Lib.hid hgb
                clear hga hgb hrow0 hg0 hcell
                go_upto_region 28 with (go_at_call 14; (with_reducible refine HGA.out.mono ?_); rintro e w5 ⟨rfl, hb⟩; have HB5 := Lib.hid (bl_then HBD.out hb); clear hb)
                have hb6 := bl_then HB5.out (bl_alloc (Below.refl w5.heap.size w5) (.cells #[.string xn, .int .i64 xp, .int .i64 xx, .int .i64 xf] 35))
                obtain ⟨-, -, -, x3, -, -, -, -⟩ := cells4 (at_alloc (w := w5) (o := .cells #[.string xn, .int .i64 xp, .int .i64 xx, .int .i64 xf] 35) rfl)
                generalize w5.alloc (.cells #[.string xn, .int .i64 xp, .int .i64 xx, .int .i64 xf] 35) = w6 at hb6 x3 ⊢
                have hcur6 := HCE.out _ hb6
                have HGB6 := Lib.hid (HGB.out _ hb6)
                have HB6 := Lib.hid hb6
                clear hb6
                go_wp2_with (go_at_call 14; (with_reducible refine HGB6.out.mono ?_); rintro e w7 ⟨rfl, hb⟩; have x37 := bl_cell (bl_then hb (bl_alloc (Below.refl w7.heap.size w7) (.cells #[.string yn, .int .i64 yp, .int .i64 yx, .int .i64 xf] 35))) x3; have HB7 := Lib.hid (bl_then HB6.out hb); clear hb)
                go_roundg (ls.length - (j + 1))
                case measure => omega
                case rel => exact ⟨j + 1, by omega, by omega, by go_num, bl_alloc HB7.out _⟩
            · obtain rfl : j = ls.length := by omega
              have hltz : ¬ (ls.length : Int) < (ls.length : Int) := by omega
              have HK3 := Lib.hid (known_any wr)
              go_wp2_with (go_at_call 9; (with_reducible refine HK3.out.mono ?_); rintro e w' ⟨rfl, hb⟩; have HB' := Lib.hid hb; clear hb)
              rw [HQ.out]
              exact ⟨rfl, bl_then (bl_then HB3.out HBD.out) HB'.out⟩
end Go.Proofs.Ytojeombljhmkaaa
