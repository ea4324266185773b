/- Object: the law of cuts. -/
import Derived.Test.YtnflgikmljfakaaObjX
namespace Go.Proofs.Ytnflgikmljfakaa
open Go Go.RowKit Go.Shelf
set_option linter.unusedVariables false
set_option linter.unusedSimpArgs false
attribute [local go_sem] Oper.semAt_some
theorem rawL_cut (qs : List Ob) (i : Nat) : (rawL qs).take (rawL (qs.take i)).length = rawL (qs.take i) ∧ (rawL qs).drop (rawL (qs.take i)).length = rawL (qs.drop i) := by
  have h : rawL qs = rawL (qs.take i) ++ rawL (qs.drop i) := by
    unfold rawL
    rw [← List.flatMap_append, List.take_append_drop]
  constructor
  · conv => lhs; rw [h]
    exact List.take_left
  · conv => lhs; rw [h]
    exact List.drop_left
theorem cut_none : ∀ (qs : List Ob) (n : Nat), (∀ q ∈ qs, mayB q = true) → n ≤ (rawL qs).length → (∀ i, i ≤ qs.length → (rawL (qs.take i)).length ≠ n) → (rd ((rawL qs).take n)).2 = false
  | [], n, _, hn, hi => by
    exfalso
    have h0 := hi 0 (by simp)
    simp [rawL] at hn h0
    omega
  | q :: qs, n, hm, hn, hi => by
    have hq := hm q (by simp)
    have e : rawL (q :: qs) = rawO q ++ rawL qs := by simp [rawL]
    have hlq := rawO_len q
    have h0 := hi 0 (by simp)
    simp only [List.take_zero] at h0
    have h00 : (rawL ([] : List Ob)).length = 0 := rfl
    rw [h00] at h0
    rw [e] at hn ⊢
    rw [List.length_append] at hn
    by_cases hc : (rawO q).length ≤ n
    · obtain ⟨d, rfl⟩ : ∃ d, n = (rawO q).length + d := ⟨n - (rawO q).length, by omega⟩
      rw [List.take_append]
      rw [List.take_of_length_le (by omega), Nat.add_sub_cancel_left]
      rw [rd_some (by rw [List.length_append, hlq]; omega) (step_raw q _ hq)]
      refine cut_none qs d (fun x hx => hm x (by simp [hx])) (by omega) fun i hil he => hi (i + 1) (by simp; omega) ?_
      rw [List.take_succ_cons]
      have : rawL (q :: qs.take i) = rawO q ++ rawL (qs.take i) := by simp [rawL]
      rw [this, List.length_append, he]
    · have hlen : ((rawO q ++ rawL qs).take n).length = n := by rw [List.length_take, List.length_append]; omega
      have hst : stepO ((rawO q ++ rawL qs).take n) = none := by
        unfold stepO
        split
        · rfl
        · rename_i h2
          obtain ⟨h1, h2', h3, h4, h5, h6, h7⟩ := mayB_iff hq
          have ht : numOf (((rawO q ++ rawL qs).take n).take 2) 0 = 4 + 4 * (q.ws.length : Int) := by
            rw [List.take_take, show min 2 n = 2 by omega]
            unfold rawO
            rw [List.append_assoc, List.take_append_of_le_length (by rw [numB_len]; exact Nat.le_refl _), List.take_of_length_le (by rw [numB_len]; exact Nat.le_refl _)]
            exact num2 _ (by omega) (by omega)
          rw [if_neg]
          rw [ht, hlen]
          omega
      rw [rd_none (by rw [hlen]; omega) hst]
theorem raw_three (A : Option Addr) (c : Nat) (qs : List Ob) (w : World) (h : ObsAt w (.slice A qs.length c) qs) :
    Calls Try.prog 8 #[.slice A qs.length c] w fun e w' => ∃ (A1 : Option Addr) (M c1 : Nat) (e1 : Int), e = .returned (.tuple #[.slice A1 M c1, .int .i64 e1]) ∧ Below w.heap.size w w' ∧
        (((∀ q ∈ qs, mayB q = true) ∧ qs.length ≤ 40 ∧ e1 = 0 ∧ M = (rawL qs).length ∧ SAt yC 1 w' (.slice A1 M c1) (rawL qs)) ∨ (e1 = 2 ∨ e1 = 3)) := by
  cases hb : (qs.any fun q => !mayB q) with
  | true =>
    refine (raw_no _ qs w h (Or.inl hb)).mono ?_
    rintro e w' ⟨rfl, hb'⟩
    exact ⟨_, _, _, _, rfl, hb', Or.inr (Or.inl (by rw [hb]; rfl))⟩
  | false =>
    have hall : ∀ q ∈ qs, mayB q = true := fun q hq => by
      have := List.any_eq_false.1 hb q hq
      simpa using this
    by_cases h40 : qs.length ≤ 40
    · refine (raw_yes _ qs w h hall h40).mono ?_
      rintro e w' ⟨u, rfl, ho, hb'⟩
      have hs := SAt.ofOwn (enc := yC) (k := 1) (fun _ => rfl) rfl ho
      obtain ⟨A1, c1, rfl⟩ := hs.slice
      exact ⟨_, _, _, _, rfl, hb', Or.inl ⟨hall, h40, rfl, rfl, hs⟩⟩
    · refine (raw_no _ qs w h (Or.inr (by omega))).mono ?_
      rintro e w' ⟨rfl, hb'⟩
      exact ⟨_, _, _, _, rfl, hb', Or.inr (Or.inr (by rw [hb]; rfl))⟩
theorem obs_sub {w : World} {V V' : Value} {qs rs : List Ob} (h : ObsAt w V qs) (hs : SAt Ob.cells 3 w V' rs) (hm : ∀ q ∈ rs, q ∈ qs) : ObsAt w V' rs := ⟨hs, fun q hq => h.2 q (hm q hq)⟩
set_option maxRecDepth 100000 in
set_option maxHeartbeats 2000000 in
theorem objectCuts_any (V : Value) (qs : List Ob) (at' : Int) (w : World) (h : ObsAt w V qs) : Calls Try.prog 5 #[V, .int .i64 at'] w fun e w' => e = .returned (.bool true) ∧ Below w.heap.size w w' := by
  obtain ⟨Q, hQ⟩ : ∃ Q : Ending → World → Prop, Q = fun e w' => e = .returned (.bool true) ∧ Below w.heap.size w w' := ⟨_, rfl⟩
  rw [← hQ]
  have HQ := Lib.hid hQ
  clear hQ
  have hfew := few_any V qs w h
  have hlm := h.1.len
  unfold maxLen at hlm
  obtain ⟨A, c, rfl⟩ := h.1.slice
  cases hf : fewO qs with
  | false =>
    rw [hf] at hfew
    clear hf h
    go_enter Try.func5, Try.ntmps5
    go_wp2_with (first | (go_at_call 6; refine hfew.mono ?_; rintro e w1 ⟨rfl, rfl⟩) | (go_at_call 7; refine (known_any _).mono ?_; rintro e w9 ⟨rfl, hb9⟩))
    rw [HQ.out]
    exact ⟨rfl, hb9⟩
  | true =>
    rw [hf] at hfew
    obtain ⟨hl45, hl70⟩ := few_iff hf
    have hraw := raw_three A c qs w h
    have H := Lib.hid h
    have HL70 := Lib.hid hl70
    have HRAW := Lib.hid hraw
    clear hraw hf h hl70
    go_enter Try.func5, Try.ntmps5
    go_upto_region 4 with (first | (go_at_call 6; refine hfew.mono ?_; rintro e w1 ⟨rfl, rfl⟩) | (go_at_call 8; refine HRAW.out.mono ?_; rintro e w2 ⟨A1, M, c1, e1, rfl, hb2, hor⟩; have HB2 := Lib.hid hb2; have HOR := Lib.hid hor; clear hb2 hor hfew HRAW))
    rcases HOR.out with ⟨hall, h40, rfl, hM, hs2⟩ | he
    · by_cases hneg : at' < 0
      · clear hall hs2 hM
        go_wp2_with (go_at_call 7; refine (known_any _).mono ?_; rintro e w9 ⟨rfl, hb9⟩)
        rw [HQ.out]
        exact ⟨rfl, bl_then HB2.out hb9⟩
      · by_cases hgt : (M : Int) < at'
        · clear hall hs2 hM
          go_wp2_with (go_at_call 7; refine (known_any _).mono ?_; rintro e w9 ⟨rfl, hb9⟩)
          rw [HQ.out]
          exact ⟨rfl, bl_then HB2.out hb9⟩
        · obtain ⟨n, rfl⟩ := Int.eq_ofNat_of_zero_le (show 0 ≤ at' by omega)
          have hnM : n ≤ M := by omega
          have hlr := rawL_len (qs := qs) fun q hq => (mayB_iff (hall q hq)).2.2.2.2.2.1
          have hMb : M ≤ 10400 := by omega
          have HALL := Lib.hid hall
          have HM := Lib.hid hM
          have HS2 := Lib.hid hs2
          have hneg' : ¬ ((n : Nat) : Int) < 0 := by omega
          clear hall hs2 hM hlr hneg HOR
          go_wp2_with fail
          go_loopg [7, 8] (qs.length + 1) (fun gg s7 s8 wr => ∃ i m : Nat, i ≤ qs.length ∧ qs.length - i ≤ gg ∧ s8 = .int .i64 i ∧ s7 = .int .i64 m ∧ wr = w2 ∧ m ≤ 10400 ∧ Aside (m = (rawL (qs.take i)).length) ∧ Aside (∀ i', i' < i → (rawL (qs.take i')).length ≠ n))
          case atStart => exact ⟨0, 0, by omega, by omega, rfl, rfl, rfl, by omega, rfl, fun i' hi => absurd hi (by omega)⟩
          case round =>
            obtain ⟨i, m, hi, hgg, rfl, rfl, rfl, hm4, HMI, HNB⟩ := hrel
            by_cases hlt : i < qs.length
            · have hltz : (i : Int) < (qs.length : Int) := by omega
              by_cases hmn : m = n
              · have hmz : (((m : Nat) : Int) == ((n : Nat) : Int)) = true := by rw [hmn]; simp
                obtain ⟨v1, hr1, hs1⟩ := run_slice_to elY HS2.out n (by have := HM.out; omega)
                obtain ⟨v2, hr2, hs2⟩ := run_slice_from elY HS2.out n (by have := HM.out; omega)
                have hcut := rawL_cut qs i
                rw [← HMI.out, hmn] at hcut
                rw [hcut.1] at hs1
                rw [hcut.2] at hs2
                obtain ⟨B1, d1, rfl⟩ := hs1.slice
                obtain ⟨B2, d2, rfl⟩ := hs2.slice
                have HP1 := Lib.hid (fun X (hX : Below wr.heap.size wr X) => parse_of_raw B1 _ d1 (qs.take i) X rfl (hs1.below hX) (fun q hq => HALL.out q (List.mem_of_mem_take hq)) (by rw [List.length_take]; omega))
                have HP2 := Lib.hid (fun X (hX : Below wr.heap.size wr X) => parse_of_raw B2 _ d2 (qs.drop i) X rfl (hs2.below hX) (fun q hq => HALL.out q (List.mem_of_mem_drop hq)) (by rw [List.length_drop]; omega))
                obtain ⟨N1, hN1⟩ : ∃ N1, N1 = (rawL (qs.take i)).length := ⟨_, rfl⟩
                obtain ⟨N2, hN2⟩ : ∃ N2, N2 = (rawL (qs.drop i)).length := ⟨_, rfl⟩
                obtain ⟨L1, hL1⟩ : ∃ L1, L1 = (qs.take i).length := ⟨_, rfl⟩
                obtain ⟨L2, hL2⟩ : ∃ L2, L2 = (qs.drop i).length := ⟨_, rfl⟩
                rw [← hN1] at hr1 HP1
                rw [← hN2] at hr2 HP2
                rw [← hL1] at HP1
                rw [← hL2] at HP2
                have hob := H.out.below HB2.out
                obtain ⟨v3, hr3, hs3⟩ := run_slice_to elO hob.1 i hi
                obtain ⟨v4, hr4, hs4⟩ := run_slice_from elO hob.1 i hi
                have HO3 := Lib.hid (obs_sub hob hs3 fun q hq => List.mem_of_mem_take hq)
                have HO4 := Lib.hid (obs_sub hob hs4 fun q hq => List.mem_of_mem_drop hq)
                clear hcut hs1 hs2 hs3 hs4 hob hN1 hN2 hL1 hL2 hmn
                go_wp2_with (first
                  | (go_at_call 11; with_reducible refine (HP1.out _ (Below.refl _ _)).mono ?_; rintro e w3 ⟨rs1, C1, k1, rfl, hb3, ho3, hk3⟩; have HB3 := Lib.hid hb3; have HR3 := Lib.hid ho3; have HK3 := Lib.hid hk3; clear hb3 ho3 hk3)
                  | (go_at_call 11; with_reducible refine (HP2.out _ HB3.out).mono ?_; rintro e w4 ⟨rs2, C2, k2, rfl, hb4, ho4, hk4⟩; have HB4 := Lib.hid hb4; have HR4 := Lib.hid ho4; have HK4 := Lib.hid hk4; clear hb4 ho4 hk4)
                  | (go_at_call 12; with_reducible refine (same_yes _ _ rs1 (qs.take i) _ (HR3.out.below HB4.out) (HO3.out.below (bl_then HB3.out HB4.out)) (keys_eq HK3.out).1 (keys_eq HK3.out).2).mono ?_; rintro e w5 ⟨rfl, hb5⟩; have HB5 := Lib.hid hb5; clear hb5)
                  | (go_at_call 12; with_reducible refine (same_yes _ _ rs2 (qs.drop i) _ (HR4.out.below HB5.out) (HO4.out.below (bl_then HB3.out (bl_then HB4.out HB5.out))) (keys_eq HK4.out).1 (keys_eq HK4.out).2).mono ?_; rintro e w6 ⟨rfl, hb6⟩; have HB6 := Lib.hid hb6; clear hb6)
                  | (go_at_call 7; refine (known_any _).mono ?_; rintro e w9 ⟨rfl, hb9⟩))
                rw [HQ.out]
                exact ⟨rfl, bl_then HB2.out (bl_then HB3.out (bl_then HB4.out (bl_then HB5.out (bl_then HB6.out hb9))))⟩
              · have hmz : (((m : Nat) : Int) == ((n : Nat) : Int)) = false := beq_eq_false_iff_ne.2 (by omega)
                have hgk : qs[i]? = some qs[i] := List.getElem?_eq_getElem hlt
                generalize qs[i] = x at hgk
                have hob := H.out.below HB2.out
                have hws := hob.2 x (List.mem_of_getElem? hgk)
                obtain ⟨A2, cc, hv⟩ := ws_form hws
                rcases hob.1 with ⟨h1, h2⟩ | ⟨b, o, c', h1, _, _, hrow⟩
                · subst h2; simp at hlt
                · simp only [Value.slice.injEq] at h1
                  obtain ⟨rfl, -, rfl⟩ := h1
                  obtain ⟨c0, c1', c2⟩ := ObAt.ofRow hrow hgk
                  rw [hv] at c2
                  have hx64 : x.ws.length ≤ 64 := (mayB_iff (HALL.out x (List.mem_of_getElem? hgk))).2.2.2.2.2.1
                  have hnext : m + 4 + 4 * x.ws.length = (rawL (qs.take (i + 1))).length := by
                    rw [rawL_snoc hgk, List.length_append, rawO_len, ← HMI.out]
                    omega
                  have hnb : m + 4 + 4 * x.ws.length ≤ 10400 := by
                    have h1 := rawL_len (qs := qs.take (i + 1)) fun q hq => (mayB_iff (HALL.out q (List.mem_of_mem_take hq))).2.2.2.2.2.1
                    have h2 : (qs.take (i + 1)).length ≤ 40 := by rw [List.length_take]; omega
                    omega
                  have HNX := Lib.hid hnext
                  have HMN := Lib.hid hmn
                  clear hob hrow hgk hws hv hnext hmn c0 c1'
                  go_wp2_with fail
                  go_roundg (qs.length - (i + 1))
                  case measure => omega
                  case rel =>
                    refine ⟨i + 1, m + 4 + 4 * x.ws.length, by omega, by omega, by go_num, ?_, rfl, hnb, HNX.out, fun i' hi' => ?_⟩
                    · simp
                    · rcases Nat.lt_or_ge i' i with h | h
                      · exact HNB.out i' h
                      · obtain rfl : i' = i := by omega
                        rw [← HMI.out]
                        exact HMN.out
            · obtain rfl : i = qs.length := by omega
              have hltz : ¬ ((qs.length : Nat) : Int) < ((qs.length : Nat) : Int) := by omega
              obtain ⟨v1, hr1, hs1⟩ := run_slice_to elY HS2.out n (by have := HM.out; omega)
              have hmi := HMI.out
              rw [List.take_length] at hmi
              by_cases hmn : m = n
              · have hmz : (((m : Nat) : Int) == ((n : Nat) : Int)) = true := by rw [hmn]; simp
                have hcut := rawL_cut qs qs.length
                rw [List.take_length, ← hmi, hmn] at hcut
                rw [hcut.1] at hs1
                obtain ⟨B1, d1, rfl⟩ := hs1.slice
                have HP1 := Lib.hid (parse_of_raw B1 _ d1 qs wr rfl hs1 HALL.out h40)
                obtain ⟨N1, hN1⟩ : ∃ N1, N1 = (rawL qs).length := ⟨_, rfl⟩
                rw [← hN1] at hr1 HP1
                have HOB := Lib.hid (H.out.below HB2.out)
                clear hcut hs1 hN1 hmn hmi
                go_wp2_with (first
                  | (go_at_call 11; with_reducible refine HP1.out.mono ?_; rintro e w3 ⟨rs1, C1, k1, rfl, hb3, ho3, hk3⟩; have HB3 := Lib.hid hb3; have HR3 := Lib.hid ho3; have HK3 := Lib.hid hk3; clear hb3 ho3 hk3)
                  | (go_at_call 12; with_reducible refine (same_yes _ _ rs1 qs _ HR3.out (HOB.out.below HB3.out) (keys_eq HK3.out).1 (keys_eq HK3.out).2).mono ?_; rintro e w5 ⟨rfl, hb5⟩; have HB5 := Lib.hid hb5; clear hb5)
                  | (go_at_call 7; refine (known_any _).mono ?_; rintro e w9 ⟨rfl, hb9⟩))
                rw [HQ.out]
                exact ⟨rfl, bl_then HB2.out (bl_then HB3.out (bl_then HB5.out hb9))⟩
              · have hmz : (((m : Nat) : Int) == ((n : Nat) : Int)) = false := beq_eq_false_iff_ne.2 (by omega)
                have hno : parseO ((rawL qs).take n) = none := by
                  unfold parseO
                  rw [if_neg]
                  rintro ⟨h1, -⟩
                  rw [cut_none qs n HALL.out (by have := HM.out; omega) fun i' hi' he => ?_] at h1
                  · cases h1
                  · rcases Nat.lt_or_ge i' qs.length with h | h
                    · exact HNB.out i' h he
                    · obtain rfl : i' = qs.length := by omega
                      rw [List.take_length] at he
                      omega
                obtain ⟨B1, d1, rfl⟩ := hs1.slice
                have hpn := (parse_any B1 d1 _ wr hs1 (fun z hz => rawL_in qs z (List.mem_of_mem_take hz)) (by rw [List.length_take]; omega)).mono (R' := fun e w' => e = .returned (.tuple #[.slice none 0 0, .int .i64 170]) ∧ Below wr.heap.size wr w') (by
                  rintro e w' ⟨hb, ⟨rs, V, h1, -⟩ | ⟨-, h1⟩⟩
                  · rw [hno] at h1; cases h1
                  · exact ⟨h1, hb⟩)
                have HP1 := Lib.hid hpn
                obtain ⟨N1, hN1⟩ : ∃ N1, N1 = ((rawL qs).take n).length := ⟨_, rfl⟩
                rw [← hN1] at hr1 HP1
                clear hs1 hN1 hmn hmi hno hpn
                go_wp2_with (first
                  | (go_at_call 11; with_reducible refine HP1.out.mono ?_; rintro e w3 ⟨rfl, hb3⟩; have HB3 := Lib.hid hb3; clear hb3)
                  | (go_at_call 7; refine (known_any _).mono ?_; rintro e w9 ⟨rfl, hb9⟩))
                rw [HQ.out]
                exact ⟨rfl, bl_then HB2.out (bl_then HB3.out hb9)⟩
    · have he0 : ¬ e1 = 0 := by omega
      clear he HOR
      go_wp2_with (go_at_call 7; refine (known_any _).mono ?_; rintro e w9 ⟨rfl, hb9⟩)
      all_goals first | (rw [HQ.out]; exact ⟨rfl, bl_then HB2.out hb9⟩) | (exfalso; omega)
end Go.Proofs.Ytnflgikmljfakaa
