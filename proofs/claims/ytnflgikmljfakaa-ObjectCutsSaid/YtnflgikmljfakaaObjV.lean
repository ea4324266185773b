/- Object: the law of bytes. -/
import Derived.Test.YtnflgikmljfakaaObjU
import Derived.Test.YtnflgikmljfakaaObjI
namespace Go.Proofs.Ytnflgikmljfakaa
open Go Go.RowKit Go.Shelf
set_option linter.unusedVariables false
set_option linter.unusedSimpArgs false
attribute [local go_sem] Oper.semAt_some
theorem few_iff {qs : List Ob} (h : fewO qs = true) : qs.length ≤ 45 ∧ ∀ q ∈ qs, q.ws.length ≤ 70 := by
  unfold fewO at h
  simp only [Bool.and_eq_true, decide_eq_true_eq, List.all_eq_true] at h
  exact h
theorem rawL_len70 {qs : List Ob} (h : ∀ q ∈ qs, q.ws.length ≤ 70) : (rawL qs).length ≤ 284 * qs.length := by
  unfold rawL
  induction qs with
  | nil => simp
  | cons q qs ih =>
    have h1 := ih fun x hx => h x (by simp [hx])
    have h2 := h q (by simp)
    simp only [List.flatMap_cons, List.length_append, rawO_len, List.length_cons]
    omega
theorem rawL_snoc {qs : List Ob} {k : Nat} {q : Ob} (h : qs[k]? = some q) : rawL (qs.take (k + 1)) = rawL (qs.take k) ++ rawO q := by
  rw [← take_snoc' h]
  simp [rawL]
theorem raw_in (q : Ob) : BytesIn (rawO q) := by
  unfold rawO
  intro x hx
  rcases List.mem_append.1 hx with h | h
  · exact numB_lt _ _ x h
  · rcases List.mem_append.1 h with h | h
    · simp at h
      rcases h with rfl | rfl <;> omega
    · obtain ⟨n, -, hn⟩ := List.mem_flatMap.1 h
      exact numB_lt _ _ x hn
theorem rawL_in (qs : List Ob) : BytesIn (rawL qs) := fun x hx => by
  obtain ⟨q, -, h⟩ := List.mem_flatMap.1 hx
  exact raw_in q x h
theorem parse_raw {qs : List Ob} (h : ∀ q ∈ qs, mayB q = true) (hl : qs.length ≤ 40) : parseO (rawL qs) = some (qs.map Ob.key) := by
  unfold parseO
  rw [rd_raw qs h, if_pos ⟨rfl, by rw [List.length_map]; exact hl⟩]
theorem key_eq {a b : Ob} (h : a.key = b.key) : eqO a b = true := by
  unfold Ob.key at h
  simp only [Prod.mk.injEq] at h
  unfold eqO
  simp [h.1, h.2.1, h.2.2]
theorem keys_eq {qs rs : List Ob} (h : qs.map Ob.key = rs.map Ob.key) : qs.length = rs.length ∧ ∀ (j : Nat) (a b : Ob), qs[j]? = some a → rs[j]? = some b → eqO a b = true := by
  refine ⟨by simpa using congrArg List.length h, fun j a b ha hb => key_eq ?_⟩
  have h1 : (qs.map Ob.key)[j]? = (rs.map Ob.key)[j]? := by rw [h]
  rw [List.getElem?_map, List.getElem?_map, ha, hb] at h1
  simpa using h1
theorem obs_own {w : World} {base : Nat} {V : Value} {qs : List Ob} (h : w.ownsRow base 32 3 V qs.length (qs.flatMap Ob.cells)) (hw : ∀ q ∈ qs, WsIn w q.v q.ws) : ObsAt w V qs := ⟨SAt.ofOwn (fun _ => rfl) rfl h, fun q hq => (hw q hq).at⟩
/-- Parse of the bytes of objects. -/
theorem parse_of_raw (A : Option Addr) (M c : Nat) (qs : List Ob) (w : World) (hM : M = (rawL qs).length) (hs : SAt yC 1 w (.slice A M c) (rawL qs)) (hm : ∀ q ∈ qs, mayB q = true) (hl : qs.length ≤ 40) :
    Calls Try.prog 11 #[.slice A M c] w fun e w' => ∃ (rs : List Ob) (A' : Option Addr) (c' : Nat), e = .returned (.tuple #[.slice A' qs.length c', .int .i64 0]) ∧ Below w.heap.size w w' ∧ ObsAt w' (.slice A' qs.length c') rs ∧ rs.map Ob.key = qs.map Ob.key := by
  subst hM
  have hlen := rawL_len (qs := qs) fun q hq => (mayB_iff (hm q hq)).2.2.2.2.2.1
  refine (parse_any A c (rawL qs) w hs (rawL_in qs) (by omega)).mono ?_
  rintro e w' ⟨hb, ⟨rs, V, h1, rfl, h2, h3⟩ | ⟨h1, -⟩⟩
  · rw [parse_raw hm hl] at h1
    have hk : rs.map Ob.key = qs.map Ob.key := (Option.some.inj h1).symm
    have hlr : rs.length = qs.length := by simpa using congrArg List.length hk
    obtain ⟨A', c', rfl⟩ := own_form h2
    rw [hlr]
    have ho := obs_own h2 h3
    rw [hlr] at ho
    exact ⟨rs, A', c', rfl, hb, ho, hk⟩
  · rw [parse_raw hm hl] at h1
    cases h1
set_option maxRecDepth 100000 in
set_option maxHeartbeats 2000000 in
theorem objectRaws_any (V : Value) (qs : List Ob) (w : World) (h : ObsAt w V qs) : Calls Try.prog 3 #[V] w fun e w' => e = .returned (.bool true) ∧ Below w.heap.size w w' := by
  obtain ⟨Q, hQ⟩ : ∃ Q : Ending → World → Prop, Q = fun e w' => e = .returned (.bool true) ∧ Below w.heap.size w w' := ⟨_, rfl⟩
  rw [← hQ]
  have HQ := Lib.hid hQ
  clear hQ
  have hfew := few_any V qs w h
  have hlm := h.1.len
  unfold maxLen at hlm
  obtain ⟨A, c, rfl⟩ := h.1.slice
  cases hf : fewO qs with
  | false =>
    rw [hf] at hfew
    clear hf h
    go_enter Try.func3, Try.ntmps3
    go_wp2_with (first | (go_at_call 6; refine hfew.mono ?_; rintro e w1 ⟨rfl, rfl⟩) | (go_at_call 7; refine (known_any _).mono ?_; rintro e w2 ⟨rfl, hb2⟩))
    rw [HQ.out]
    exact ⟨rfl, hb2⟩
  | true =>
    rw [hf] at hfew
    obtain ⟨hl45, hl70⟩ := few_iff hf
    have H := Lib.hid h
    have HL70 := Lib.hid hl70
    have hraw : Calls Try.prog 8 #[.slice A qs.length c] w fun e w' => ∃ (A1 : Option Addr) (M c1 : Nat) (e1 : Int), e = .returned (.tuple #[.slice A1 M c1, .int .i64 e1]) ∧ Below w.heap.size w w' ∧
        (((∀ q ∈ qs, mayB q = true) ∧ qs.length ≤ 40 ∧ e1 = 0 ∧ M = (rawL qs).length ∧ SAt yC 1 w' (.slice A1 M c1) (rawL qs)) ∨ ((qs.any fun q => !mayB q) = true ∧ M = 0 ∧ e1 = 2) ∨ ((∀ q ∈ qs, mayB q = true) ∧ 40 < qs.length ∧ M = 0 ∧ e1 = 3)) := by
      cases hb : (qs.any fun q => !mayB q) with
      | true =>
        refine (raw_no _ qs w h (Or.inl hb)).mono ?_
        rintro e w' ⟨rfl, hb'⟩
        exact ⟨_, _, _, _, rfl, hb', Or.inr (Or.inl ⟨rfl, rfl, by rw [hb]; rfl⟩)⟩
      | false =>
        have hall : ∀ q ∈ qs, mayB q = true := fun q hq => by
          have := List.any_eq_false.1 hb q hq
          simpa using this
        by_cases h40 : qs.length ≤ 40
        · refine (raw_yes _ qs w h hall h40).mono ?_
          rintro e w' ⟨u, rfl, ho, hb'⟩
          have hs := SAt.ofOwn (enc := yC) (k := 1) (fun _ => rfl) rfl ho
          obtain ⟨A1, c1, rfl⟩ := hs.slice
          exact ⟨_, _, _, _, rfl, hb', Or.inl ⟨hall, h40, rfl, rfl, hs⟩⟩
        · refine (raw_no _ qs w h (Or.inr (by omega))).mono ?_
          rintro e w' ⟨rfl, hb'⟩
          exact ⟨_, _, _, _, rfl, hb', Or.inr (Or.inr ⟨hall, by omega, rfl, by rw [hb]; rfl⟩)⟩
    have HRAW := Lib.hid hraw
    clear hraw hf h hl70
    go_enter Try.func3, Try.ntmps3
    go_wp2_with (first | (go_at_call 6; refine hfew.mono ?_; rintro e w1 ⟨rfl, rfl⟩) | (go_at_call 8; refine HRAW.out.mono ?_; rintro e w2 ⟨A1, M, c1, e1, rfl, hb2, hor⟩; have HB2 := Lib.hid hb2; have HOR := Lib.hid hor; clear hb2 hor hfew HRAW))
    go_loopg [5, 6] (qs.length + 1) (fun gg s5 s6 wr => ∃ k : Nat, k ≤ qs.length ∧ qs.length - k ≤ gg ∧ s6 = .int .i64 k ∧ Aside (wr.ownsRow w2.heap.size 5 1 s5 (rawL (qs.take k)).length ((rawL (qs.take k)).flatMap yC)) ∧ Aside (Below w2.heap.size w2 wr) ∧ Aside (∀ q ∈ qs.take k, mayB q = true))
    case atStart => exact ⟨0, by omega, by omega, rfl, (World.ownsRow_nil _ _ _ _ : w2.ownsRow w2.heap.size 5 1 (.slice none 0 0) 0 []), Below.refl _ _, (fun q hq => by simp at hq)⟩
    case round =>
      obtain ⟨k, hk, hgg, rfl, HO, HB, HMY⟩ := hrel
      obtain ⟨N, hN⟩ : ∃ N, N = (rawL (qs.take k)).length := ⟨_, rfl⟩
      have ho := HO.out
      rw [← hN] at ho
      obtain ⟨A5, c5, rfl⟩ := own_form ho
      have HO2 := Lib.hid ho
      have HNN := Lib.hid hN
      clear ho hN HO
      have HBW : Hid (Below w.heap.size w wr) := Lib.hid (HB2.out.trans (HB.out.mono HB2.out.size))
      by_cases hlt : k < qs.length
      · have hltz : (k : Int) < (qs.length : Int) := by omega
        have hgk : qs[k]? = some qs[k] := List.getElem?_eq_getElem hlt
        generalize qs[k] = x at hgk
        have hob := H.out.below HBW.out
        have hws := hob.2 x (List.mem_of_getElem? hgk)
        obtain ⟨A2, cc, hv⟩ := ws_form hws
        rcases hob.1 with ⟨h1, h2⟩ | ⟨b, o, c', h1, _, _, hrow⟩
        · subst h2; simp at hlt
        · simp only [Value.slice.injEq] at h1
          obtain ⟨rfl, -, rfl⟩ := h1
          obtain ⟨c0, c1', c2⟩ := ObAt.ofRow hrow hgk
          rw [hv] at c2
          have hrr := rright_any x wr hws
          rw [hv] at hrr
          have HRR := Lib.hid hrr
          have HK := Lib.hid hgk
          have HWS := Lib.hid hws
          have HV := Lib.hid hv
          have HCC : Hid (∀ X, Below wr.heap.size wr X → X.cell? ⟨b, o + k * 3, none⟩ = some (.int .i64 x.c) ∧ X.cell? ⟨b, o + k * 3 + 1, none⟩ = some (.int .i64 x.t) ∧ X.cell? ⟨b, o + k * 3 + 2, none⟩ = some (.slice A2 x.ws.length cc)) := Lib.hid fun X hX => ⟨bl_cell hX c0, bl_cell hX c1', bl_cell hX c2⟩
          clear hob hrow hgk hws hv hrr
          cases hmx : mayB x with
          | false =>
            rw [hmx] at HRR
            have hbad : ¬ ∀ q ∈ qs, mayB q = true := fun h => by
              have := h x (List.mem_of_getElem? HK.out)
              rw [hmx] at this
              cases this
            obtain ⟨rfl, rfl⟩ : M = 0 ∧ e1 = 2 := by
              rcases HOR.out with ⟨h, -⟩ | ⟨-, h1, h2⟩ | ⟨h, -⟩
              · exact absurd h hbad
              · exact ⟨h1, h2⟩
              · exact absurd h hbad
            clear hbad hmx HOR
            go_wp2_with (first | (go_at_call 9; refine HRR.out.mono ?_; rintro e w3 ⟨rfl, hb3⟩) | (go_at_call 7; refine (known_any _).mono ?_; rintro e w4 ⟨rfl, hb4⟩))
            rw [HQ.out]
            exact ⟨rfl, HBW.out.trans ((bl_then hb3 hb4).mono HBW.out.size)⟩
          | true =>
            rw [hmx] at HRR
            have HMX := Lib.hid hmx
            clear hmx c0 c1' c2
            have hx0 := (HCC.out _ (Below.refl _ _)).1
            have hx1 := (HCC.out _ (Below.refl _ _)).2.1
            have hx2 := (HCC.out _ (Below.refl _ _)).2.2
            go_upto_region 10 with (go_at_call 9; refine HRR.out.mono ?_; rintro e w3 ⟨rfl, hb3⟩)
            clear hx0 hx1 hx2
            have hx0 := (HCC.out _ hb3).1
            have hx1 := (HCC.out _ hb3).2.1
            have hx2 := (HCC.out _ hb3).2.2
            have hro := rraw_any x w3 (ws_below HWS.out hb3) HMX.out
            rw [HV.out] at hro
            have HRO := Lib.hid hro
            have HO3 := Lib.hid (own_kept HO2.out (W := w3) fun i cur _ hi => (hb3.block i (Array.getElem?_eq_some_iff.1 hi).1).trans hi)
            have HB3 := Lib.hid hb3
            have hN70 : N + (rawO x).length ≤ 14000 := by
              rw [HNN.out, rawO_len]
              have h1 := rawL_len70 (qs := qs.take k) fun q hq => HL70.out q (List.mem_of_mem_take hq)
              have h2 := HL70.out x (List.mem_of_getElem? HK.out)
              have h3 : (qs.take k).length ≤ 45 := by simp; omega
              omega
            have HN70 := Lib.hid hN70
            clear hb3 hro HRR hN70
            go_wp2_with (first | (go_at_call 10; refine HRO.out.mono ?_; rintro e w4 ⟨u, rfl, ho4, hb4⟩; (obtain ⟨A4, c4, rfl⟩ := own_form ho4); obtain ⟨N4, hN4⟩ : ∃ N4, N4 = (rawO x).length := ⟨_, rfl⟩; rw [← hN4] at ho4 ⊢; have HO4 := Lib.hid ho4; have HN4 := Lib.hid hN4; have HB4 := Lib.hid hb4; have HO44 := Lib.hid (own_kept HO3.out (W := w4) fun i cur _ hi => (hb4.block i (Array.getElem?_eq_some_iff.1 hi).1).trans hi); clear ho4 hN4 hb4) | (at_builtin; go_loud (refine wpList_app rfl (.tmp 40) (.tmp 45) rfl elY (fun _ => rfl) y_one (base := w2.heap.size) (v := .slice A5 N c5) (src := .slice A4 N4 c4) (xs := rawL (qs.take k)) (ys := rawO x) (by go_simp) (by go_simp) HNN.out HO44.out (by rw [HN4.out]; exact SAt.ofOwn (fun _ => rfl) rfl (by rw [← HN4.out]; exact HO4.out)) (by have h1 := HB.out.size; have h2 := HB3.out.size; have h3 := HB4.out.size; omega) (by have h1 := HNN.out; have h2 := HN70.out; unfold maxLen; omega) (by have h1 := HNN.out; have h2 := HN70.out; omega) ?_; intro v5 w5 ho5 hg5; have HO5 := Lib.hid ho5; have HB5 := Lib.hid (own_below HO44.out hg5 (by have h1 := HB.out.size; have h2 := HB3.out.size; have h3 := HB4.out.size; omega)); clear ho5 hg5)))
            go_roundg (qs.length - (k + 1))
            case measure => omega
            case rel =>
              refine ⟨k + 1, by omega, by omega, by go_num, ?_, ?_, ?_⟩
              · show w5.ownsRow w2.heap.size 5 1 v5 (rawL (qs.take (k + 1))).length ((rawL (qs.take (k + 1))).flatMap yC)
                rw [rawL_snoc HK.out]
                exact HO5.out
              · exact HB.out.trans (((bl_then HB3.out HB4.out).mono HB.out.size).trans HB5.out)
              · intro q hq
                rw [← take_snoc' HK.out] at hq
                rcases List.mem_append.1 hq with hq | hq
                · exact HMY.out q hq
                · simp only [List.mem_singleton] at hq
                  subst hq
                  exact HMX.out
      · obtain rfl : k = qs.length := by omega
        have hltz : ¬ ((qs.length : Nat) : Int) < ((qs.length : Nat) : Int) := by omega
        have hall : ∀ q ∈ qs, mayB q = true := by
          have h1 := HMY.out
          rwa [List.take_length] at h1
        have hnany : (qs.any fun q => !mayB q) = true → False := fun h => by
          obtain ⟨q, hq, h2⟩ := List.any_eq_true.1 h
          rw [hall q hq] at h2
          cases h2
        by_cases h40 : qs.length ≤ 40
        · have h40z : ¬ (40 : Int) < (qs.length : Int) := by omega
          obtain ⟨rfl, hM, hs2⟩ : e1 = 0 ∧ M = (rawL qs).length ∧ SAt yC 1 w2 (.slice A1 M c1) (rawL qs) := by
            rcases HOR.out with ⟨-, -, h1, h2, h3⟩ | ⟨h, -⟩ | ⟨-, h, -⟩
            · exact ⟨h1, h2, h3⟩
            · exact (hnany h).elim
            · omega
          have hb2r := HB.out
          have hpar := parse_of_raw A1 M c1 qs wr hM (hs2.below hb2r) hall h40
          have HPAR := Lib.hid hpar
          have hs5 : SAt yC 1 wr (.slice A5 N c5) (rawL qs) := by
            have h1 := HO2.out
            rw [List.take_length] at h1
            have h2 := HNN.out
            rw [List.take_length] at h2
            rw [h2] at h1 ⊢
            exact SAt.ofOwn (fun _ => rfl) rfl h1
          have hcv : ∀ X, Below wr.heap.size wr X → (convert 25 9 (.slice A1 M c1)).run Try.prog X = .ok (.string (strOfNums (rawL qs))) X ∧ (convert 25 9 (.slice A5 N c5)).run Try.prog X = .ok (.string (strOfNums (rawL qs))) X := fun X hX => ⟨conv_sat (hs2.below (bl_then hb2r hX)), conv_sat (hs5.below hX)⟩
          obtain ⟨str, hstr⟩ : ∃ str, str = strOfNums (rawL qs) := ⟨_, rfl⟩
          rw [← hstr] at hcv
          have HCV := Lib.hid hcv
          clear hpar hb2r hs2 hM hall hnany HOR hs5 hstr hcv
          go_upto_region 14 with (go_at_call 11; refine HPAR.out.mono ?_; rintro e w5 ⟨rs, A7, c7, rfl, hb5, ho5, hk5⟩; have HB5 := Lib.hid hb5; have HO5 := Lib.hid ho5; have HK5 := Lib.hid hk5; clear hb5 ho5 hk5)
          have hcv1 := (HCV.out w5 HB5.out).1
          have hcv2 := (HCV.out w5 HB5.out).2
          clear HCV
          go_wp2_with (first | (go_at_call 12; refine (same_yes _ _ rs qs w5 HO5.out (H.out.below (HBW.out.trans (HB5.out.mono HBW.out.size))) (keys_eq HK5.out).1 (keys_eq HK5.out).2).mono ?_; rintro e w6 ⟨rfl, hb6⟩; have HB6 := Lib.hid hb6; clear hb6) | (go_at_call 7; refine (known_any _).mono ?_; rintro e w7 ⟨rfl, hb7⟩; have HB7 := Lib.hid hb7; clear hb7))
          rw [HQ.out]
          exact ⟨rfl, HBW.out.trans ((bl_then HB5.out (bl_then HB6.out HB7.out)).mono HBW.out.size)⟩
        · have h40z : (40 : Int) < (qs.length : Int) := by omega
          obtain ⟨rfl, rfl⟩ : M = 0 ∧ e1 = 3 := by
            rcases HOR.out with ⟨-, h, -⟩ | ⟨h, -⟩ | ⟨-, -, h1, h2⟩
            · omega
            · exact (hnany h).elim
            · exact ⟨h1, h2⟩
          clear hall hnany HOR
          go_wp2_with (go_at_call 7; refine (known_any _).mono ?_; rintro e w4 ⟨rfl, hb4⟩)
          rw [HQ.out]
          exact ⟨rfl, HBW.out.trans (hb4.mono HBW.out.size)⟩
end Go.Proofs.Ytnflgikmljfakaa
