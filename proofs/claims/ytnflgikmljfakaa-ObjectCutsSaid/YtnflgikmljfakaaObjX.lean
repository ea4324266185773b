/- Object: bytes that are objects' are these objects' bytes (plain); the law of Parse. -/
import Derived.Test.YtnflgikmljfakaaObjW
namespace Go.Proofs.Ytnflgikmljfakaa
open Go Go.RowKit Go.Shelf
set_option linter.unusedVariables false
set_option linter.unusedSimpArgs false
attribute [local go_sem] Oper.semAt_some
theorem numB_num2 {l : List Int} (hl : l.length = 2) (h : BytesIn l) : numB (numOf l 0) 2 = l := by
  rcases l with _ | ⟨x, _ | ⟨y, _ | ⟨z, l⟩⟩⟩
  · simp at hl
  · simp at hl
  · have h1 := h x (by simp)
    have h2 := h y (by simp)
    simp only [numB, numOf, Nat.mul_zero, Nat.mul_one, Nat.reduceMul, Int.reducePow, List.cons.injEq, and_true]
    omega
  · simp at hl
theorem numB_num4 {l : List Int} (hl : l.length = 4) (h : BytesIn l) : numB (numOf l 0) 4 = l ∧ 0 ≤ numOf l 0 ∧ numOf l 0 ≤ 4294967295 := by
  rcases l with _ | ⟨x, _ | ⟨y, _ | ⟨z, _ | ⟨t, _ | ⟨s, l⟩⟩⟩⟩⟩
  · simp at hl
  · simp at hl
  · simp at hl
  · simp at hl
  · have h1 := h x (by simp)
    have h2 := h y (by simp)
    have h3 := h z (by simp)
    have h4 := h t (by simp)
    simp only [numB, numOf, Nat.mul_zero, Nat.mul_one, Nat.reduceMul, Int.reducePow, List.cons.injEq, and_true]
    omega
  · simp at hl
theorem words_inv {bw : List Int} (h : BytesIn bw) : ∀ (K : Nat), 4 * K ≤ bw.length → ((wordsOf K bw).flatMap fun n => numB n 4) = bw.take (4 * K) ∧ ∀ n ∈ wordsOf K bw, 0 ≤ n ∧ n ≤ 4294967295
  | 0, _ => by simp [wordsOf]
  | K + 1, hK => by
    obtain ⟨h1, h2⟩ := words_inv h K (by omega)
    have h4 := numB_num4 (l := (bw.drop (4 * K)).take 4) (by simp; omega) fun x hx => h x (List.mem_of_mem_drop (List.mem_of_mem_take hx))
    rw [wordsOf_succ]
    refine ⟨?_, fun n hn => ?_⟩
    · rw [List.flatMap_append, h1]
      show bw.take (4 * K) ++ ([word4 bw K].flatMap fun n => numB n 4) = _
      rw [List.flatMap_cons, List.flatMap_nil, List.append_nil]
      unfold word4
      rw [h4.1, show 4 * (K + 1) = 4 * K + 4 by omega, List.take_add]
    · rcases List.mem_append.1 hn with hn | hn
      · exact h2 n hn
      · simp only [List.mem_singleton] at hn
        subst hn
        exact h4.2
theorem step_inv {bs rest : List Int} {k : O3} (hin : BytesIn bs) (h : stepO bs = some (k, rest)) (q : Ob) (hq : q.key = k) : bs = rawO q ++ rest ∧ mayB q = true := by
  unfold stepO at h
  split at h
  · cases h
  · rename_i hl2
    split at h
    · rename_i hn
      obtain ⟨n1, n2, n3, n4⟩ := hn
      simp only [Option.some.injEq, Prod.mk.injEq] at h
      obtain ⟨hk, hrest⟩ := h
      obtain ⟨L, hL⟩ : ∃ L, L = numOf (bs.take 2) 0 := ⟨_, rfl⟩
      rw [← hL] at n1 n2 n3 n4 hk hrest
      rw [← hk] at hq
      unfold Ob.key at hq
      simp only [Prod.mk.injEq] at hq
      obtain ⟨e1, e2, e3⟩ := hq
      obtain ⟨K, hK⟩ : ∃ K : Nat, L = 4 * ((K : Int) + 1) := ⟨(L / 4 - 1).toNat, by omega⟩
      obtain ⟨x, hx⟩ : ∃ x, bs[2]? = some x := ⟨_, List.getElem?_eq_getElem (by omega)⟩
      obtain ⟨y, hy⟩ : ∃ y, bs[3]? = some y := ⟨_, List.getElem?_eq_getElem (by omega)⟩
      have rx := hin x (List.mem_of_getElem? hx)
      have ry := hin y (List.mem_of_getElem? hy)
      rw [num_one hx] at e1
      rw [num_one hy] at e2
      rw [show L.toNat / 4 - 1 = K by omega] at e3
      obtain ⟨w1, w2⟩ := words_inv (bw := bs.drop 4) (fun z hz => hin z (List.mem_of_mem_drop hz)) K (by rw [List.length_drop]; omega)
      have hws : q.ws.length = K := by rw [e3, wordsOf_len]
      refine ⟨?_, ?_⟩
      · have b2 := numB_num2 (l := bs.take 2) (by simp; omega) fun z hz => hin z (List.mem_of_mem_take hz)
        rw [← hL] at b2
        have d2 : bs.drop 2 = [x, y] ++ bs.drop 4 := by
          rw [List.drop_eq_getElem_cons (List.getElem?_eq_some_iff.1 hx).1, List.drop_eq_getElem_cons (List.getElem?_eq_some_iff.1 hy).1, (List.getElem?_eq_some_iff.1 hx).2, (List.getElem?_eq_some_iff.1 hy).2]
          rfl
        unfold rawO
        rw [hws, show 4 + 4 * (K : Int) = L by omega, b2, e1, e2, show x % 256 = x by omega, show y % 256 = y by omega, e3, w1, ← hrest, show L.toNat = 4 + 4 * K by omega]
        conv => lhs; rw [← List.take_append_drop 2 bs, d2]
        rw [← List.drop_drop]
        rw [List.append_assoc, List.append_assoc, List.take_append_drop]
      · unfold mayB wiB
        simp only [Bool.and_eq_true, decide_eq_true_eq, List.all_eq_true]
        refine ⟨⟨by omega, by omega⟩, ⟨by omega, by omega⟩, ⟨by omega, by omega⟩, fun n hn => ?_⟩
        rw [e3] at hn
        have := w2 n hn
        unfold wordB wiB
        simpa using this
    · cases h
theorem rd_inv : ∀ (n : Nat) (bs : List Int) (qs : List Ob), bs.length ≤ n → BytesIn bs → qs.map Ob.key = (rd bs).1 → (rd bs).2 = true → rawL qs = bs ∧ ∀ q ∈ qs, mayB q = true := by
  intro n
  induction n with
  | zero =>
    intro bs qs hn hin hk hf
    have : bs = [] := List.eq_nil_of_length_eq_zero (by omega)
    subst this
    have : qs = [] := by
      rw [rd_nil] at hk
      simpa using hk
    subst this
    exact ⟨rfl, by simp⟩
  | succ n ih =>
    intro bs qs hn hin hk hf
    rcases Nat.eq_zero_or_pos bs.length with h0 | h0
    · exact ih bs qs (by omega) hin hk hf
    · cases hs : stepO bs with
      | none =>
        rw [rd_none h0 hs] at hf
        cases hf
      | some p =>
        obtain ⟨k, rest⟩ := p
        have hl := stepO_lt hs
        rw [rd_some h0 hs] at hk hf
        cases qs with
        | nil => simp at hk
        | cons q qs =>
          simp only [List.map_cons, List.cons.injEq] at hk
          obtain ⟨h1, h2⟩ := step_inv hin hs q hk.1
          obtain ⟨h3, h4⟩ := ih rest qs (by omega) (fun z hz => hin z (by rw [h1]; exact List.mem_append_right _ hz)) hk.2 hf
          refine ⟨?_, fun z hz => ?_⟩
          · rw [h1, ← h3]
            simp [rawL]
          · rcases List.mem_cons.1 hz with rfl | hz
            · exact h2
            · exact h4 z hz
theorem parse_inv {bs : List Int} {qs : List Ob} (hin : BytesIn bs) (h : parseO bs = some (qs.map Ob.key)) : rawL qs = bs ∧ (∀ q ∈ qs, mayB q = true) ∧ qs.length ≤ 40 := by
  unfold parseO at h
  split at h
  · rename_i hc
    have hk := (Option.some.inj h).symm
    obtain ⟨h1, h2⟩ := rd_inv bs.length bs qs (Nat.le_refl _) hin hk hc.1
    exact ⟨h1, h2, by rw [← hk, List.length_map] at hc; exact hc.2⟩
  · cases h
set_option maxRecDepth 100000 in
set_option maxHeartbeats 2000000 in
theorem objectParses_any (V : Value) (bs : List Int) (w : World) (h : SAt yC 1 w V bs) (hin : BytesIn bs) : Calls Try.prog 4 #[V] w fun e w' => e = .returned (.bool true) ∧ Below w.heap.size w w' := by
  obtain ⟨Q, hQ⟩ : ∃ Q : Ending → World → Prop, Q = fun e w' => e = .returned (.bool true) ∧ Below w.heap.size w w' := ⟨_, rfl⟩
  rw [← hQ]
  have HQ := Lib.hid hQ
  clear hQ
  have hlm := h.len
  unfold maxLen at hlm
  obtain ⟨A, c, rfl⟩ := h.slice
  by_cases h4 : bs.length ≤ 4000
  · have h4z : ¬ (4000 : Int) < (bs.length : Int) := by omega
    have hpar := parse_any A c bs w h hin (by omega)
    have hrpar : ∀ X, Below w.heap.size w X → Calls Try.prog 13 #[.slice A bs.length c] X (RParseR bs X) := fun X hX => rparse_any A c bs X (h.below hX) hin (by omega)
    have HS := Lib.hid h
    have HRP := Lib.hid hrpar
    have HIN := Lib.hid hin
    clear h hrpar hin
    cases hp : parseO bs with
    | none =>
      have HP := Lib.hid (hpar.mono (R' := fun e w' => e = .returned (.tuple #[.slice none 0 0, .int .i64 170]) ∧ Below w.heap.size w w') (by
        rintro e w' ⟨hb, ⟨qs, V, h1, -⟩ | ⟨-, h1⟩⟩
        · rw [hp] at h1; cases h1
        · exact ⟨h1, hb⟩))
      have HR : Hid (∀ X, Below w.heap.size w X → Calls Try.prog 13 #[.slice A bs.length c] X fun e w' => e = .returned (.tuple #[.slice none 0 0, .bool false]) ∧ Below X.heap.size X w') := Lib.hid fun X hX => (HRP.out X hX).mono (by
        rintro e w' ⟨hb, ⟨qs, V, h1, -⟩ | ⟨-, h1⟩⟩
        · rw [hp] at h1; cases h1
        · exact ⟨h1, hb⟩)
      clear hpar hp HRP
      go_enter Try.func4, Try.ntmps4
      go_wp2_with (first | (go_at_call 11; refine HP.out.mono ?_; rintro e w1 ⟨rfl, hb1⟩; have HB1 := Lib.hid hb1; clear hb1) | (go_at_call 13; refine (HR.out _ HB1.out).mono ?_; rintro e w2 ⟨rfl, hb2⟩; have HB2 := Lib.hid (bl_then HB1.out hb2); clear hb2) | (go_at_call 7; refine (known_any _).mono ?_; rintro e w3 ⟨rfl, hb3⟩))
      rw [HQ.out]
      exact ⟨rfl, bl_then HB2.out hb3⟩
    | some ks =>
      have HP := Lib.hid (hpar.mono (R' := fun e w' => ∃ (qs : List Ob) (A' : Option Addr) (n c' : Nat), e = .returned (.tuple #[.slice A' n c', .int .i64 0]) ∧ Below w.heap.size w w' ∧ ks = qs.map Ob.key ∧ ObsAt w' (.slice A' n c') qs) (by
        rintro e w' ⟨hb, ⟨qs, V, h1, rfl, h2, h3⟩ | ⟨h1, -⟩⟩
        · obtain ⟨A', c', rfl⟩ := own_form h2
          rw [hp] at h1
          exact ⟨qs, A', _, c', rfl, hb, Option.some.inj h1, obs_own h2 h3⟩
        · rw [hp] at h1; cases h1))
      have HR : Hid (∀ X, Below w.heap.size w X → Calls Try.prog 13 #[.slice A bs.length c] X fun e w' => ∃ (qs : List Ob) (A' : Option Addr) (n c' : Nat), e = .returned (.tuple #[.slice A' n c', .bool true]) ∧ Below X.heap.size X w' ∧ ks = qs.map Ob.key ∧ ObsAt w' (.slice A' n c') qs) := Lib.hid fun X hX => (HRP.out X hX).mono (by
        rintro e w' ⟨hb, ⟨qs, V, h1, rfl, h2, h3⟩ | ⟨h1, -⟩⟩
        · obtain ⟨A', c', rfl⟩ := own_form h2
          rw [hp] at h1
          exact ⟨qs, A', _, c', rfl, hb, Option.some.inj h1, obs_own h2 h3⟩
        · rw [hp] at h1; cases h1)
      have HPO := Lib.hid hp
      clear hpar hp HRP
      go_enter Try.func4, Try.ntmps4
      go_upto_region 7 with (first | (go_at_call 11; refine HP.out.mono ?_; rintro e w1 ⟨qs, A1, n1, c1, rfl, hb1, hk1, ho1⟩; have HB1 := Lib.hid hb1; have HK1 := Lib.hid hk1; have HO1 := Lib.hid ho1; clear hb1 hk1 ho1) | (go_at_call 13; refine (HR.out _ HB1.out).mono ?_; rintro e w2 ⟨rs, A2, n2, c2, rfl, hb2, hk2, ho2⟩; have HB2 := Lib.hid hb2; have HK2 := Lib.hid hk2; have HO2 := Lib.hid ho2; clear hb2 hk2 ho2))
      obtain ⟨hraw, hmay, h40⟩ := parse_inv HIN.out (by rw [HPO.out, HK1.out])
      have hrw := raw_yes _ qs w2 (HO1.out.below HB2.out) hmay h40
      rw [hraw] at hrw
      have HRW := Lib.hid hrw
      clear hrw hraw hmay h40
      go_upto_region 8 with (go_at_call 8; refine HRW.out.mono ?_; rintro e w3 ⟨u, rfl, ho3, hb3⟩; obtain ⟨A3, c3, rfl⟩ := own_form ho3; have HO3 := Lib.hid (SAt.ofOwn (enc := yC) (k := 1) (fun _ => rfl) rfl ho3); have HB3 := Lib.hid hb3; clear ho3 hb3)
      have hb23 := bl_then HB2.out HB3.out
      have hb13 := bl_then HB1.out hb23
      have HSA : Hid (Calls Try.prog 12 #[.slice A1 n1 c1, .slice A2 n2 c2] w3 fun e w' => e = .returned (.bool true) ∧ Below w3.heap.size w3 w') := Lib.hid (same_yes _ _ qs rs w3 (HO1.out.below hb23) (HO2.out.below HB3.out) (keys_eq (HK1.out.symm.trans HK2.out)).1 (keys_eq (HK1.out.symm.trans HK2.out)).2)
      obtain ⟨str, hstr⟩ : ∃ str, str = strOfNums bs := ⟨_, rfl⟩
      have hcv : ∀ X, Below w3.heap.size w3 X → (convert 25 9 (.slice A3 bs.length c3)).run Try.prog X = .ok (.string str) X ∧ (convert 25 9 (.slice A bs.length c)).run Try.prog X = .ok (.string str) X := fun X hX => by
        rw [hstr]
        exact ⟨conv_sat (HO3.out.below hX), conv_sat (HS.out.below (bl_then hb13 hX))⟩
      have HCV := Lib.hid hcv
      have HB13 := Lib.hid hb13
      clear hb13 hb23 hstr hcv
      go_wp2_with (first | (go_at_call 12; refine HSA.out.mono ?_; rintro e w4 ⟨rfl, hb4⟩; have HB4 := Lib.hid hb4; have hcv1 := (HCV.out w4 hb4).1; have hcv2 := (HCV.out w4 hb4).2; clear hb4) | (go_at_call 7; refine (known_any _).mono ?_; rintro e w5 ⟨rfl, hb5⟩))
      rw [HQ.out]
      exact ⟨rfl, bl_then HB13.out (bl_then HB4.out hb5)⟩
  · have h4z : (4000 : Int) < (bs.length : Int) := by omega
    clear h hin h4
    go_enter Try.func4, Try.ntmps4
    go_wp2_with (go_at_call 7; refine (known_any _).mono ?_; rintro e w2 ⟨rfl, hb2⟩)
    rw [HQ.out]
    exact ⟨rfl, hb2⟩
end Go.Proofs.Ytnflgikmljfakaa
