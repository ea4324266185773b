/- Object: Raw. -/
import Derived.Test.YtnflgikmljfakaaObjC
namespace Go.Proofs.Ytnflgikmljfakaa
open Go.RowKit Go.Shelf
set_option linter.unusedVariables false
set_option linter.unusedSimpArgs false
attribute [local go_sem] Oper.semAt_some
theorem take_snoc' {α : Type} {ys : List α} {k : Nat} {y : α} (h : ys[k]? = some y) : ys.take k ++ [y] = ys.take (k + 1) := by
  obtain ⟨hk, rfl⟩ := List.getElem?_eq_some_iff.1 h
  rw [List.take_succ_eq_append_getElem hk]
/-- The bytes of an object. -/
def rawO (q : Ob) : List Int := numB (4 + 4 * (q.ws.length : Int)) 2 ++ ([q.c % 256, q.t % 256] ++ q.ws.flatMap fun n => numB n 4)
def rawL (qs : List Ob) : List Int := qs.flatMap rawO
theorem rawW_len (ws : List Int) : (ws.flatMap fun n => numB n 4).length = 4 * ws.length := by
  induction ws with
  | nil => rfl
  | cons n ws ih => simp only [List.flatMap_cons, List.length_append, numB_len, ih, List.length_cons]; omega
theorem rawO_len (q : Ob) : (rawO q).length = 4 + 4 * q.ws.length := by
  unfold rawO
  simp only [List.length_append, numB_len, rawW_len, List.length_cons, List.length_nil]
  omega
theorem mayB_iff {q : Ob} (h : mayB q = true) : 0 ≤ q.c ∧ q.c ≤ 255 ∧ 0 ≤ q.t ∧ q.t ≤ 255 ∧ 1 ≤ q.ws.length ∧ q.ws.length ≤ 64 ∧ ∀ n ∈ q.ws, 0 ≤ n ∧ n ≤ 4294967295 := by
  unfold mayB wiB at h
  simp only [Bool.and_eq_true, decide_eq_true_eq, List.all_eq_true] at h
  obtain ⟨⟨h1, h2⟩, ⟨h3, h4⟩, ⟨h5, h6⟩, h7⟩ := h
  refine ⟨h1, h2, h3, h4, by omega, by omega, fun n hn => ?_⟩
  have := h7 n hn
  unfold wordB wiB at this
  simpa using this
theorem rawL_len {qs : List Ob} (h : ∀ q ∈ qs, q.ws.length ≤ 64) : (rawL qs).length ≤ 260 * qs.length := by
  unfold rawL
  induction qs with
  | nil => simp
  | cons q qs ih =>
    have h1 := ih fun x hx => h x (by simp [hx])
    have h2 := h q (by simp)
    simp only [List.flatMap_cons, List.length_append, rawO_len, List.length_cons]
    omega
theorem sat_twoY (w : World) (x y : Int) {b : Nat} (hb : b = w.heap.size) : SAt yC 1 (w.alloc (.cells #[.int .u8 x, .int .u8 y] 5)) (.slice (some ⟨b, 0, none⟩) 2 2) [x, y] := by
  subst hb
  exact Or.inr ⟨_, 0, 2, rfl, Nat.le_refl _, by simp [maxLen], rowAt_new (enc := yC) (k := 1) (fun _ => rfl) w 5 [x, y] rfl rfl⟩
theorem number_2 (base : Nat) (A : Option Addr) (M c : Nat) (xs : List Int) (n : Int) (w : World) (hM : M = xs.length) (h : w.ownsRow base 5 1 (.slice A M c) M (xs.flatMap yC)) (hb : base ≤ w.heap.size) (hl : M ≤ 1000000) (h0 : 0 ≤ n) (hn : n ≤ 9223372036854775807) :
    Calls Try.prog 20 #[.slice A M c, .int .i64 n, .int .i64 2] w fun e w' => ∃ A' c', e = .returned (.slice A' (M + 2) c') ∧ w'.ownsRow base 5 1 (.slice A' (M + 2) c') (M + 2) ((xs ++ numB n 2).flatMap yC) ∧ Below base w w' ∧ KeptT 5 w w' := number_own base A M c xs n 2 w hM h hb hl h0 hn (by decide)
theorem number_4 (base : Nat) (A : Option Addr) (M c : Nat) (xs : List Int) (n : Int) (w : World) (hM : M = xs.length) (h : w.ownsRow base 5 1 (.slice A M c) M (xs.flatMap yC)) (hb : base ≤ w.heap.size) (hl : M ≤ 1000000) (h0 : 0 ≤ n) (hn : n ≤ 9223372036854775807) :
    Calls Try.prog 20 #[.slice A M c, .int .i64 n, .int .i64 4] w fun e w' => ∃ A' c', e = .returned (.slice A' (M + 4) c') ∧ w'.ownsRow base 5 1 (.slice A' (M + 4) c') (M + 4) ((xs ++ numB n 4).flatMap yC) ∧ Below base w w' ∧ KeptT 5 w w' := number_own base A M c xs n 4 w hM h hb hl h0 hn (by decide)
theorem new_block (w : World) (o : Obj) : (w.alloc o).heap[w.heap.size]? = some o := by show (w.heap.push o)[w.heap.size]? = _; simp
theorem ob_cells {w : World} {b : Nat} {q0 q1 q2 : Value} {t : TypeId} (h : w.heap[b]? = some (.cells #[q0, q1, q2] t (0, 0))) : w.cell? ⟨b, 0, none⟩ = some q0 ∧ w.cell? ⟨b, 1, none⟩ = some q1 ∧ w.cell? ⟨b, 2, none⟩ = some q2 := by
  refine ⟨?_, ?_, ?_⟩ <;> simp [World.cell?, h]
set_option maxRecDepth 100000 in
set_option maxHeartbeats 2000000 in
theorem raw_no (V : Value) (qs : List Ob) (w : World) (h : ObsAt w V qs) (hn : (qs.any fun q => !mayB q) = true ∨ 40 < qs.length) :
    Calls Try.prog 8 #[V] w fun e w' => e = .returned (.tuple #[.slice none 0 0, .int .i64 (if (qs.any fun q => !mayB q) = true then 2 else 3)]) ∧ Below w.heap.size w w' := by
  have hlm := h.1.len
  unfold maxLen at hlm
  obtain ⟨A, c, rfl⟩ := h.1.slice
  have HBD := Lib.hid (bad_any _ qs w h)
  clear h
  cases hb : (qs.any fun q => !mayB q) with
  | true =>
    rw [hb] at HBD
    clear hn hb
    go_enter Try.func8, Try.ntmps8
    go_wp2_with (go_at_call 17; refine HBD.out.mono ?_; rintro e w' ⟨rfl, hb⟩)
    go_ret2
    exact ⟨rfl, hb⟩
  | false =>
    rw [hb] at HBD
    have hz : (40 : Int) < (qs.length : Int) := by rcases hn with h | h; rw [hb] at h; cases h; omega
    clear hn hb
    go_enter Try.func8, Try.ntmps8
    go_wp2_with (go_at_call 17; refine HBD.out.mono ?_; rintro e w' ⟨rfl, hb⟩)
    go_ret2
    exact ⟨rfl, hb⟩
set_option maxRecDepth 100000 in
set_option maxHeartbeats 2000000 in
theorem raw_yes (V : Value) (qs : List Ob) (w : World) (h : ObsAt w V qs) (hm : ∀ q ∈ qs, mayB q = true) (hl : qs.length ≤ 40) :
    Calls Try.prog 8 #[V] w fun e w' => ∃ u, e = .returned (.tuple #[u, .int .i64 0]) ∧ w'.ownsRow w.heap.size 5 1 u (rawL qs).length ((rawL qs).flatMap yC) ∧ Below w.heap.size w w' := by
  have hlm := h.1.len
  unfold maxLen at hlm
  obtain ⟨Q, hQ⟩ : ∃ Q : Ending → World → Prop, Q = fun e w' => ∃ u, e = .returned (.tuple #[u, .int .i64 0]) ∧ w'.ownsRow w.heap.size 5 1 u (rawL qs).length ((rawL qs).flatMap yC) ∧ Below w.heap.size w w' := ⟨_, rfl⟩
  rw [← hQ]
  have HQ := Lib.hid hQ
  obtain ⟨A, c, rfl⟩ := h.1.slice
  have hbd := bad_any _ qs w h
  rw [show (qs.any fun q => !mayB q) = false by rw [List.any_eq_false]; intro q hq; simp [hm q hq]] at hbd
  have HBD := Lib.hid hbd
  have H := Lib.hid h
  have HM := Lib.hid hm
  have HLL := Lib.hid hl
  have hz : ¬ (40 : Int) < (qs.length : Int) := by omega
  clear hQ h hbd hm
  go_enter Try.func8, Try.ntmps8
  go_wp2_with (go_at_call 17; refine HBD.out.mono ?_; rintro e w1 ⟨rfl, hb⟩; have HB1 := Lib.hid hb; clear hb)
  go_loopg [4, 16] (qs.length + 1) (fun gg s4 s16 wr => ∃ k : Nat, k ≤ qs.length ∧ qs.length - k ≤ gg ∧ s16 = .int .i64 k ∧ Aside (wr.ownsRow w.heap.size 5 1 s4 (rawL (qs.take k)).length ((rawL (qs.take k)).flatMap yC)) ∧ Aside (Below w.heap.size w wr))
  case atStart => exact ⟨0, by omega, by omega, rfl, (World.ownsRow_nil _ _ _ _ : w1.ownsRow w.heap.size 5 1 (.slice none 0 0) 0 []), HB1.out⟩
  case round =>
    obtain ⟨k, hk, hgg, rfl, HO, HB⟩ := hrel
    obtain ⟨M, hM⟩ : ∃ M, M = (rawL (qs.take k)).length := ⟨_, rfl⟩
    have ho := HO.out
    rw [← hM] at ho
    obtain ⟨A1, c1, rfl⟩ := own_form ho
    have HO2 := Lib.hid ho
    have HMM := Lib.hid hM
    clear ho hM HO
    by_cases hlt : k < qs.length
    · have hltz : (k : Int) < (qs.length : Int) := by omega
      have hgk : qs[k]? = some qs[k] := List.getElem?_eq_getElem hlt
      generalize qs[k] = x at hgk
      have hmx := mayB_iff (HM.out x (List.mem_of_getElem? hgk))
      have hws := H.out.2 x (List.mem_of_getElem? hgk)
      obtain ⟨A2, cc, hv⟩ := ws_form hws
      rcases (H.out.below HB.out).1 with ⟨h1, h2⟩ | ⟨b, o, c', h1, _, _, hrow⟩
      · subst h2; simp at hlt
      · simp only [Value.slice.injEq] at h1
        obtain ⟨rfl, -, rfl⟩ := h1
        obtain ⟨c0, c1', c2⟩ := ObAt.ofRow hrow hgk
        rw [hv] at c2 hws
        have HK := Lib.hid hgk
        have HWS := Lib.hid hws
        have HMX := Lib.hid hmx
        have hML : M ≤ 260 * 40 := by
          rw [HMM.out]
          have h9 := rawL_len (qs := qs.take k) (fun q hq => (mayB_iff (HM.out q (List.mem_of_mem_take hq))).2.2.2.2.2.1)
          have h8 : (qs.take k).length ≤ 40 := by simp; omega
          omega
        have HML := Lib.hid hML
        clear hrow hgk hws hv hmx hML
        go_upto_region 9 with fail
        have hal := bl_alloc (Below.refl wr.heap.size wr) (.cells #[.int .i64 x.c, .int .i64 x.t, .slice A2 x.ws.length cc] 32)
        have hxb : (wr.alloc (.cells #[.int .i64 x.c, .int .i64 x.t, .slice A2 x.ws.length cc] 32)).heap[wr.heap.size]? = some (.cells #[.int .i64 x.c, .int .i64 x.t, .slice A2 x.ws.length cc] 32 (0, 0)) := new_block _ _
        have ho2 := own_alloc HO2.out (.cells #[.int .i64 x.c, .int .i64 x.t, .slice A2 x.ws.length cc] 32)
        have hb2 : Below w.heap.size w (wr.alloc (.cells #[.int .i64 x.c, .int .i64 x.t, .slice A2 x.ws.length cc] 32)) := HB.out.alloc HB.out.size _
        generalize (wr.alloc (.cells #[.int .i64 x.c, .int .i64 x.t, .slice A2 x.ws.length cc] 32)) = w2 at hal hxb ho2 hb2 ⊢
        generalize wr.heap.size = bx at hxb ⊢
        obtain ⟨x0, x1, x2⟩ := ob_cells hxb
        have HXB := Lib.hid hxb
        have HO3 := Lib.hid ho2
        have HB2 := Lib.hid hb2
        have hw64 : x.ws.length ≤ 64 := HMX.out.2.2.2.2.2.1
        clear c0 c1' c2 hxb ho2 hb2 hal HO2 HB
        go_upto_region 10 with (go_at_call 20; refine (number_2 w.heap.size A1 M c1 (rawL (qs.take k)) _ _ HMM.out HO3.out HB2.out.size (by have := HML.out; omega) ?n0 ?n1).mono ?_; (case n0 => omega); (case n1 => omega); rintro e w3 ⟨A3, c3, rfl, ho3, hb3, hk3⟩; obtain ⟨x0, x1, x2⟩ := ob_cells (hk3 _ _ _ _ (by decide) HXB.out); have HXB3 := Lib.hid (hk3 _ _ _ _ (by decide) HXB.out); have HO4 := Lib.hid ho3; have HB3 := Lib.hid (HB2.out.trans hb3); clear ho3 hb3 hk3)
        obtain ⟨M2, hM2⟩ : ∃ M2, M2 = M + 2 := ⟨_, rfl⟩
        have ho4 := HO4.out
        rw [← hM2] at ho4 ⊢
        have HO5 := Lib.hid ho4
        have HMM2 : Hid (M2 = (rawL (qs.take k) ++ numB (4 + 4 * (x.ws.length : Int)) 2).length) := Lib.hid (by rw [List.length_append, numB_len, ← HMM.out]; exact hM2)
        have HML2 : Hid (M2 ≤ 260 * 40 + 2) := Lib.hid (by have := HML.out; omega)
        clear ho4 hM2 HO4
        go_upto_region 11 with (at_builtin; refine wpList_app rfl (.tmp 27) (.tmp 34) rfl elY (fun _ => rfl) y_one (base := w.heap.size) (v := .slice A3 M2 c3) (src := .slice (some ⟨w3.heap.size, 0, none⟩) 2 2) (xs := rawL (qs.take k) ++ numB (4 + 4 * (x.ws.length : Int)) 2) (ys := [x.c % 256, x.t % 256]) (by go_simp) (by go_simp) HMM2.out (own_alloc HO5.out _) (sat_twoY w3 _ _ rfl) (by have := HB3.out.size; simp; omega) (by have := HML2.out; have := HMM2.out; simp at this; simp [maxLen]; omega) (by have := HML2.out; have := HMM2.out; simp at this; simp; omega) ?_; intro v4 w4 ho hg; obtain ⟨A4, c4, rfl⟩ := own_form ho; obtain ⟨M4, hM4⟩ : ∃ M4, M4 = ((rawL (qs.take k) ++ numB (4 + 4 * (x.ws.length : Int)) 2) ++ [x.c % 256, x.t % 256]).length := ⟨_, rfl⟩; rw [← hM4] at ho ⊢; have HM4 := Lib.hid hM4; clear hM4; have hk3 := (KeptT.ofBelow (e := 5) (bl_alloc (Below.refl w3.heap.size w3) (.cells #[.int .u8 (x.c % 256), .int .u8 (x.t % 256)] 5))).trans (KeptT.grown (own_alloc HO5.out _) hg); have HXB4 := Lib.hid (hk3 _ _ _ _ (by decide) HXB3.out); obtain ⟨x0, x1, x2⟩ := ob_cells HXB4.out; have HO6 := Lib.hid ho; have HB4 := Lib.hid ((HB3.out.alloc HB3.out.size _).trans (own_below (own_alloc HO5.out _) hg (by have := HB3.out.size; simp; omega))); clear ho hg hk3)
        have HX4 : Hid (M4 = M2 + 2) := Lib.hid (by rw [HM4.out, List.length_append, ← HMM2.out]; rfl)
        obtain ⟨P, hP⟩ : ∃ P, P = (rawL (qs.take k) ++ numB (4 + 4 * (x.ws.length : Int)) 2) ++ [x.c % 256, x.t % 256] := ⟨_, rfl⟩
        rw [← hP] at HO6 HM4
        have HP := Lib.hid hP
        clear hP HO5 HO3 HB2 HB3 HXB HXB3
        go_wp2_with fail
        obtain ⟨wa, hwa⟩ : ∃ wa, wa = wr := ⟨_, rfl⟩
        subst hwa
        go_loopg [4, 39] (x.ws.length + 1) (fun gg s4 s39 wr => ∃ j : Nat, j ≤ x.ws.length ∧ x.ws.length - j ≤ gg ∧ s39 = .int .i64 j ∧ Aside (∃ A c, s4 = .slice A (M4 + 4 * j) c) ∧ Aside (wr.ownsRow w.heap.size 5 1 s4 (M4 + 4 * j) ((P ++ (x.ws.take j).flatMap fun n => numB n 4).flatMap yC)) ∧ Aside (Below w.heap.size w wr))
        case atStart => exact ⟨0, by omega, by omega, rfl, ⟨_, _, rfl⟩, (show w4.ownsRow w.heap.size 5 1 (.slice A4 M4 c4) (M4 + 4 * 0) ((P ++ (x.ws.take 0).flatMap fun n => numB n 4).flatMap yC) from by simpa using HO6.out), HB4.out⟩
        case round =>
          obtain ⟨j, hj, hgj, rfl, HS4, HOJ, HBJ⟩ := hrel
          obtain ⟨Aj, cj, rfl⟩ := HS4.out
          obtain ⟨N, hN⟩ : ∃ N, N = M4 + 4 * j := ⟨_, rfl⟩
          have hoj := HOJ.out
          rw [← hN] at hoj ⊢
          have HOJ2 := Lib.hid hoj
          have HNN := Lib.hid hN
          clear hoj hN HS4 HOJ
          by_cases hjl : j < x.ws.length
          · have hjz : (j : Int) < (x.ws.length : Int) := by omega
            have hgy : x.ws[j]? = some x.ws[j] := List.getElem?_eq_getElem hjl
            generalize x.ws[j] = y at hgy
            obtain ⟨b9, o9, c9, hv, hrow⟩ := ws_sat (ws_below HWS.out HBJ.out) (by omega)
            simp only [Value.slice.injEq] at hv
            obtain ⟨rfl, -, rfl⟩ := hv
            have hcy : wr.cell? ⟨b9, o9 + j, none⟩ = some (.int .i64 y) := by
              have h9 := hrow j y hgy 0 _ rfl
              simpa using h9
            have hyb := HMX.out.2.2.2.2.2.2 y (List.mem_of_getElem? hgy)
            have HGY := Lib.hid hgy
            have HYB := Lib.hid hyb
            have HNL : Hid (N = (P ++ (x.ws.take j).flatMap fun n => numB n 4).length) := Lib.hid (by rw [List.length_append, rawW_len, ← HM4.out, HNN.out]; simp; omega)
            have HNB : Hid (N ≤ 1000000) := Lib.hid (by have := HX4.out; have := HML2.out; have := HNN.out; omega)
            clear hrow hgy hyb
            go_wp2_with (go_at_call 20; refine (number_4 w.heap.size Aj N cj (P ++ (x.ws.take j).flatMap fun n => numB n 4) y _ HNL.out HOJ2.out HBJ.out.size HNB.out HYB.out.1 (by have := HYB.out; omega)).mono ?_; rintro e w5 ⟨A5, c5, rfl, ho5, hb5, hk5⟩; have HO7 := Lib.hid ho5; have HB7 := Lib.hid (HBJ.out.trans hb5); clear ho5 hb5 hk5)
            go_roundg (x.ws.length - (j + 1))
            case measure => omega
            case rel =>
              have hN4 : N + 4 = M4 + 4 * (j + 1) := by have := HNN.out; omega
              refine ⟨j + 1, by omega, by omega, by go_num, ⟨A5, c5, by rw [hN4]⟩, ?_, HB7.out⟩
              rw [← hN4]
              have h9 := HO7.out
              show w5.ownsRow w.heap.size 5 1 (.slice A5 (N + 4) c5) (N + 4) ((P ++ (x.ws.take (j + 1)).flatMap fun n => numB n 4).flatMap yC)
              rw [← take_snoc' HGY.out, show ((x.ws.take j ++ [y]).flatMap fun n => numB n 4) = ((x.ws.take j).flatMap fun n => numB n 4) ++ numB y 4 by simp, ← List.append_assoc]
              exact h9
          · obtain rfl : j = x.ws.length := by omega
            have hjz : ¬ ((x.ws.length : Nat) : Int) < ((x.ws.length : Nat) : Int) := by omega
            have hrw : rawL (qs.take (k + 1)) = P ++ (x.ws.take x.ws.length).flatMap fun n => numB n 4 := by
              rw [← take_snoc' HK.out, List.take_length, HP.out]
              unfold rawL
              rw [List.flatMap_append]
              simp [rawO, List.append_assoc]
            have hln : N = (rawL (qs.take (k + 1))).length := by
              rw [hrw, List.length_append, rawW_len, ← HM4.out, HNN.out]
              simp
            have HRW := Lib.hid (And.intro hrw hln)
            clear hrw hln
            go_wp2_with fail
            go_roundg (qs.length - (k + 1))
            case measure => omega
            case rel =>
              refine ⟨k + 1, by omega, by omega, by go_num, ?_, HBJ.out⟩
              show wr.ownsRow w.heap.size 5 1 _ (rawL (qs.take (k + 1))).length ((rawL (qs.take (k + 1))).flatMap yC)
              rw [← HRW.out.2, HRW.out.1]
              exact HOJ2.out
    · obtain rfl : k = qs.length := by omega
      have hltz : ¬ ((qs.length : Nat) : Int) < ((qs.length : Nat) : Int) := by omega
      go_wp2_with fail
      rw [HQ.out]
      refine ⟨_, rfl, ?_, HB.out⟩
      have h1 := HO2.out
      have h2 := HMM.out
      rw [List.take_length] at h1 h2
      rw [← h2]
      exact h1
end Go.Proofs.Ytnflgikmljfakaa
