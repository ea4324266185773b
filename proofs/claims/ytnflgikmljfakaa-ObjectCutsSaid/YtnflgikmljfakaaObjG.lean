/- Object: slices.Equal at words; Same. -/
import Derived.Test.YtnflgikmljfakaaObjF
namespace Go.Proofs.Ytnflgikmljfakaa
open Go.RowKit Go.Shelf
set_option linter.unusedVariables false
set_option linter.unusedSimpArgs false
attribute [local go_sem] Oper.semAt_some
theorem ws_get {w : World} {v : Value} {ws : List Int} (h : WsAt w v ws) {j : Nat} {y : Int} (hj : ws[j]? = some y) : ∃ b o c, v = .slice (some ⟨b, o, none⟩) ws.length c ∧ w.cell? ⟨b, o + j, none⟩ = some (.int .i64 y) := by
  have hlt := (List.getElem?_eq_some_iff.1 hj).1
  obtain ⟨b, o, c, hv, hrow⟩ := ws_sat h (by omega)
  have h9 := hrow j y hj 0 _ rfl
  exact ⟨b, o, c, hv, by simpa using h9⟩
set_option maxRecDepth 100000 in
set_option maxHeartbeats 1000000 in
theorem equal_ws (v u : Value) (xs ys : List Int) (w : World) (h : WsAt w v xs) (h2 : WsAt w u ys) :
    Calls Try.prog 38 #[v, u] w fun e w' => e = .returned (.bool (decide (xs = ys))) ∧ Below w.heap.size w w' := by
  have hlm := ws_len h
  have hlm2 := ws_len h2
  unfold maxLen at hlm hlm2
  obtain ⟨A, c, rfl⟩ := ws_form h
  obtain ⟨A2, c2, rfl⟩ := ws_form h2
  have H := Lib.hid h
  have H2 := Lib.hid h2
  clear h h2
  obtain ⟨Q, hQ⟩ : ∃ Q : Ending → World → Prop, Q = fun e w' => e = .returned (.bool (decide (xs = ys))) ∧ Below w.heap.size w w' := ⟨_, rfl⟩
  rw [← hQ]
  have HQ := Lib.hid hQ
  clear hQ
  by_cases hl : xs.length = ys.length
  · have HL := Lib.hid hl
    have hlz : ((xs.length : Int) != (ys.length : Int)) = false := by rw [hl]; simp
    clear hl
    go_enter Try.func38, Try.ntmps38
    go_wp2_with fail
    go_loopg [13] (xs.length + 1) (fun gg s13 wr => ∃ k : Nat, k ≤ xs.length ∧ xs.length - k ≤ gg ∧ s13 = .int .i64 k ∧ Aside (xs.take k = ys.take k) ∧ Aside (Below w.heap.size w wr))
    case atStart => exact ⟨0, by omega, by omega, rfl, (show xs.take 0 = ys.take 0 by rw [List.take_zero, List.take_zero]), Below.refl _ _⟩
    case round =>
      obtain ⟨k, hk, hgg, rfl, HN, HB⟩ := hrel
      by_cases hlt : k < xs.length
      · have hlt2 : k < ys.length := by have := HL.out; omega
        have hltz : (k : Int) < (ys.length : Int) := by omega
        have hltz2 : (k : Int) < (xs.length : Int) := by omega
        have hgk : xs[k]? = some xs[k] := List.getElem?_eq_getElem hlt
        have hgy : ys[k]? = some ys[k] := List.getElem?_eq_getElem hlt2
        generalize xs[k] = l at hgk
        generalize ys[k] = m at hgy
        obtain ⟨b, o, c', h1, hc⟩ := ws_get (ws_below H.out HB.out) hgk
        obtain ⟨b2, o2, c2', h3, hc2⟩ := ws_get (ws_below H2.out HB.out) hgy
        simp only [Value.slice.injEq] at h1 h3
        obtain ⟨rfl, -, rfl⟩ := h1
        obtain ⟨rfl, -, rfl⟩ := h3
        have HK := Lib.hid hgk
        have HY := Lib.hid hgy
        clear hgk hgy
        by_cases hq : l = m
        · have hqd : (l != m) = false := by simp [hq]
          have HE := Lib.hid hq
          clear hq
          go_upto_region 6 with fail
          go_quiet (fail)
          go_wp2_with fail
          go_roundg (xs.length - (k + 1))
          case measure => omega
          case rel => exact ⟨k + 1, by omega, by omega, by go_num, (show xs.take (k + 1) = ys.take (k + 1) by rw [← take_snoc' HK.out, ← take_snoc' HY.out, HN.out, HE.out]), (show Below _ _ _ from by repeat (first | exact HB.out | refine bl_drew ?_ | refine bl_drewN ?_ _))⟩
        · have hqd : (l != m) = true := by simpa [bne_iff_ne] using hq
          have HE := Lib.hid hq
          clear hq
          go_upto_region 6 with fail
          go_quiet (fail)
          go_wp2_with fail
          rw [HQ.out]
          exact ⟨by rw [decide_eq_false (fun h => HE.out (by have h1 := HK.out; rw [h, HY.out] at h1; exact (Option.some.inj h1).symm))]; rfl, by repeat (first | exact HB.out | refine bl_drew ?_ | refine bl_drewN ?_ _)⟩
      · obtain rfl : k = xs.length := by omega
        have hltz : ¬ ((xs.length : Nat) : Int) < ((xs.length : Nat) : Int) := by omega
        have he : xs = ys := by have := HN.out; rw [List.take_length, HL.out, List.take_length] at this; exact this
        have HEE := Lib.hid he
        clear he
        go_wp2_with fail
        rw [HQ.out]
        exact ⟨by rw [decide_eq_true HEE.out], HB.out⟩
  · have hz : ((xs.length : Int) != (ys.length : Int)) = true := by simpa [bne_iff_ne] using fun h : (xs.length : Int) = ys.length => hl (by omega)
    have HL := Lib.hid hl
    clear hl
    go_enter Try.func38, Try.ntmps38
    go_wp2_with fail
    rw [HQ.out]
    exact ⟨by rw [decide_eq_false fun e => HL.out (by rw [e])]; rfl, Below.refl _ _⟩
/-- Are two objects the same? -/
def eqO (a b : Ob) : Bool := decide (a.c = b.c) && (decide (a.t = b.t) && decide (a.ws = b.ws))
set_option maxRecDepth 100000 in
set_option maxHeartbeats 1000000 in
theorem osame_any (a b : Ob) (w : World) (h : WsAt w a.v a.ws) (h2 : WsAt w b.v b.ws) :
    Calls Try.prog 25 #[.agg #[.int .i64 a.c, .int .i64 a.t, a.v], .agg #[.int .i64 b.c, .int .i64 b.t, b.v]] w fun e w' => e = .returned (.bool (eqO a b)) ∧ Below w.heap.size w w' := by
  obtain ⟨A, c, hv⟩ := ws_form h
  obtain ⟨A2, c2, hv2⟩ := ws_form h2
  rw [hv] at h ⊢
  rw [hv2] at h2 ⊢
  have hb := bl_alloc (bl_alloc (Below.refl w.heap.size w) (.cells #[.int .i64 a.c, .int .i64 a.t, .slice A a.ws.length c] 32)) (.cells #[.int .i64 b.c, .int .i64 b.t, .slice A2 b.ws.length c2] 32)
  have HE := Lib.hid (equal_ws _ _ a.ws b.ws _ (ws_below h hb) (ws_below h2 hb))
  have HB := Lib.hid hb
  unfold eqO
  clear h h2 hb hv hv2
  by_cases h1 : a.c = b.c
  · have h1b : (a.c == b.c) = true := by simp [h1]
    rw [decide_eq_true h1, Bool.true_and]
    clear h1
    by_cases h3 : a.t = b.t
    · have h3b : (a.t == b.t) = true := by simp [h3]
      rw [decide_eq_true h3, Bool.true_and]
      clear h3
      obtain ⟨F, hF⟩ : ∃ F, F = decide (a.ws = b.ws) := ⟨_, rfl⟩
      rw [← hF] at HE ⊢
      clear hF
      go_enter Try.func25, Try.ntmps25
      go_wp2_with (go_at_call 38; refine HE.out.mono ?_; rintro e w' ⟨rfl, hb⟩; have HB2 := Lib.hid (bl_then HB.out hb); clear hb)
      go_ret
      exact ⟨rfl, HB2.out⟩
    · have h3b : (a.t == b.t) = false := beq_eq_false_iff_ne.2 h3
      rw [decide_eq_false h3]
      clear h3
      go_enter Try.func25, Try.ntmps25
      go_wp2_with fail
      go_ret
      exact ⟨rfl, HB.out⟩
  · have h1b : (a.c == b.c) = false := beq_eq_false_iff_ne.2 h1
    rw [decide_eq_false h1]
    clear h1
    go_enter Try.func25, Try.ntmps25
    go_wp2_with fail
    go_ret
    exact ⟨rfl, HB.out⟩
end Go.Proofs.Ytnflgikmljfakaa
