/- Object: the document's Same; same. -/
import Derived.Test.YtnflgikmljfakaaObjG
namespace Go.Proofs.Ytnflgikmljfakaa
open Go.RowKit Go.Shelf
set_option linter.unusedVariables false
set_option linter.unusedSimpArgs false
attribute [local go_sem] Oper.semAt_some
set_option maxRecDepth 100000 in
set_option maxHeartbeats 1000000 in
theorem rsame_any (a b : Ob) (w : World) (h : WsAt w a.v a.ws) (h2 : WsAt w b.v b.ws) :
    Calls Try.prog 24 #[.agg #[.int .i64 a.c, .int .i64 a.t, a.v], .agg #[.int .i64 b.c, .int .i64 b.t, b.v]] w fun e w' => e = .returned (.bool (eqO a b)) ∧ Below w.heap.size w w' := by
  have hlm := ws_len h
  have hlm2 := ws_len h2
  unfold maxLen at hlm hlm2
  obtain ⟨A, c, hv⟩ := ws_form h
  obtain ⟨A2, c2, hv2⟩ := ws_form h2
  rw [hv] at h ⊢
  rw [hv2] at h2 ⊢
  obtain ⟨w1, hw1⟩ : ∃ w1, w1 = (w.alloc (.cells #[.int .i64 a.c, .int .i64 a.t, .slice A a.ws.length c] 32)).alloc (.cells #[.int .i64 b.c, .int .i64 b.t, .slice A2 b.ws.length c2] 32) := ⟨_, rfl⟩
  have hb : Below w.heap.size w w1 := hw1 ▸ bl_alloc (bl_alloc (Below.refl w.heap.size w) _) _
  have ha1 : w1.heap[w.heap.size]? = some (.cells #[.int .i64 a.c, .int .i64 a.t, .slice A a.ws.length c] 32 (0, 0)) := by
    rw [hw1]; exact ((bl_alloc (Below.refl _ _) _).block w.heap.size (by simp)).trans (new_block _ _)
  have ha2 : w1.heap[w.heap.size + 1]? = some (.cells #[.int .i64 b.c, .int .i64 b.t, .slice A2 b.ws.length c2] 32 (0, 0)) := by
    have h9 := new_block (w.alloc (.cells #[.int .i64 a.c, .int .i64 a.t, .slice A a.ws.length c] 32)) (.cells #[.int .i64 b.c, .int .i64 b.t, .slice A2 b.ws.length c2] 32)
    rw [World.size_alloc] at h9
    rw [hw1]; exact h9
  have HB1 := Lib.hid hb
  have HA1 := Lib.hid ha1
  have HA2 := Lib.hid ha2
  have HW1 := Lib.hid hw1
  have H := Lib.hid (ws_below h hb)
  have H2 := Lib.hid (ws_below h2 hb)
  obtain ⟨x0, x1, x2⟩ := ob_cells ha1
  obtain ⟨y0, y1, y2⟩ := ob_cells ha2
  obtain ⟨F, hF⟩ : ∃ F, F = eqO a b := ⟨_, rfl⟩
  rw [← hF]
  obtain ⟨Q, hQ⟩ : ∃ Q : Ending → World → Prop, Q = fun e w' => e = .returned (.bool F) ∧ Below w.heap.size w w' := ⟨_, rfl⟩
  rw [← hQ]
  have HQ := Lib.hid hQ
  clear h h2 hb hv hv2 ha1 ha2 hw1 hQ
  unfold eqO at hF
  by_cases h1 : a.c = b.c
  · have h1b : (a.c != b.c) = false := by simp [h1]
    rw [decide_eq_true h1, Bool.true_and] at hF
    clear h1
    by_cases h3 : a.t = b.t
    · have h3b : (a.t != b.t) = false := by simp [h3]
      rw [decide_eq_true h3, Bool.true_and] at hF
      clear h3
      by_cases hl : a.ws.length = b.ws.length
      · have hlb : ((a.ws.length : Int) != (b.ws.length : Int)) = false := by rw [hl]; simp
        have HL := Lib.hid hl
        have HF := Lib.hid hF
        clear hl hF
        go_enter Try.func24, Try.ntmps24
        go_upto_region 1 with fail
        rw [← HW1.out]
        go_wp2_with fail
        go_loopg [5] (a.ws.length + 1) (fun gg s5 wr => ∃ k : Nat, k ≤ a.ws.length ∧ a.ws.length - k ≤ gg ∧ s5 = .int .i64 k ∧ Aside (a.ws.take k = b.ws.take k) ∧ Aside (Below w1.heap.size w1 wr))
        case atStart => exact ⟨0, by omega, by omega, rfl, (show a.ws.take 0 = b.ws.take 0 by rw [List.take_zero, List.take_zero]), Below.refl _ _⟩
        case round =>
          obtain ⟨k, hk, hgg, rfl, HN, HB⟩ := hrel
          obtain ⟨x0, x1, x2⟩ := ob_cells ((HB.out.block _ (Array.getElem?_eq_some_iff.1 HA1.out).1).trans HA1.out)
          obtain ⟨y0, y1, y2⟩ := ob_cells ((HB.out.block _ (Array.getElem?_eq_some_iff.1 HA2.out).1).trans HA2.out)
          by_cases hlt : k < a.ws.length
          · have hlt2 : k < b.ws.length := by have := HL.out; omega
            have hltz : (k : Int) < (b.ws.length : Int) := by omega
            have hltz2 : (k : Int) < (a.ws.length : Int) := by omega
            have hgk : a.ws[k]? = some a.ws[k] := List.getElem?_eq_getElem hlt
            have hgy : b.ws[k]? = some b.ws[k] := List.getElem?_eq_getElem hlt2
            generalize a.ws[k] = l at hgk
            generalize b.ws[k] = m at hgy
            obtain ⟨b1, o1, c1', h1, hc⟩ := ws_get (ws_below H.out HB.out) hgk
            obtain ⟨b2, o2, c2', h3, hc2⟩ := ws_get (ws_below H2.out HB.out) hgy
            simp only [Value.slice.injEq] at h1 h3
            obtain ⟨rfl, -, rfl⟩ := h1
            obtain ⟨rfl, -, rfl⟩ := h3
            have HK := Lib.hid hgk
            have HY := Lib.hid hgy
            clear hgk hgy
            by_cases hq : l = m
            · have hqd : (l != m) = false := by simp [hq]
              have HE := Lib.hid hq
              clear hq
              go_upto_region 6 with fail
              go_quiet (fail)
              go_wp2_with fail
              go_roundg (a.ws.length - (k + 1))
              case measure => omega
              case rel => exact ⟨k + 1, by omega, by omega, by go_num, (show a.ws.take (k + 1) = b.ws.take (k + 1) by rw [← take_snoc' HK.out, ← take_snoc' HY.out, HN.out, HE.out]), (show Below _ _ _ from by repeat (first | exact HB.out | refine bl_drew ?_ | refine bl_drewN ?_ _))⟩
            · have hqd : (l != m) = true := by simpa [bne_iff_ne] using hq
              have HE := Lib.hid hq
              clear hq
              go_upto_region 6 with fail
              go_quiet (fail)
              go_wp2_with fail
              rw [HQ.out]
              exact ⟨by rw [HF.out, decide_eq_false (fun h => HE.out (by have h1 := HK.out; rw [h, HY.out] at h1; exact (Option.some.inj h1).symm))]; rfl, bl_then HB1.out (by repeat (first | exact HB.out | refine bl_drew ?_ | refine bl_drewN ?_ _))⟩
          · obtain rfl : k = a.ws.length := by omega
            have hltz : ¬ ((a.ws.length : Nat) : Int) < ((a.ws.length : Nat) : Int) := by omega
            have he : a.ws = b.ws := by have := HN.out; rw [List.take_length, HL.out, List.take_length] at this; exact this
            have HEE := Lib.hid he
            clear he
            go_wp2_with fail
            rw [HQ.out]
            exact ⟨by rw [HF.out, decide_eq_true HEE.out], bl_then HB1.out HB.out⟩
      · have hlb : ((a.ws.length : Int) != (b.ws.length : Int)) = true := by simpa [bne_iff_ne] using fun h : (a.ws.length : Int) = b.ws.length => hl (by omega)
        have HF : Hid (F = false) := Lib.hid (by rw [hF]; exact decide_eq_false fun h => hl (by rw [h]))
        clear hl hF
        go_enter Try.func24, Try.ntmps24
        go_upto_region 1 with fail
        rw [← HW1.out]
        go_wp2_with fail
        rw [HQ.out, HF.out]
        exact ⟨rfl, HB1.out⟩
    · have h3b : (a.t != b.t) = true := by simpa [bne_iff_ne] using h3
      have HF : Hid (F = false) := Lib.hid (by rw [hF, decide_eq_false h3]; rfl)
      clear h3 hF
      go_enter Try.func24, Try.ntmps24
      go_upto_region 1 with fail
      rw [← HW1.out]
      go_wp2_with fail
      rw [HQ.out, HF.out]
      exact ⟨rfl, HB1.out⟩
  · have h1b : (a.c != b.c) = true := by simpa [bne_iff_ne] using h1
    have HF : Hid (F = false) := Lib.hid (by rw [hF, decide_eq_false h1]; rfl)
    clear h1 hF
    go_enter Try.func24, Try.ntmps24
    go_upto_region 1 with fail
    rw [← HW1.out]
    go_wp2_with fail
    rw [HQ.out, HF.out]
    exact ⟨rfl, HB1.out⟩
end Go.Proofs.Ytnflgikmljfakaa
