/- Object: the document's Right. -/
import Derived.Test.YtnflgikmljfakaaObjE
namespace Go.Proofs.Ytnflgikmljfakaa
open Go.RowKit Go.Shelf
set_option linter.unusedVariables false
set_option linter.unusedSimpArgs false
attribute [local go_sem] Oper.semAt_some
theorem mayB_no {q : Ob} (h : q.c < 0 ∨ 255 < q.c ∨ q.t < 0 ∨ 255 < q.t ∨ q.ws.length < 1 ∨ 64 < q.ws.length ∨ ∃ n ∈ q.ws, n < 0 ∨ 4294967295 < n) : mayB q = false := by
  cases hm : mayB q with
  | false => rfl
  | true =>
    obtain ⟨h1, h2, h3, h4, h5, h6, h7⟩ := mayB_iff hm
    rcases h with h | h | h | h | h | h | ⟨n, hn, h⟩
    · omega
    · omega
    · omega
    · omega
    · omega
    · omega
    · have := h7 n hn
      omega
theorem mayB_yes {q : Ob} (h1 : ¬ q.c < 0) (h2 : ¬ 255 < q.c) (h3 : ¬ q.t < 0) (h4 : ¬ 255 < q.t) (h5 : ¬ q.ws.length < 1) (h6 : ¬ 64 < q.ws.length) (h : ∀ n ∈ q.ws, 0 ≤ n ∧ n ≤ 4294967295) : mayB q = true := by
  unfold mayB wiB
  simp only [Bool.and_eq_true, decide_eq_true_eq, List.all_eq_true]
  refine ⟨⟨by omega, by omega⟩, ⟨by omega, by omega⟩, ⟨by omega, by omega⟩, fun n hn => ?_⟩
  unfold wordB wiB
  have := h n hn
  simp only [Bool.and_eq_true, decide_eq_true_eq]
  exact this
set_option maxRecDepth 100000 in
set_option maxHeartbeats 2000000 in
theorem rright_any (q : Ob) (w : World) (h : WsAt w q.v q.ws) :
    Calls Try.prog 9 #[.agg #[.int .i64 q.c, .int .i64 q.t, q.v]] w fun e w' => e = .returned (.bool (mayB q)) ∧ Below w.heap.size w w' := by
  obtain ⟨F, hF⟩ : ∃ F, F = mayB q := ⟨_, rfl⟩
  rw [← hF]
  obtain ⟨Q, hQ⟩ : ∃ Q : Ending → World → Prop, Q = fun e w' => e = .returned (.bool F) ∧ Below w.heap.size w w' := ⟨_, rfl⟩
  rw [← hQ]
  have HQ := Lib.hid hQ
  obtain ⟨A, cc, hv⟩ := ws_form h
  have hlm := ws_len h
  unfold maxLen at hlm
  rw [hv] at h ⊢
  have hb1 := bl_alloc (Below.refl w.heap.size w) (.cells #[.int .i64 q.c, .int .i64 q.t, .slice A q.ws.length cc] 32)
  have hx1 : (w.alloc (.cells #[.int .i64 q.c, .int .i64 q.t, .slice A q.ws.length cc] 32)).heap[w.heap.size]? = some (.cells #[.int .i64 q.c, .int .i64 q.t, .slice A q.ws.length cc] 32 (0, 0)) := new_block _ _
  have HB1 := Lib.hid hb1
  have HX1 := Lib.hid hx1
  have HWS := Lib.hid (ws_below h hb1)
  clear hQ h hb1 hx1 hv
  by_cases h1 : q.c < 0
  · have HF : Hid (F = false) := Lib.hid (by rw [hF]; exact mayB_no (by omega))
    clear hF
    go_enter Try.func9, Try.ntmps9; go_wp2_with fail; rw [HQ.out, HF.out]; exact ⟨rfl, HB1.out⟩
  by_cases h2 : 255 < q.c
  · have HF : Hid (F = false) := Lib.hid (by rw [hF]; exact mayB_no (by omega))
    clear hF
    go_enter Try.func9, Try.ntmps9; go_wp2_with fail; rw [HQ.out, HF.out]; exact ⟨rfl, HB1.out⟩
  by_cases h3 : q.t < 0
  · have HF : Hid (F = false) := Lib.hid (by rw [hF]; exact mayB_no (by omega))
    clear hF
    go_enter Try.func9, Try.ntmps9; go_wp2_with fail; rw [HQ.out, HF.out]; exact ⟨rfl, HB1.out⟩
  by_cases h4 : 255 < q.t
  · have HF : Hid (F = false) := Lib.hid (by rw [hF]; exact mayB_no (by omega))
    clear hF
    go_enter Try.func9, Try.ntmps9; go_wp2_with fail; rw [HQ.out, HF.out]; exact ⟨rfl, HB1.out⟩
  by_cases h5 : q.ws.length < 1
  · have HF : Hid (F = false) := Lib.hid (by rw [hF]; exact mayB_no (by omega))
    have h5z : (q.ws.length : Int) < 1 := by omega
    clear hF
    go_enter Try.func9, Try.ntmps9; go_wp2_with fail; rw [HQ.out, HF.out]; exact ⟨rfl, HB1.out⟩
  have h5z : ¬ (q.ws.length : Int) < 1 := by omega
  by_cases h6 : 64 < q.ws.length
  · have HF : Hid (F = false) := Lib.hid (by rw [hF]; exact mayB_no (by omega))
    have h6z : (64 : Int) < (q.ws.length : Int) := by omega
    clear hF
    go_enter Try.func9, Try.ntmps9; go_wp2_with fail; rw [HQ.out, HF.out]; exact ⟨rfl, HB1.out⟩
  have h6z : ¬ (64 : Int) < (q.ws.length : Int) := by omega
  have HOK := Lib.hid (mayB_yes h1 h2 h3 h4 h5 h6)
  have HFF := Lib.hid hF
  have h56 : q.ws.length ≤ 64 := by omega
  clear hF h5 h6
  go_enter Try.func9, Try.ntmps9
  go_wp2_with fail
  go_loopg [3] (q.ws.length + 1) (fun gg s3 wr => ∃ j : Nat, j ≤ q.ws.length ∧ q.ws.length - j ≤ gg ∧ s3 = .int .i64 j ∧ wr = w.alloc (.cells #[.int .i64 q.c, .int .i64 q.t, .slice A q.ws.length cc] 32) ∧ Aside (∀ i n, i < j → q.ws[i]? = some n → 0 ≤ n ∧ n ≤ 4294967295))
  case atStart => exact ⟨0, by omega, by omega, rfl, rfl, fun i n hi => absurd hi (by omega)⟩
  case round =>
    obtain ⟨j, hj, hgj, rfl, hwr, HN⟩ := hrel
    obtain ⟨x0, x1, x2⟩ := ob_cells HX1.out
    rw [← hwr] at x0 x1 x2
    have HWR := Lib.hid hwr
    have hws := HWS.out
    rw [← hwr] at hws
    clear hwr
    by_cases hjl : j < q.ws.length
    · have hjz : (j : Int) < (q.ws.length : Int) := by omega
      have hgy : q.ws[j]? = some q.ws[j] := List.getElem?_eq_getElem hjl
      generalize q.ws[j] = y at hgy
      obtain ⟨b9, o9, c9, hv9, hrow⟩ := ws_sat hws (by omega)
      simp only [Value.slice.injEq] at hv9
      obtain ⟨rfl, -, rfl⟩ := hv9
      have hcy : wr.cell? ⟨b9, o9 + j, none⟩ = some (.int .i64 y) := by
        have h9 := hrow j y hgy 0 _ rfl
        simpa using h9
      have HGY := Lib.hid hgy
      clear hrow hgy hws
      by_cases hy0 : y < 0
      · have HF : Hid (F = false) := Lib.hid (by rw [HFF.out]; exact mayB_no (.inr (.inr (.inr (.inr (.inr (.inr ⟨y, List.mem_of_getElem? HGY.out, .inl hy0⟩)))))))
        go_wp2_with fail
        rw [HQ.out, HF.out, HWR.out]
        exact ⟨rfl, HB1.out⟩
      · by_cases hy1 : 4294967295 < y
        · have HF : Hid (F = false) := Lib.hid (by rw [HFF.out]; exact mayB_no (.inr (.inr (.inr (.inr (.inr (.inr ⟨y, List.mem_of_getElem? HGY.out, .inr hy1⟩)))))))
          go_wp2_with fail
          rw [HQ.out, HF.out, HWR.out]
          exact ⟨rfl, HB1.out⟩
        · have HY : Hid (0 ≤ y ∧ y ≤ 4294967295) := Lib.hid (by omega)
          go_wp2_with fail
          go_roundg (q.ws.length - (j + 1))
          case measure => omega
          case rel =>
            refine ⟨j + 1, by omega, by omega, by go_num, HWR.out, (show ∀ i n, i < j + 1 → q.ws[i]? = some n → 0 ≤ n ∧ n ≤ 4294967295 from fun i n hi hn => ?_)⟩
            by_cases he : i = j
            · subst he; rw [HGY.out] at hn; cases hn; exact HY.out
            · exact HN.out i n (by omega) hn
    · obtain rfl : j = q.ws.length := by omega
      have hjz : ¬ ((q.ws.length : Nat) : Int) < ((q.ws.length : Nat) : Int) := by omega
      have HF : Hid (F = true) := Lib.hid (by
        rw [HFF.out]
        exact HOK.out fun n hn => by
          obtain ⟨i, hi⟩ := List.getElem?_of_mem hn
          exact HN.out i n (List.getElem?_eq_some_iff.1 hi).1 hi)
      clear hws
      go_wp2_with fail
      rw [HQ.out, HF.out, HWR.out]
      exact ⟨rfl, HB1.out⟩
end Go.Proofs.Ytnflgikmljfakaa
