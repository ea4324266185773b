/- Object: objects in memory; few, may. -/
import Derived.Test.YtnflgikmljfakaaObjA
import Derived.Test.YtnflgikmljfakaaNest
namespace Go.Proofs.Ytnflgikmljfakaa
open Go.RowKit
set_option linter.unusedVariables false
set_option linter.unusedSimpArgs false
attribute [local go_sem] Oper.semAt_some
/-- An object: class, type, words; with the value of its words. -/
structure Ob where
  v : Value
  c : Int
  t : Int
  ws : List Int
def Ob.cells (q : Ob) : List Value := [.int .i64 q.c, .int .i64 q.t, q.v]
abbrev Ob.val (q : Ob) : Value := .agg #[.int .i64 q.c, .int .i64 q.t, q.v]
def Ob0 : Ob := ⟨.slice none 0 0, 0, 0, []⟩
structure ObAt (w : World) (b o : Nat) (q : Ob) : Prop where
  c0 : w.cell? ⟨b, o, none⟩ = some (.int .i64 q.c)
  c1 : w.cell? ⟨b, o + 1, none⟩ = some (.int .i64 q.t)
  c2 : w.cell? ⟨b, o + 2, none⟩ = some q.v
theorem ObAt.below {w W : World} {b o : Nat} {q : Ob} (h : ObAt w b o q) (hb : Below w.heap.size w W) : ObAt W b o q := ⟨bl_cell hb h.c0, bl_cell hb h.c1, bl_cell hb h.c2⟩
theorem ObAt.ofRow {w : World} {b o : Nat} {xs : List Ob} (h : RowAt Ob.cells 3 w b o xs) {j : Nat} {x : Ob} (hj : xs[j]? = some x) : ObAt w b (o + j * 3) x := ⟨h j x hj 0 _ rfl, h j x hj 1 _ rfl, h j x hj 2 _ rfl⟩
/-- Words: a slice that reads so, or is of no length. -/
abbrev WsAt (w : World) (v : Value) (ws : List Int) : Prop := RowEl iC 1 w v ws
theorem ws_below {w W : World} {v : Value} {c : List Int} (h : WsAt w v c) (hb : Below w.heap.size w W) : WsAt W v c := h.imp (fun h => h.below hb) fun h => h
theorem ws_form {w : World} {v : Value} {c : List Int} (h : WsAt w v c) : ∃ A cc, v = .slice A c.length cc := by
  rcases h with h | ⟨A, cc, rfl, rfl⟩
  · exact h.slice
  · exact ⟨A, cc, rfl⟩
theorem ws_len {w : World} {v : Value} {c : List Int} (h : WsAt w v c) : c.length ≤ maxLen := by
  rcases h with h | ⟨A, cc, rfl, rfl⟩
  · exact h.len
  · simp
theorem ws_sat {w : World} {v : Value} {c : List Int} (h : WsAt w v c) (hne : 0 < c.length) : ∃ b o cc, v = .slice (some ⟨b, o, none⟩) c.length cc ∧ RowAt iC 1 w b o c := by
  rcases h with (⟨rfl, rfl⟩ | ⟨b, o, cc, h1, _, _, h4⟩) | ⟨A, cc, rfl, rfl⟩
  · simp at hne
  · exact ⟨b, o, cc, h1, h4⟩
  · simp at hne
/-- A slice of objects. -/
def ObsAt (w : World) (V : Value) (qs : List Ob) : Prop := SAt Ob.cells 3 w V qs ∧ ∀ q ∈ qs, WsAt w q.v q.ws
theorem ObsAt.below {w W : World} {V : Value} {qs : List Ob} (h : ObsAt w V qs) (hb : Below w.heap.size w W) : ObsAt W V qs := ⟨h.1.below hb, fun q hq => ws_below (h.2 q hq) hb⟩
def fewO (qs : List Ob) : Bool := decide (qs.length ≤ 45) && qs.all fun q => decide (q.ws.length ≤ 70)
set_option maxRecDepth 100000 in
set_option maxHeartbeats 1000000 in
theorem few_any (V : Value) (qs : List Ob) (w : World) (h : ObsAt w V qs) :
    Calls Try.prog 6 #[V] w fun e w' => e = .returned (.bool (fewO qs)) ∧ w = w' := by
  have hlm := h.1.len
  unfold maxLen at hlm
  obtain ⟨A, c, rfl⟩ := h.1.slice
  have H := Lib.hid h
  clear h
  obtain ⟨Q, hQ⟩ : ∃ Q : Ending → World → Prop, Q = fun e w' => e = .returned (.bool (fewO qs)) ∧ w = w' := ⟨_, rfl⟩
  rw [← hQ]
  have HQ := Lib.hid hQ
  clear hQ
  by_cases hl : 45 < qs.length
  · have hlz : (45 : Int) < (qs.length : Int) := by omega
    have hf : fewO qs = false := by unfold fewO; rw [decide_eq_false (by omega)]; rfl
    have HF := Lib.hid hf
    clear hf hl
    go_enter Try.func6, Try.ntmps6
    go_wp2_with fail
    rw [HQ.out, HF.out]
    exact ⟨rfl, rfl⟩
  · have hlz : ¬ (45 : Int) < (qs.length : Int) := by omega
    have HM := Lib.hid hl
    clear hl
    go_enter Try.func6, Try.ntmps6
    go_wp2_with fail
    go_loopg [3] (qs.length + 1) (fun gg s5 wr => ∃ k : Nat, k ≤ qs.length ∧ qs.length - k ≤ gg ∧ s5 = .int .i64 k ∧ wr = w ∧ Aside (∀ j x, j < k → qs[j]? = some x → x.ws.length ≤ 70))
    case atStart => exact ⟨0, by omega, by omega, rfl, rfl, fun j x hj => absurd hj (by omega)⟩
    case round =>
      obtain ⟨k, hk, hgg, rfl, rfl, HN⟩ := hrel
      by_cases hlt : k < qs.length
      · have hltz : (k : Int) < (qs.length : Int) := by omega
        have hgk : qs[k]? = some qs[k] := List.getElem?_eq_getElem hlt
        generalize qs[k] = x at hgk
        have hws := H.out.2 x (List.mem_of_getElem? hgk)
        obtain ⟨A2, cc, hv⟩ := ws_form hws
        rcases H.out.1 with ⟨h1, h2⟩ | ⟨b, o, c', h1, _, _, hrow⟩
        · subst h2; simp at hlt
        · simp only [Value.slice.injEq] at h1
          obtain ⟨rfl, -, rfl⟩ := h1
          obtain ⟨c0, c1, c2⟩ := ObAt.ofRow hrow hgk
          rw [hv] at c2
          have HK := Lib.hid hgk
          clear hrow hgk hws hv
          by_cases hs : 70 < x.ws.length
          · have hsz : (70 : Int) < (x.ws.length : Int) := by omega
            have hf : fewO qs = false := by
              unfold fewO
              rw [Bool.and_eq_false_iff]
              right
              exact List.all_eq_false.2 ⟨x, List.mem_of_getElem? HK.out, by simp; omega⟩
            have HF := Lib.hid hf
            clear hf hs
            go_wp2_with fail
            rw [HQ.out, HF.out]
            exact ⟨rfl, rfl⟩
          · have hsz : ¬ (70 : Int) < (x.ws.length : Int) := by omega
            have HSS := Lib.hid hs
            clear hs
            go_wp2_with fail
            go_roundg (qs.length - (k + 1))
            case measure => omega
            case rel =>
              refine ⟨k + 1, by omega, by omega, by go_num, rfl, (show ∀ j z, j < k + 1 → qs[j]? = some z → z.ws.length ≤ 70 from fun j z hj hz => ?_)⟩
              by_cases he : j = k
              · subst he; rw [HK.out] at hz; cases hz; have := HSS.out; omega
              · exact HN.out j z (by omega) hz
      · obtain rfl : k = qs.length := by omega
        have hltz : ¬ ((qs.length : Nat) : Int) < ((qs.length : Nat) : Int) := by omega
        have hf : fewO qs = true := by
          unfold fewO
          rw [decide_eq_true (by have := HM.out; omega), Bool.true_and]
          exact List.all_eq_true.2 fun x hx => by
            obtain ⟨j, hj⟩ := List.getElem?_of_mem hx
            exact decide_eq_true (HN.out j x (List.getElem?_eq_some_iff.1 hj).1 hj)
        have HF := Lib.hid hf
        clear hf
        go_wp2_with fail
        rw [HQ.out, HF.out]
        exact ⟨rfl, rfl⟩
end Go.Proofs.Ytnflgikmljfakaa
