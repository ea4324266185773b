/- Object: same, at lists that are the same. -/
import Derived.Test.YtnflgikmljfakaaObjH
import Derived.Deep.RegionHeld3
namespace Go.Proofs.Ytnflgikmljfakaa
open Go.RowKit Go.Shelf
set_option linter.unusedVariables false
set_option linter.unusedSimpArgs false
attribute [local go_sem] Oper.semAt_some
set_option maxRecDepth 100000 in
set_option maxHeartbeats 1000000 in
theorem same_yes (V U : Value) (qs rs : List Ob) (w : World) (h : ObsAt w V qs) (h2 : ObsAt w U rs) (hl : qs.length = rs.length) (he : ∀ (j : Nat) (a b : Ob), qs[j]? = some a → rs[j]? = some b → eqO a b = true) :
    Calls Try.prog 12 #[V, U] w fun e w' => e = .returned (.bool true) ∧ Below w.heap.size w w' := by
  have hlm := h.1.len
  have hlm2 := h2.1.len
  unfold maxLen at hlm hlm2
  obtain ⟨A, c, rfl⟩ := h.1.slice
  obtain ⟨A2, c2, rfl⟩ := h2.1.slice
  have H := Lib.hid h
  have H2 := Lib.hid h2
  have HL := Lib.hid hl
  have HE := Lib.hid he
  have hlz : ((qs.length : Int) != (rs.length : Int)) = false := by rw [hl]; simp
  obtain ⟨Q, hQ⟩ : ∃ Q : Ending → World → Prop, Q = fun e w' => e = .returned (.bool true) ∧ Below w.heap.size w w' := ⟨_, rfl⟩
  rw [← hQ]
  have HQ := Lib.hid hQ
  clear hQ h h2 hl he
  go_enter Try.func12, Try.ntmps12
  go_wp2_with fail
  go_loopg [5] (qs.length + 1) (fun gg s5 wr => ∃ k : Nat, k ≤ qs.length ∧ qs.length - k ≤ gg ∧ s5 = .int .i64 k ∧ Aside (Below w.heap.size w wr))
  case atStart => exact ⟨0, by omega, by omega, rfl, Below.refl _ _⟩
  case round =>
    obtain ⟨k, hk, hgg, rfl, HB⟩ := hrel
    by_cases hlt : k < qs.length
    · have hlt2 : k < rs.length := by have := HL.out; omega
      have hltz : (k : Int) < (qs.length : Int) := by omega
      have hltz2 : (k : Int) < (rs.length : Int) := by omega
      have hgk : qs[k]? = some qs[k] := List.getElem?_eq_getElem hlt
      have hgy : rs[k]? = some rs[k] := List.getElem?_eq_getElem hlt2
      generalize qs[k] = x at hgk
      generalize rs[k] = y at hgy
      have hxy := HE.out k x y hgk hgy
      have hwx := ws_below (H.out.2 x (List.mem_of_getElem? hgk)) HB.out
      have hwy := ws_below (H2.out.2 y (List.mem_of_getElem? hgy)) HB.out
      rcases (H.out.below HB.out).1 with ⟨h1, h9⟩ | ⟨b, o, c', h1, _, _, hrow⟩
      · subst h9; simp at hlt
      · rcases (H2.out.below HB.out).1 with ⟨h3, h9⟩ | ⟨b2, o2, c2', h3, _, _, hrow2⟩
        · subst h9; simp at hlt2
        · simp only [Value.slice.injEq] at h1 h3
          obtain ⟨rfl, -, rfl⟩ := h1
          obtain ⟨rfl, -, rfl⟩ := h3
          obtain ⟨c0, c1, c2⟩ := ObAt.ofRow hrow hgk
          obtain ⟨d0, d1, d2⟩ := ObAt.ofRow hrow2 hgy
          have HX : Hid (∀ W, Below wr.heap.size wr W → (fun w' => (w'.cell? ⟨b, o + k * 3, none⟩ = some (.int .i64 x.c) ∧ w'.cell? ⟨b, o + k * 3 + 1, none⟩ = some (.int .i64 x.t) ∧ w'.cell? ⟨b, o + k * 3 + 2, none⟩ = some x.v) ∧ w'.cell? ⟨b2, o2 + k * 3, none⟩ = some (.int .i64 y.c) ∧ w'.cell? ⟨b2, o2 + k * 3 + 1, none⟩ = some (.int .i64 y.t) ∧ w'.cell? ⟨b2, o2 + k * 3 + 2, none⟩ = some y.v) W) := Lib.hid fun W hW => ⟨⟨bl_cell hW c0, bl_cell hW c1, bl_cell hW c2⟩, bl_cell hW d0, bl_cell hW d1, bl_cell hW d2⟩
          have HRS : Hid (∀ W, Below wr.heap.size wr W → Calls Try.prog 24 #[.agg #[.int .i64 x.c, .int .i64 x.t, x.v], .agg #[.int .i64 y.c, .int .i64 y.t, y.v]] W fun e w' => e = .returned (.bool true) ∧ Below W.heap.size W w') := Lib.hid fun W hW => by rw [← hxy]; exact rsame_any x y W (ws_below hwx hW) (ws_below hwy hW)
          have HOS : Hid (∀ W, Below wr.heap.size wr W → Calls Try.prog 25 #[.agg #[.int .i64 x.c, .int .i64 x.t, x.v], .agg #[.int .i64 y.c, .int .i64 y.t, y.v]] W fun e w' => e = .returned (.bool true) ∧ Below W.heap.size W w') := Lib.hid fun W hW => by rw [← hxy]; exact osame_any x y W (ws_below hwx hW) (ws_below hwy hW)
          clear hrow hrow2 hgk hgy hxy hwx hwy c0 c1 c2 d0 d1 d2
          go_upto_region 6 with fail
          first
          | go_region_held3 (fun w' => (w'.cell? ⟨b, o + k * 3, none⟩ = some (.int .i64 x.c) ∧ w'.cell? ⟨b, o + k * 3 + 1, none⟩ = some (.int .i64 x.t) ∧ w'.cell? ⟨b, o + k * 3 + 2, none⟩ = some x.v) ∧ w'.cell? ⟨b2, o2 + k * 3, none⟩ = some (.int .i64 y.c) ∧ w'.cell? ⟨b2, o2 + k * 3 + 1, none⟩ = some (.int .i64 y.t) ∧ w'.cell? ⟨b2, o2 + k * 3 + 2, none⟩ = some y.v)
              (exact HX.out _ (by solve | exact hbw5 | exact hbw4 | exact bl_drew (Below.refl _ _) | exact Below.refl _ _))
              (first
                | (go_at_call 24; refine (HRS.out _ (by solve | exact bl_drew (Below.refl _ _) | exact Below.refl _ _ | exact hbw4)).mono ?_; rintro e w4 ⟨rfl, hb4⟩; have hbw4 : Below wr.heap.size wr w4 := bl_then (by solve | exact bl_drew (Below.refl _ _) | exact Below.refl _ _ | exact hbw4) hb4)
                | (go_at_call 25; refine (HOS.out _ (by solve | exact bl_drew (Below.refl _ _) | exact Below.refl _ _ | exact hbw4)).mono ?_; rintro e w5 ⟨rfl, hb5⟩; have hbw5 : Below wr.heap.size wr w5 := bl_then (by solve | exact bl_drew (Below.refl _ _) | exact Below.refl _ _ | exact hbw4) hb5))
          | fail "held3"
          all_goals
            have HB5 := Lib.hid (bl_then HB.out hbw5)
            clear hbw5 hbw4 hb5 hb4
            go_wp2_with fail
            go_roundg (qs.length - (k + 1))
            case measure => omega
            case rel => exact ⟨k + 1, by omega, by omega, by go_num, HB5.out⟩
    · obtain rfl : k = qs.length := by omega
      have hltz : ¬ ((qs.length : Nat) : Int) < ((qs.length : Nat) : Int) := by omega
      go_wp2_with fail
      rw [HQ.out]
      exact ⟨rfl, HB.out⟩
end Go.Proofs.Ytnflgikmljfakaa
