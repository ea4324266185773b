/- Object: the document's Right, Raw. -/
import Derived.Test.YtnflgikmljfakaaObjD
namespace Go.Proofs.Ytnflgikmljfakaa
open Go.RowKit Go.Shelf
set_option linter.unusedVariables false
set_option linter.unusedSimpArgs false
attribute [local go_sem] Oper.semAt_some
theorem numB_4 {y : Int} (h0 : 0 ≤ y) (h1 : y ≤ 4294967295) : numB y 4 = [y / 16777216, y / 65536 % 256, y / 256 % 256, y % 256] := by
  have h9 : y / 16777216 % 256 = y / 16777216 := by omega
  simp [numB, h9]
theorem own_less {w : World} {b0 base e k n : Nat} {v : Value} {cs : List Value} (h : w.ownsRow base e k v n cs) (hb : b0 ≤ base) : w.ownsRow b0 e k v n cs := by
  refine ⟨h.1, ?_⟩
  rcases h.2 with h2 | ⟨g, cap, cur, h1, h2, h3⟩
  · exact .inl h2
  · exact .inr ⟨g, cap, cur, h1, Nat.le_trans hb h2, h3⟩
theorem own_four (w : World) (a b c d : Int) {g : Nat} (hg : g = w.heap.size) : (w.alloc (.cells #[.int .u8 a, .int .u8 b, .int .u8 c, .int .u8 d] 5)).ownsRow w.heap.size 5 1 (.slice (some ⟨g, 0, none⟩) 4 4) 4 ([a, b, c, d].flatMap yC) := by
  subst hg
  exact ⟨rfl, .inr ⟨_, 4, _, rfl, Nat.le_refl _, new_block _ _, Nat.le_refl _, by simp [maxLen], rfl, rfl⟩⟩
theorem sat_fourY (w : World) (x y z v : Int) {b : Nat} (hb : b = w.heap.size) : SAt yC 1 (w.alloc (.cells #[.int .u8 x, .int .u8 y, .int .u8 z, .int .u8 v] 5)) (.slice (some ⟨b, 0, none⟩) 4 4) [x, y, z, v] := by
  subst hb
  exact Or.inr ⟨_, 0, 4, rfl, Nat.le_refl _, by simp [maxLen], rowAt_new (enc := yC) (k := 1) (fun _ => rfl) w 5 [x, y, z, v] rfl rfl⟩
set_option maxRecDepth 100000 in
set_option maxHeartbeats 2000000 in
theorem rraw_any (q : Ob) (w : World) (h : WsAt w q.v q.ws) (hm : mayB q = true) :
    Calls Try.prog 10 #[.agg #[.int .i64 q.c, .int .i64 q.t, q.v]] w fun e w' => ∃ u, e = .returned u ∧ w'.ownsRow w.heap.size 5 1 u (rawO q).length ((rawO q).flatMap yC) ∧ Below w.heap.size w w' := by
  obtain ⟨Q, hQ⟩ : ∃ Q : Ending → World → Prop, Q = fun e w' => ∃ u, e = .returned u ∧ w'.ownsRow w.heap.size 5 1 u (rawO q).length ((rawO q).flatMap yC) ∧ Below w.heap.size w w' := ⟨_, rfl⟩
  rw [← hQ]
  have HQ := Lib.hid hQ
  have hmx := mayB_iff hm
  obtain ⟨A, cc, hv⟩ := ws_form h
  rw [hv] at h ⊢
  have hb1 := bl_alloc (Below.refl w.heap.size w) (.cells #[.int .i64 q.c, .int .i64 q.t, .slice A q.ws.length cc] 32)
  have hx1 : (w.alloc (.cells #[.int .i64 q.c, .int .i64 q.t, .slice A q.ws.length cc] 32)).heap[w.heap.size]? = some (.cells #[.int .i64 q.c, .int .i64 q.t, .slice A q.ws.length cc] 32 (0, 0)) := new_block _ _
  have HB1 := Lib.hid hb1
  have HX1 := Lib.hid hx1
  have HWS := Lib.hid h
  have HMX := Lib.hid hmx
  have hw64 : q.ws.length ≤ 64 := hmx.2.2.2.2.2.1
  clear hQ h hb1 hx1 hmx hm
  go_enter Try.func10, Try.ntmps10
  go_wp2_with fail
  obtain ⟨P, hP⟩ : ∃ P : List Int, P = [(4 + 4 * (q.ws.length : Int)) / 256, (4 + 4 * (q.ws.length : Int)) % 256, q.c % 256, q.t % 256] := ⟨_, rfl⟩
  have ho := own_four (w.alloc (.cells #[.int .i64 q.c, .int .i64 q.t, .slice A q.ws.length cc] 32)) ((4 + 4 * (q.ws.length : Int)) / 256) ((4 + 4 * (q.ws.length : Int)) % 256) (q.c % 256) (q.t % 256) (g := w.heap.size + 1) (by simp)
  rw [← hP] at ho
  have ho' := own_less (b0 := w.heap.size) ho (by simp)
  have hk2 : KeptT 5 (w.alloc (.cells #[.int .i64 q.c, .int .i64 q.t, .slice A q.ws.length cc] 32)) _ := KeptT.ofBelow (bl_alloc (Below.refl _ _) (.cells #[.int .u8 ((4 + 4 * (q.ws.length : Int)) / 256), .int .u8 ((4 + 4 * (q.ws.length : Int)) % 256), .int .u8 (q.c % 256), .int .u8 (q.t % 256)] 5))
  have hx2 := hk2 _ _ _ _ (by decide) HX1.out
  have hb2 := bl_then HB1.out (bl_alloc (Below.refl _ _) (.cells #[.int .u8 ((4 + 4 * (q.ws.length : Int)) / 256), .int .u8 ((4 + 4 * (q.ws.length : Int)) % 256), .int .u8 (q.c % 256), .int .u8 (q.t % 256)] 5))
  clear ho hk2
  have HP := Lib.hid hP
  have HO := Lib.hid ho'
  have HX2 := Lib.hid hx2
  have HB2 := Lib.hid hb2
  clear ho' hx2 hb2 hP
  have HPL : Hid (P.length = 4) := Lib.hid (by rw [HP.out]; rfl)
  go_loopg [4, 5] (q.ws.length + 1) (fun gg s4 s5 wr => ∃ j : Nat, j ≤ q.ws.length ∧ q.ws.length - j ≤ gg ∧ s5 = .int .i64 j ∧ Aside (wr.ownsRow w.heap.size 5 1 s4 (4 + 4 * j) ((P ++ (q.ws.take j).flatMap fun n => numB n 4).flatMap yC)) ∧ Aside (wr.heap[w.heap.size]? = some (.cells #[.int .i64 q.c, .int .i64 q.t, .slice A q.ws.length cc] 32 (0, 0))) ∧ Aside (Below w.heap.size w wr))
  case atStart => exact ⟨0, by omega, by omega, rfl, (show World.ownsRow _ w.heap.size 5 1 _ (4 + 4 * 0) ((P ++ (q.ws.take 0).flatMap fun n => numB n 4).flatMap yC) from by simpa using HO.out), HX2.out, HB2.out⟩
  case round =>
    obtain ⟨j, hj, hgj, rfl, HOJ, HXJ, HBJ⟩ := hrel
    obtain ⟨N, hN⟩ : ∃ N, N = 4 + 4 * j := ⟨_, rfl⟩
    have hoj := HOJ.out
    rw [← hN] at hoj
    obtain ⟨Aj, cj, rfl⟩ := own_form hoj
    have HOJ2 := Lib.hid hoj
    have HNN := Lib.hid hN
    obtain ⟨x0, x1, x2⟩ := ob_cells HXJ.out
    clear hoj hN HOJ
    by_cases hjl : j < q.ws.length
    · have hjz : (j : Int) < (q.ws.length : Int) := by omega
      have hgy : q.ws[j]? = some q.ws[j] := List.getElem?_eq_getElem hjl
      generalize q.ws[j] = y at hgy
      obtain ⟨b9, o9, c9, hv9, hrow⟩ := ws_sat (ws_below HWS.out HBJ.out) (by omega)
      simp only [Value.slice.injEq] at hv9
      obtain ⟨rfl, -, rfl⟩ := hv9
      have hcy : wr.cell? ⟨b9, o9 + j, none⟩ = some (.int .i64 y) := by
        have h9 := hrow j y hgy 0 _ rfl
        simpa using h9
      obtain ⟨hy0, hy1⟩ := HMX.out.2.2.2.2.2.2 y (List.mem_of_getElem? hgy)
      have HGY := Lib.hid hgy
      have HNL : Hid (N = (P ++ (q.ws.take j).flatMap fun n => numB n 4).length) := Lib.hid (by rw [List.length_append, rawW_len, HPL.out, HNN.out]; simp; omega)
      have HNB : Hid (N ≤ 1000000) := Lib.hid (by have := HNN.out; omega)
      clear hrow hgy
      have HNY : Hid (numB y 4 = [y / 16777216, y / 65536 % 256, y / 256 % 256, y % 256]) := Lib.hid (numB_4 hy0 hy1)
      go_wp2_with (at_builtin; refine wpList_app rfl (.tmp 37) (.tmp 52) rfl elY (fun _ => rfl) y_one (base := w.heap.size) (v := .slice Aj N cj) (src := .slice (some ⟨wr.heap.size, 0, none⟩) 4 4) (xs := P ++ (q.ws.take j).flatMap fun n => numB n 4) (ys := [y / 16777216, y / 65536 % 256, y / 256 % 256, y % 256]) (by go_simp) (by go_simp) HNL.out (own_alloc HOJ2.out _) (sat_fourY wr _ _ _ _ rfl) (by have := HBJ.out.size; simp; omega) (by have := HNB.out; have := HNL.out; simp only [List.length_cons, List.length_nil]; rw [← HNL.out]; simp [maxLen]; omega) (by have := HNB.out; simp only [List.length_cons, List.length_nil]; rw [← HNL.out]; omega) ?_; intro v9 w9 ho9 hg9; have HX9 := Lib.hid ((KeptT.grown (own_alloc HOJ2.out _) hg9) _ _ _ _ (by decide) (KeptT.ofBelow (e := 5) (bl_alloc (Below.refl wr.heap.size wr) (.cells #[.int .u8 (y / 16777216), .int .u8 (y / 65536 % 256), .int .u8 (y / 256 % 256), .int .u8 (y % 256)] 5)) _ _ _ _ (by decide) HXJ.out)); have HB9 := Lib.hid ((HBJ.out.alloc HBJ.out.size _).trans (own_below (own_alloc HOJ2.out _) hg9 (by have := HBJ.out.size; simp; omega))); rw [← HNY.out, List.length_append, numB_len, ← HNL.out] at ho9; have HO9 := Lib.hid ho9; clear ho9 hg9)
      go_roundg (q.ws.length - (j + 1))
      case measure => omega
      case rel =>
        refine ⟨j + 1, by omega, by omega, by go_num, ?_, HX9.out, HB9.out⟩
        show w9.ownsRow w.heap.size 5 1 v9 (4 + 4 * (j + 1)) ((P ++ (q.ws.take (j + 1)).flatMap fun n => numB n 4).flatMap yC)
        have h8 := HO9.out
        rw [show N + 4 = 4 + 4 * (j + 1) by have := HNN.out; omega] at h8
        rw [← take_snoc' HGY.out, show ((q.ws.take j ++ [y]).flatMap fun n => numB n 4) = ((q.ws.take j).flatMap fun n => numB n 4) ++ numB y 4 by simp, ← List.append_assoc]
        exact h8
    · obtain rfl : j = q.ws.length := by omega
      have hjz : ¬ ((q.ws.length : Nat) : Int) < ((q.ws.length : Nat) : Int) := by omega
      have hrw : rawO q = P ++ (q.ws.take q.ws.length).flatMap fun n => numB n 4 := by
        rw [List.take_length, HP.out]
        unfold rawO numB numB
        have h9 : (4 + 4 * (q.ws.length : Int)) / 256 % 256 = (4 + 4 * (q.ws.length : Int)) / 256 := by omega
        simp [numB, h9]
      have hln : N = (rawO q).length := by rw [rawO_len, HNN.out]
      have HRW := Lib.hid (And.intro hrw hln)
      clear hrw hln
      go_wp2_with fail
      rw [HQ.out]
      refine ⟨_, rfl, ?_, HBJ.out⟩
      rw [← HRW.out.2, HRW.out.1]
      exact HOJ2.out
end Go.Proofs.Ytnflgikmljfakaa
