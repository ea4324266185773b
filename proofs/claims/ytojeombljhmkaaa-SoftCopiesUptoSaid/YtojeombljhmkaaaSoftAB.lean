/- Soft: a row of things, two of which change places; slices.swapRangeCmpFunc. -/
import Derived.Test.YtojeombljhmkaaaSoftO
import Derived.Deep.RegionLaw
import Derived.Deep.RegionHeld3
namespace Go.Proofs.Ytojeombljhmkaaa
open Go.RowKit Go.Shelf Go.Sort
set_option linter.unusedVariables false
set_option linter.unusedSimpArgs false
attribute [local go_sem] Oper.semAt_some
/-- The row of a sort. -/
def RowS (base g cap : Nat) (xs : List Th) (w : World) : Prop := w.ownsRow base 35 4 (.slice (some ⟨g, 0, none⟩) xs.length cap) xs.length (xs.flatMap Th.cells)
theorem RowS.below {base g cap : Nat} {xs : List Th} {w W : World} (h : RowS base g cap xs w) (hb : Below w.heap.size w W) : RowS base g cap xs W := own_lies h hb
theorem RowS.blk {base g cap : Nat} {xs : List Th} {w : World} (h : RowS base g cap xs w) : base ≤ g ∧ ∃ cur, w.heap[g]? = some (.cells cur 35 (0, 0)) ∧ xs.length ≤ cap ∧ cap ≤ maxLen ∧ cur.size = cap * 4 ∧ cur.toList.take (xs.length * 4) = xs.flatMap Th.cells := by
  rcases h.2 with ⟨h1, -⟩ | ⟨g', cap', cur, h1, h2, h3, h4, h5, h6, h7⟩
  · cases h1
  · injection h1 with h1 _ h8
    subst h8
    injection h1 with h1
    injection h1 with h1
    subst h1
    exact ⟨h2, cur, h3, h4, h5, h6, h7⟩
theorem flat_set : ∀ (xs : List Th) (j : Nat) (y : Th), j < xs.length → (xs.set j y).flatMap Th.cells = ((((xs.flatMap Th.cells).set (j * 4) (.string y.name)).set (j * 4 + 1) (.int .i64 y.period)).set (j * 4 + 2) (.int .i64 y.next)).set (j * 4 + 3) (.int .i64 y.forgot)
  | [], j, y, h => by simp at h
  | x :: xs, 0, y, _ => by simp [Th.cells]
  | x :: xs, j + 1, y, h => by
    have ih := flat_set xs j y (by simpa using h)
    rw [List.set_cons_succ, List.flatMap_cons, List.flatMap_cons, ih]
    have e : ∀ (l : List Value) (i : Nat) (v : Value), (Th.cells x ++ l).set (4 + i) v = Th.cells x ++ l.set i v := fun l i v => by
      rw [List.set_append_right _ _ (by simp [Th.cells])]
      simp [Th.cells]
    rw [show (j + 1) * 4 = 4 + j * 4 by omega, show 4 + j * 4 + 1 = 4 + (j * 4 + 1) by omega, show 4 + j * 4 + 2 = 4 + (j * 4 + 2) by omega, show 4 + j * 4 + 3 = 4 + (j * 4 + 3) by omega, e, e, e, e]
theorem RowS.set4 {base g cap : Nat} {xs : List Th} {w : World} (h : RowS base g cap xs w) {j : Nat} (hj : j < xs.length) (y : Th) :
    RowS base g cap (xs.set j y) ((((w.setCell ⟨g, j * 4, none⟩ (.string y.name)).setCell ⟨g, j * 4 + 1, none⟩ (.int .i64 y.period)).setCell ⟨g, j * 4 + 2, none⟩ (.int .i64 y.next)).setCell ⟨g, j * 4 + 3, none⟩ (.int .i64 y.forgot)) := by
  obtain ⟨hb, cur, h1, h2, h3, h4, h5⟩ := h.blk
  have e1 := heap_set (o := j * 4) (v := .string y.name) h1
  have e2 := heap_set (o := j * 4 + 1) (v := .int .i64 y.period) e1
  have e3 := heap_set (o := j * 4 + 2) (v := .int .i64 y.next) e2
  have e4 := heap_set (o := j * 4 + 3) (v := .int .i64 y.forgot) e3
  have hl : (xs.set j y).length = xs.length := by simp
  unfold RowS
  rw [hl]
  refine ⟨?_, .inr ⟨g, cap, _, rfl, hb, e4, h2, h3, by simp [h4], ?_⟩⟩
  · rw [flat_length (enc := Th.cells) (k := 4) (fun _ => rfl)]; simp
  · rw [flat_set xs j y hj, ← h5]
    simp only [Array.toList_setIfInBounds, List.take_set]
theorem RowS.lt {base g cap : Nat} {xs : List Th} {w : World} (h : RowS base g cap xs w) : g < w.heap.size := by
  obtain ⟨_, cur, h1, _⟩ := h.blk
  exact (Array.getElem?_eq_some_iff.1 h1).1
/-- The cells of one of a row. -/
theorem RowS.at {base g cap : Nat} {xs : List Th} {w : World} (h : RowS base g cap xs w) {j : Nat} {x : Th} (hj : xs[j]? = some x) :
    (w.cell? ⟨g, j * 4, none⟩ = some (.string x.name) ∧ w.cell? ⟨g, j * 4 + 1, none⟩ = some (.int .i64 x.period) ∧ w.cell? ⟨g, j * 4 + 2, none⟩ = some (.int .i64 x.next) ∧ w.cell? ⟨g, j * 4 + 3, none⟩ = some (.int .i64 x.forgot)) ∧ ∀ o, w.frozen? ⟨g, o, none⟩ = false := by
  rcases own_sat h with ⟨h1, -⟩ | ⟨b, o, c, h1, _, _, hrow⟩
  · cases h1
  · injection h1 with h1 _ _
    injection h1 with h1
    injection h1 with h1 h2
    subst h1 h2
    have := th_row hrow hj
    simp only [Nat.zero_add] at this
    obtain ⟨_, cur, h1, _⟩ := h.blk
    exact ⟨this, fun o => by simp [World.frozen?, h1]⟩
theorem RowS.swap2 {base g cap : Nat} {xs : List Th} {w : World} (h : RowS base g cap xs w) {A B : Nat} {x y : Th} (hA : xs[A]? = some x) (hB : xs[B]? = some y) :
    RowS base g cap ((xs.set A y).set B x) ((((((((w.setCell ⟨g, A * 4, none⟩ (.string y.name)).setCell ⟨g, A * 4 + 1, none⟩ (.int .i64 y.period)).setCell ⟨g, A * 4 + 2, none⟩ (.int .i64 y.next)).setCell ⟨g, A * 4 + 3, none⟩ (.int .i64 y.forgot)).setCell ⟨g, B * 4, none⟩ (.string x.name)).setCell ⟨g, B * 4 + 1, none⟩ (.int .i64 x.period)).setCell ⟨g, B * 4 + 2, none⟩ (.int .i64 x.next)).setCell ⟨g, B * 4 + 3, none⟩ (.int .i64 x.forgot)).drew := by
  have hA' := (List.getElem?_eq_some_iff.1 hA).1
  have hB' := (List.getElem?_eq_some_iff.1 hB).1
  exact ((h.set4 hA' y).set4 (by rw [List.length_set]; exact hB') x).below (bl_drew (Below.refl _ _))
theorem swap2_below {base g cap : Nat} {xs : List Th} {w : World} (h : RowS base g cap xs w) (A B : Nat) (x y : Th) :
    Below base w ((((((((w.setCell ⟨g, A * 4, none⟩ (.string y.name)).setCell ⟨g, A * 4 + 1, none⟩ (.int .i64 y.period)).setCell ⟨g, A * 4 + 2, none⟩ (.int .i64 y.next)).setCell ⟨g, A * 4 + 3, none⟩ (.int .i64 y.forgot)).setCell ⟨g, B * 4, none⟩ (.string x.name)).setCell ⟨g, B * 4 + 1, none⟩ (.int .i64 x.period)).setCell ⟨g, B * 4 + 2, none⟩ (.int .i64 x.next)).setCell ⟨g, B * 4 + 3, none⟩ (.int .i64 x.forgot)).drew := by
  have hg := h.blk.1
  exact bl_drew (bl_set (bl_set (bl_set (bl_set (bl_set (bl_set (bl_set (bl_set (Below.refl _ _) hg _) hg _) hg _) hg _) hg _) hg _) hg _) hg _)
theorem get_mid {A : List Th} {x : Th} {B : List Th} {j : Nat} (hj : j = A.length) : (A ++ x :: B)[j]? = some x := by subst hj; simp
theorem set_mid {A : List Th} {x y : Th} {B : List Th} {j : Nat} (hj : j = A.length) : (A ++ x :: B).set j y = A ++ y :: B := by subst hj; simp
set_option maxRecDepth 100000 in
set_option maxHeartbeats 2000000 in
theorem swapRange_any (base g cap n : Nat) (Pre X M Y Post : List Th) (fv : Value) (w : World) (h : RowS base g cap (Pre ++ (X ++ (M ++ (Y ++ Post)))) w) (hb0 : base ≤ w.heap.size) (hX : X.length = n) (hY : Y.length = n) (hlen : (Pre ++ (X ++ (M ++ (Y ++ Post)))).length ≤ 1000000) :
    Calls Try.prog 73 #[.slice (some ⟨g, 0, none⟩) (Pre ++ (X ++ (M ++ (Y ++ Post)))).length cap, .int .i64 (Pre.length : Int), .int .i64 ((Pre.length + n + M.length : Nat) : Int), .int .i64 (n : Int), fv] w fun e w' =>
      e = .returned (.tuple #[]) ∧ RowS base g cap (Pre ++ (Y ++ (M ++ (X ++ Post)))) w' ∧ Below base w w' := by
  obtain ⟨Q, hQ⟩ : ∃ Q : Ending → World → Prop, Q = fun e w' => e = .returned (.tuple #[]) ∧ RowS base g cap (Pre ++ (Y ++ (M ++ (X ++ Post)))) w' ∧ Below base w w' := ⟨_, rfl⟩
  rw [← hQ]
  have HQ := Lib.hid hQ
  obtain ⟨N, hN⟩ : ∃ N, N = (Pre ++ (X ++ (M ++ (Y ++ Post)))).length := ⟨_, rfl⟩
  obtain ⟨a, ha⟩ : ∃ a, a = Pre.length := ⟨_, rfl⟩
  obtain ⟨b, hb⟩ : ∃ b, b = Pre.length + n + M.length := ⟨_, rfl⟩
  have hbN : b + n ≤ N := by rw [hN, hb]; simp only [List.length_append]; omega
  have haN : a + n ≤ b := by omega
  have hn6 : n ≤ 1000000 := by omega
  rw [← hN] at hlen ⊢
  rw [← hb, ← ha]
  have HR := Lib.hid h
  have HN := Lib.hid hN
  have HAB := Lib.hid (And.intro ha hb)
  have HXY := Lib.hid (And.intro hX hY)
  clear h hQ hN ha hb hX hY
  go_enter Try.func73, Try.ntmps73
  go_wp2_with fail
  go_loopg [10] (n + 1) (fun gg s10 wr => ∃ (i : Nat) (X1 X2 Y1 Y2 : List Th), i ≤ n ∧ n - i ≤ gg ∧ s10 = .int .i64 (i : Int) ∧ Aside (X = X1 ++ X2 ∧ Y = Y1 ++ Y2 ∧ X1.length = i ∧ Y1.length = i) ∧ Aside (RowS base g cap (Pre ++ (Y1 ++ (X2 ++ (M ++ (X1 ++ (Y2 ++ Post)))))) wr) ∧ Aside (Below base w wr))
  case atStart => exact ⟨0, [], X, [], Y, by omega, by omega, rfl, ⟨rfl, rfl, rfl, rfl⟩, HR.out, Below.refl _ _⟩
  case round =>
    obtain ⟨i, X1, X2, Y1, Y2, hi, hgg, rfl, HE, HRW, HB⟩ := hrel
    by_cases hlt : i < n
    · have hltz : (i : Int) < (n : Int) := by omega
      obtain ⟨x, X3, hx3⟩ : ∃ x X3, X2 = x :: X3 := by
        cases X2 with
        | nil => have h1 := HE.out.1; have h2 := HXY.out.1; have h3 := HE.out.2.2.1; rw [h1] at h2; simp at h2; omega
        | cons x X3 => exact ⟨x, X3, rfl⟩
      obtain ⟨y, Y3, hy3⟩ : ∃ y Y3, Y2 = y :: Y3 := by
        cases Y2 with
        | nil => have h1 := HE.out.2.1; have h2 := HXY.out.2; have h3 := HE.out.2.2.2; rw [h1] at h2; simp at h2; omega
        | cons y Y3 => exact ⟨y, Y3, rfl⟩
      subst hx3 hy3
      have hl1 : a + i = (Pre ++ Y1).length := by have := HAB.out.1; have := HE.out.2.2.2; simp; omega
      have hl2 : b + i = (Pre ++ (Y1 ++ (x :: X3 ++ (M ++ X1)))).length := by
        have h1 := HE.out.1
        have h2 := HXY.out.1
        rw [h1] at h2
        have := HAB.out.2
        have := HE.out.2.2.2
        simp at h2 ⊢
        omega
      have hrow1 : Pre ++ (Y1 ++ (x :: X3 ++ (M ++ (X1 ++ (y :: Y3 ++ Post))))) = (Pre ++ Y1) ++ x :: (X3 ++ (M ++ (X1 ++ (y :: Y3 ++ Post)))) := by simp
      have hrow2 : Pre ++ (Y1 ++ (x :: X3 ++ (M ++ (X1 ++ (y :: Y3 ++ Post))))) = (Pre ++ (Y1 ++ (x :: X3 ++ (M ++ X1)))) ++ y :: (Y3 ++ Post) := by simp
      have hrw := HRW.out
      obtain ⟨⟨c0, c1, c2, c3⟩, hfz⟩ := hrw.at (j := a + i) (x := x) (by rw [hrow1]; exact get_mid hl1)
      obtain ⟨⟨d0, d1, d2, d3⟩, -⟩ := hrw.at (j := b + i) (x := y) (by rw [hrow2]; exact get_mid hl2)
      obtain ⟨A, hA⟩ : ∃ A, A = a + i := ⟨_, rfl⟩
      obtain ⟨B, hB⟩ : ∃ B, B = b + i := ⟨_, rfl⟩
      have w1 : IntKind.i64.wrap ((a : Int) + (i : Int)) = (A : Int) := by rw [IntKind.wrap_i64]; omega
      have w2 : IntKind.i64.wrap ((b : Int) + (i : Int)) = (B : Int) := by rw [IntKind.wrap_i64]; omega
      have q5 : (A : Int) < (N : Int) := by omega
      have q6 : (B : Int) < (N : Int) := by omega
      have hAB : A < B := by omega
      rw [← hA] at c0 c1 c2 c3 hl1
      rw [← hB] at d0 d1 d2 d3 hl2
      have f0 := hfz (A * 4)
      have f1 := hfz (A * 4 + 1)
      have f2 := hfz (A * 4 + 2)
      have f3 := hfz (A * 4 + 3)
      have k0 := hfz (B * 4)
      have k1 := hfz (B * 4 + 1)
      have k2 := hfz (B * 4 + 2)
      have k3 := hfz (B * 4 + 3)
      have hgy : (Pre ++ (Y1 ++ (x :: X3 ++ (M ++ (X1 ++ (y :: Y3 ++ Post))))))[B]? = some y := by rw [hrow2]; exact get_mid hl2
      have hgx : (Pre ++ (Y1 ++ (x :: X3 ++ (M ++ (X1 ++ (y :: Y3 ++ Post))))))[A]? = some x := by rw [hrow1]; exact get_mid hl1
      have HROW := Lib.hid (And.intro hrow1 (And.intro hl1 (And.intro hl2 (And.intro hgx hgy))))
      clear hrw hfz hrow1 hrow2 hl1 hl2 hA hB haN hbN hgx hgy
      go_upto_region 3 with fail
      go_region_law (fail)
      all_goals
        have hsw := (HRW.out.swap2 (A := A) (B := B) (x := x) (y := y) HROW.out.2.2.2.1 HROW.out.2.2.2.2)
        have hbe := HB.out.trans (swap2_below HRW.out A B x y)
        rw [HROW.out.1, set_mid HROW.out.2.1] at hsw
        rw [show (Pre ++ Y1) ++ y :: (X3 ++ (M ++ (X1 ++ (y :: Y3 ++ Post)))) = (Pre ++ (Y1 ++ (y :: X3 ++ (M ++ X1)))) ++ y :: (Y3 ++ Post) by simp, set_mid (by rw [HROW.out.2.2.1]; simp)] at hsw
        have HSW := Lib.hid hsw
        have HBE := Lib.hid hbe
        clear hsw hbe
        go_wp2_with fail
        go_roundg (n - (i + 1))
        case measure => omega
        case rel =>
          refine ⟨i + 1, X1 ++ [x], X3, Y1 ++ [y], Y3, by omega, by omega, by go_num, ⟨by rw [HE.out.1]; simp, by rw [HE.out.2.1]; simp, by simp [HE.out.2.2.1], by simp [HE.out.2.2.2]⟩, ?_, HBE.out⟩
          refine (show RowS base g cap _ _ from ?_)
          have := HSW.out
          simpa using this
    · obtain rfl : i = n := by omega
      have hltz : ¬ (i : Int) < (i : Int) := by omega
      have hx2 : X2 = [] := by
        have h1 := HE.out.1; have h2 := HXY.out.1; rw [h1] at h2; simp at h2; exact List.eq_nil_of_length_eq_zero (by have := HE.out.2.2.1; omega)
      have hy2 : Y2 = [] := by
        have h1 := HE.out.2.1; have h2 := HXY.out.2; rw [h1] at h2; simp at h2; exact List.eq_nil_of_length_eq_zero (by have := HE.out.2.2.2; omega)
      subst hx2 hy2
      have hXe := HE.out.1
      have hYe := HE.out.2.1
      rw [List.append_nil] at hXe hYe
      have HX := Lib.hid (And.intro hXe hYe)
      clear hXe hYe
      go_wp2_with fail
      go_end0
      rw [HQ.out, HX.out.1, HX.out.2]
      refine ⟨rfl, ?_, HB.out⟩
      have := HRW.out
      simpa using this
end Go.Proofs.Ytojeombljhmkaaa
