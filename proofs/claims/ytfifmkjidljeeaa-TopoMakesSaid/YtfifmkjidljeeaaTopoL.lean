/- Topo: slices.Equal at links, Same, Copy. -/
import Derived.Test.YtfifmkjidljeeaaTopoK
import Derived.Test.YtfifmkjidljeeaaTopoF
import Derived.Deep.RegionHeld3
import Derived.Laws.StructEq
namespace Go.Proofs.Ytfifmkjidljeeaa
open Go.RowKit Go.Shelf
set_option linter.unusedVariables false
set_option linter.unusedSimpArgs false
def sameLk (x y : Lk) : Bool := x.a == y.a && (x.b == y.b && (x.c == y.c && (x.d == y.d && (x.e == y.e && (x.f == y.f && (x.g == y.g && x.h == y.h))))))
theorem sameLk_self (x : Lk) : sameLk x x = true := by simp [sameLk]
set_option maxRecDepth 100000 in
theorem neq_lk (x y : Lk) (w : World) : (binOp .neq 23 x.val y.val).run Try.prog w = .ok (.bool (!sameLk x y)) w := by
  simp [go_sem, sameLk]
  by_cases h1 : x.a = y.a
  · by_cases h2 : x.b = y.b
    · by_cases h3 : x.c = y.c
      · by_cases h4 : x.d = y.d
        · by_cases h5 : x.e = y.e
          · by_cases h6 : x.f = y.f
            · by_cases h7 : x.g = y.g
              · by_cases h8 : x.h = y.h <;> simp [h1, h2, h3, h4, h5, h6, h7, h8]
              · simp [h1, h2, h3, h4, h5, h6, h7]
            · simp [h1, h2, h3, h4, h5, h6]
          · simp [h1, h2, h3, h4, h5]
        · simp [h1, h2, h3, h4]
      · simp [h1, h2, h3]
    · simp [h1, h2]
  · simp [h1]
def eqLs (xs ys : List Lk) : Bool := decide (xs.length = ys.length) && (List.range xs.length).all fun j => sameLk (xs.getD j Lk0) (ys.getD j Lk0)
theorem eqLs_self (xs : List Lk) : eqLs xs xs = true := by simp [eqLs, sameLk_self]
theorem eqLs_len {xs ys : List Lk} (h : xs.length ≠ ys.length) : eqLs xs ys = false := by simp [eqLs, h]
theorem eqLs_no {xs ys : List Lk} {k : Nat} {x y : Lk} (hx : xs[k]? = some x) (hy : ys[k]? = some y) (h : sameLk x y = false) : eqLs xs ys = false := by
  unfold eqLs
  rw [Bool.and_eq_false_iff]
  right
  rw [List.all_eq_false]
  refine ⟨k, List.mem_range.2 (List.getElem?_eq_some_iff.1 hx).1, ?_⟩
  rw [List.getD_eq_getElem?_getD, List.getD_eq_getElem?_getD, hx, hy]
  simp [h]
theorem eqLs_yes {xs ys : List Lk} (hl : xs.length = ys.length) (h : ∀ (j : Nat) x, xs[j]? = some x → ∃ y, ys[j]? = some y ∧ sameLk x y = true) : eqLs xs ys = true := by
  unfold eqLs
  rw [Bool.and_eq_true]
  refine ⟨by simpa using hl, List.all_eq_true.2 fun j hj => ?_⟩
  have hj' := List.mem_range.1 hj
  obtain ⟨y, hy, hs⟩ := h j _ (List.getElem?_eq_getElem hj')
  rw [List.getD_eq_getElem?_getD, List.getD_eq_getElem?_getD, hy, List.getElem?_eq_getElem hj']
  exact hs
theorem past_same {xs ys : List Lk} {k : Nat} {l m : Lk} (hn : ∀ j, j < k → ∀ m, xs[j]? = some m → ∃ y, ys[j]? = some y ∧ sameLk m y = true) (hl : xs[k]? = some l) (hm : ys[k]? = some m) (h : sameLk l m = true) :
    ∀ j, j < k + 1 → ∀ m, xs[j]? = some m → ∃ y, ys[j]? = some y ∧ sameLk m y = true := by
  intro j hj x hx
  rcases Nat.lt_succ_iff_lt_or_eq.1 hj with hj | rfl
  · exact hn j hj x hx
  · rw [hl] at hx
    cases hx
    exact ⟨m, hm, h⟩
set_option maxRecDepth 100000 in
set_option maxHeartbeats 400000 in
theorem equal_lk (v u : Value) (xs ys : List Lk) (w : World) (h : SAt Lk.cells 8 w v xs) (h2 : SAt Lk.cells 8 w u ys) :
    Calls Try.prog 35 #[v, u] w fun e w' => e = .returned (.bool (eqLs xs ys)) ∧ Below w.heap.size w w' := by
  have hne := neq_lk
  have hlm := h.len
  have hlm2 := h2.len
  unfold maxLen at hlm hlm2
  obtain ⟨A, c, rfl⟩ := h.slice
  obtain ⟨A2, c2, rfl⟩ := h2.slice
  have H := Lib.hid h
  have H2 := Lib.hid h2
  clear h h2
  by_cases hl : xs.length = ys.length
  · generalize hR : eqLs xs ys = R
    have HR := Lib.hid hR
    have hlz : ((xs.length : Nat) : Int) = ((ys.length : Nat) : Int) := by omega
    clear hR
    go_enter Try.func35, Try.ntmps35
    go_wp2_with fail
    go_loopg [13] (xs.length + 1) (fun gg s13 wr => ∃ k : Nat, k ≤ xs.length ∧ xs.length - k ≤ gg ∧ s13 = .int .i64 k ∧ Aside (∀ j, j < k → ∀ m, xs[j]? = some m → ∃ y, ys[j]? = some y ∧ sameLk m y = true) ∧ Aside (Below w.heap.size w wr))
    case atStart => exact ⟨0, by omega, by omega, rfl, fun j hj => absurd hj (Nat.not_lt_zero _), Below.refl _ _⟩
    case round =>
      obtain ⟨k, hk, hgg, rfl, HN, HB⟩ := hrel
      by_cases hlt : k < xs.length
      · have hlt2 : k < ys.length := by omega
        have hltz : (k : Int) < (ys.length : Int) := by omega
        have hltz2 : (k : Int) < (xs.length : Int) := by omega
        have hgk : xs[k]? = some xs[k] := List.getElem?_eq_getElem hlt
        have hgy : ys[k]? = some ys[k] := List.getElem?_eq_getElem hlt2
        generalize xs[k] = l at hgk
        generalize ys[k] = m at hgy
        rcases H.out.below HB.out with ⟨h1, h2⟩ | ⟨b, o, c', h1, _, _, hrow⟩
        · subst h2; simp at hlt
        · rcases H2.out.below HB.out with ⟨h3, h4⟩ | ⟨b2, o2, c2', h3, _, _, hrow2⟩
          · subst h4; simp at hlt2
          · simp only [Value.slice.injEq] at h1 h3
            obtain ⟨rfl, -, rfl⟩ := h1
            obtain ⟨rfl, -, rfl⟩ := h3
            obtain ⟨c0, c1, c2, c3, c4, c5, c6, c7⟩ := LkAt.ofRow hrow hgk
            obtain ⟨d0, d1, d2, d3, d4, d5, d6, d7⟩ := LkAt.ofRow hrow2 hgy
            have HK := Lib.hid hgk
            have HY := Lib.hid hgy
            have hn := hne l m
            unfold Lk.val at hn
            clear hrow hrow2 hgk hgy hne
            cases hq : sameLk l m with
            | true =>
              rw [hq] at hn
              have HQ := Lib.hid hq
              clear hq
              go_wp2_with fail
              go_quiet (fail)
              go_wp2_with fail
              go_roundg (xs.length - (k + 1))
              case measure => omega
              case rel => exact ⟨k + 1, by omega, by omega, by go_num, past_same HN.out HK.out HY.out HQ.out, bl_drewN HB.out _⟩
            | false =>
              rw [hq] at hn
              have HQ := Lib.hid hq
              clear hq
              go_wp2_with fail
              go_quiet (fail)
              go_wp2_with fail
              go_ret
              exact ⟨by rw [← HR.out, eqLs_no HK.out HY.out HQ.out]; rfl, bl_drewN HB.out _⟩
      · obtain rfl : k = xs.length := by omega
        have hltz : ¬ ((xs.length : Nat) : Int) < ((ys.length : Nat) : Int) := by omega
        go_wp2_with fail
        go_ret
        exact ⟨by rw [← HR.out, eqLs_yes hl fun j x hj => HN.out j (List.getElem?_eq_some_iff.1 hj).1 x hj]; rfl, HB.out⟩
  · rw [eqLs_len hl]
    have hlz : ¬ ((xs.length : Nat) : Int) = ((ys.length : Nat) : Int) := by omega
    have hlb : (((xs.length : Nat) : Int) == ((ys.length : Nat) : Int)) = false := beq_eq_false_iff_ne.2 hlz
    go_enter Try.func35, Try.ntmps35
    go_wp2_with fail
    go_ret
    exact ⟨rfl, Below.refl _ _⟩
set_option maxRecDepth 100000 in
set_option maxHeartbeats 400000 in
/-- Same of two maps of as many nodes. -/
theorem same_any (q q2 : Nat) (nodes : Int) (ls l2 : List Lk) (w : World) (h : TMap w q nodes ls) (h2 : TMap w q2 nodes l2) :
    Calls Try.prog 19 #[.pointer (some ⟨q, 0, none⟩), .pointer (some ⟨q2, 0, none⟩)] w fun e w' => e = .returned (.bool (eqLs ls l2)) ∧ Below w.heap.size w w' := by
  have HM := Lib.hid h
  have HM2 := Lib.hid h2
  obtain ⟨v, r, h0, h1, hr, hs, -⟩ := h
  obtain ⟨v2, r2, g0, g1, gr, gs, -⟩ := h2
  have HC := Lib.hid hr
  have HC2 := Lib.hid gr
  obtain ⟨A, c, rfl⟩ := hs.slice
  obtain ⟨A2, c2, rfl⟩ := gs.slice
  have HS := Lib.hid hs
  have GS := Lib.hid gs
  have HX : Hid (∀ W, Below w.heap.size w W → (fun w' => w'.cell? ⟨q, 0, none⟩ = some (.int .i64 nodes) ∧ w'.cell? ⟨q, 1, none⟩ = some (.slice A ls.length c) ∧ w'.cell? ⟨q2, 0, none⟩ = some (.int .i64 nodes) ∧ w'.cell? ⟨q2, 1, none⟩ = some (.slice A2 l2.length c2)) W) := Lib.hid fun W hW => ⟨bl_cell hW h0, bl_cell hW h1, bl_cell hW g0, bl_cell hW g1⟩
  clear hs gs hr gr
  go_enter Try.func19, Try.ntmps19
  go_upto_region 3 with (go_at_call 33; first | ((with_reducible refine (none_no q r _ HC.out).mono ?_); rintro e w' ⟨rfl, rfl⟩) | ((with_reducible refine (none_no q2 r2 _ HC2.out).mono ?_); rintro e w' ⟨rfl, rfl⟩))
  first
  | go_region_held3 (fun w' => w'.cell? ⟨q, 0, none⟩ = some (.int .i64 nodes) ∧ w'.cell? ⟨q, 1, none⟩ = some (.slice A ls.length c) ∧ w'.cell? ⟨q2, 0, none⟩ = some (.int .i64 nodes) ∧ w'.cell? ⟨q2, 1, none⟩ = some (.slice A2 l2.length c2))
      (exact HX.out _ (by repeat (first | exact Below.refl _ _ | refine bl_drew ?_ | refine bl_drewN ?_ _ | refine bl_alloc ?_ _ | (refine bl_then ?_ hb; clear hb))))
      ((go_at_call 35; refine (equal_lk _ _ ls l2 _ (HS.out.below (by repeat (first | exact Below.refl _ _ | refine bl_drew ?_ | refine bl_drewN ?_ _))) (GS.out.below (by repeat (first | exact Below.refl _ _ | refine bl_drew ?_ | refine bl_drewN ?_ _)))).mono ?_; rintro e w' ⟨rfl, hb⟩))
  | fail "held3"
  all_goals
    go_wp2_with fail
    go_ret
    exact ⟨rfl, by repeat (first | exact Below.refl _ _ | refine bl_drew ?_ | refine bl_drewN ?_ _ | (refine bl_then ?_ hb; clear hb))⟩
set_option maxHeartbeats 400000 in
/-- Same of a map and of none. -/
theorem same_half (q : Nat) (nodes : Int) (ls : List Lk) (w : World) (h : TMap w q nodes ls) :
    Calls Try.prog 19 #[.pointer (some ⟨q, 0, none⟩), .pointer none] w fun e w' => e = .returned (.bool false) ∧ w = w' := by
  obtain ⟨v, r, h0, h1, hr, hs, -⟩ := h
  have HC := Lib.hid hr
  clear h0 h1 hr hs
  go_enter Try.func19, Try.ntmps19
  go_wp2_with (go_at_call 33; first | ((with_reducible refine (none_no q r _ HC.out).mono ?_); rintro e w' ⟨rfl, rfl⟩) | ((with_reducible refine (none_nil _).mono ?_); rintro e w' ⟨rfl, rfl⟩))
  go_ret
  exact ⟨rfl, rfl⟩
set_option maxRecDepth 100000 in
set_option maxHeartbeats 400000 in
/-- A copy of a map is another one of the same. -/
theorem copy_any (q : Nat) (nodes : Int) (ls : List Lk) (w : World) (h : TMap w q nodes ls) (hne : newErr nodes ls = 0) :
    Calls Try.prog 20 #[.pointer (some ⟨q, 0, none⟩)] w fun e w' => ∃ q2, e = .returned (.pointer (some ⟨q2, 0, none⟩)) ∧ TMap w' q2 nodes ls ∧ Below w.heap.size w w' := by
  have hlen := (newErr_zero hne).2.2.1
  obtain ⟨v, r, h0, h1, hr, hs, -⟩ := h
  have HC := Lib.hid hr
  obtain ⟨A, c, rfl⟩ := hs.slice
  have HS := Lib.hid hs
  have HNE := Lib.hid hne
  have HX : Hid (∀ W, Below w.heap.size w W → (fun w' => w'.cell? ⟨q, 0, none⟩ = some (.int .i64 nodes) ∧ w'.cell? ⟨q, 1, none⟩ = some (.slice A ls.length c)) W) := Lib.hid fun W hW => ⟨bl_cell hW h0, bl_cell hW h1⟩
  clear hs hr hne
  go_enter Try.func20, Try.ntmps20
  go_upto_region 3 with (go_at_call 33; refine (none_no q r _ HC.out).mono ?_; rintro e w' ⟨rfl, rfl⟩)
  first
  | go_region_held3 (fun w' => w'.cell? ⟨q, 0, none⟩ = some (.int .i64 nodes) ∧ w'.cell? ⟨q, 1, none⟩ = some (.slice A ls.length c))
      (exact HX.out _ (by repeat (first | exact Below.refl _ _ | refine bl_drew ?_ | refine bl_drewN ?_ _ | refine bl_alloc ?_ _ | (refine bl_then ?_ hb; clear hb))))
      ((go_at_call 11; refine (new_any nodes _ ls _ (HS.out.below (by repeat (first | exact Below.refl _ _ | refine bl_drew ?_ | refine bl_drewN ?_ _))) (by omega)).mono ?_; rintro e w' (⟨-, q2, rfl, hm, hb⟩ | ⟨hx, -⟩); rotate_left; (· exact absurd HNE.out hx)))
  | fail "held3"
  all_goals
    go_wp2_with fail
    go_ret
    exact ⟨_, rfl, hm.below (by repeat (first | exact Below.refl _ _ | refine bl_drew ?_ | refine bl_drewN ?_ _)), by repeat (first | exact Below.refl _ _ | refine bl_drew ?_ | refine bl_drewN ?_ _ | (refine bl_then ?_ hb; clear hb))⟩
end Go.Proofs.Ytfifmkjidljeeaa
