/- Topo: the document's New. -/
import Derived.Test.YtfifmkjidljeeaaTopoL
namespace Go.Proofs.Ytfifmkjidljeeaa
open Go.RowKit Go.Shelf
set_option linter.unusedVariables false
set_option linter.unusedSimpArgs false
theorem posI_of {ls : List Lk} (ha : Apart ls) {m : Nat} {l : Lk} (hl : ls[m]? = some l) : posI ls l.a l.b = (m : Nat) := by
  unfold posI
  rw [pos_of ha hl]
theorem apart_of_posI {ls : List Lk} (h : ∀ (j : Nat) l, ls[j]? = some l → posI ls l.a l.b = (j : Nat)) : Apart ls := by
  unfold Apart
  rw [List.pairwise_iff_getElem]
  intro i j hi hj hij hk
  have h1 := h i _ (List.getElem?_eq_getElem hi)
  have h2 := h j _ (List.getElem?_eq_getElem hj)
  rw [hk.1, hk.2, h2] at h1
  omega
theorem posI_nonneg {ls : List Lk} {x y : Int} : 0 ≤ posI ls x y ↔ (btw ls x y).isSome = true := by
  rw [btw_pos, Option.isSome_map]
  unfold posI
  cases pos ls x y <;> simp
theorem newErr_two {nodes : Int} {ls : List Lk} (h : wi nodes 1 16 = false ∨ ∃ l ∈ ls, okLink l nodes = false) : newErr nodes ls = 2 := by
  unfold newErr
  rw [if_pos]
  rcases h with h | ⟨l, hl, h⟩
  · simp [h]
  · rw [Bool.or_eq_true]
    exact Or.inr (List.any_eq_true.2 ⟨l, hl, by simp [h]⟩)
theorem newErr_three {nodes : Int} {ls : List Lk} (h1 : wi nodes 1 16 = true) (h2 : ∀ l ∈ ls, okLink l nodes = true) (h3 : 48 < ls.length) : newErr nodes ls = 3 := by
  unfold newErr
  rw [if_neg, if_pos h3]
  rw [h1, Bool.or_eq_true]
  rintro (h | h)
  · cases h
  · obtain ⟨l, hl, h⟩ := List.any_eq_true.1 h
    rw [h2 l hl] at h
    cases h
theorem bad_none {nodes : Int} {ls : List Lk} (h2 : ∀ l ∈ ls, okLink l nodes = true) : (ls.any fun l => !okLink l nodes) = false := by
  rw [List.any_eq_false]
  intro l hl
  simp [h2 l hl]
theorem newErr_190 {nodes : Int} {ls : List Lk} (h1 : wi nodes 1 16 = true) (h2 : ∀ l ∈ ls, okLink l nodes = true) (h3 : ls.length ≤ 48) {j : Nat} {l : Lk} (hl : ls[j]? = some l) (h : posI ls l.a l.b ≠ (j : Nat)) : newErr nodes ls = 190 := by
  have hd : dupB ls = true := by
    cases hd : dupB ls with
    | true => rfl
    | false => exact absurd (posI_of (dup_iff.1 hd) hl) h
  unfold newErr
  rw [h1, bad_none h2, hd]
  rw [if_neg (by decide), if_neg (by omega), if_pos rfl]
theorem newErr_191 {nodes : Int} {ls : List Lk} (h1 : wi nodes 1 16 = true) (h2 : ∀ l ∈ ls, okLink l nodes = true) (h3 : ls.length ≤ 48) (h4 : ∀ (j : Nat) l, ls[j]? = some l → posI ls l.a l.b = (j : Nat)) {j : Nat} {l : Lk} (hl : ls[j]? = some l) (h : posI ls l.b l.a < 0) : newErr nodes ls = 191 := by
  have hd : dupB ls = false := dup_iff.2 (apart_of_posI h4)
  have hb : backB ls = false := by
    unfold backB
    rw [List.all_eq_false]
    refine ⟨l, List.mem_of_getElem? hl, fun hh => ?_⟩
    have := posI_nonneg.2 hh
    omega
  unfold newErr
  rw [h1, bad_none h2, hd, hb]
  rw [if_neg (by decide), if_neg (by omega), if_neg (by decide), if_pos rfl]
theorem newErr_0 {nodes : Int} {ls : List Lk} (h1 : wi nodes 1 16 = true) (h2 : ∀ l ∈ ls, okLink l nodes = true) (h3 : ls.length ≤ 48) (h4 : ∀ (j : Nat) l, ls[j]? = some l → posI ls l.a l.b = (j : Nat)) (h5 : ∀ (j : Nat) l, ls[j]? = some l → 0 ≤ posI ls l.b l.a) : newErr nodes ls = 0 :=
  newErr_ok h1 (bad_none h2) h3 (dup_iff.2 (apart_of_posI h4)) fun i l hi => posI_nonneg.1 (h5 i l hi)
theorem past_ix {ls : List Lk} {P : Nat → Lk → Prop} {k : Nat} {l : Lk} (hn : ∀ j, j < k → ∀ m, ls[j]? = some m → P j m) (hl : ls[k]? = some l) (h : P k l) : ∀ j, j < k + 1 → ∀ m, ls[j]? = some m → P j m := by
  intro j hj m hm
  rcases Nat.lt_succ_iff_lt_or_eq.1 hj with hj | rfl
  · exact hn j hj m hm
  · rw [hl] at hm
    cases hm
    exact h
/-- What the document's New tells. -/
def RNew (nodes : Int) (v : Value) (ls : List Lk) (e : Ending) : Prop :=
  (newErr nodes ls = 0 ∧ e = .returned (.tuple #[.agg #[.int .i64 nodes, v], .int .i64 0])) ∨ (newErr nodes ls ≠ 0 ∧ e = .returned (.tuple #[.agg #[.int .i64 0, .slice none 0 0], .int .i64 (newErr nodes ls)]))
/-- The way out, where the result has been stored. -/
theorem ret_map {X : World} {b : Nat} {a0 a1 n v : Value} {e : Int} {R : Ending → World → Prop} {tmps : Array Value} (y0 : X.cell? ⟨b, 0, none⟩ = some a0) (y1 : X.cell? ⟨b, 1, none⟩ = some a1) (h1 : tmps[4]?.getD undef = .pointer (some ⟨b, 0, none⟩)) (h2 : tmps[5]?.getD undef = .int .i64 e)
    (h : R (.returned (.tuple #[.agg #[n, v], .int .i64 e])) ((X.setCell ⟨b, 0, none⟩ n).setCell ⟨b, 1, none⟩ v)) :
    bodyPost Try.prog Try.f15 R .ret { tmps := tmps, defers := [] } ((X.setCell ⟨b, 0, none⟩ n).setCell ⟨b, 1, none⟩ v) := by
  have k0 : ((X.setCell ⟨b, 0, none⟩ n).setCell ⟨b, 1, none⟩ v).cell? ⟨b, 0, none⟩ = some n := by go_simp
  have k1 : ((X.setCell ⟨b, 0, none⟩ n).setCell ⟨b, 1, none⟩ v).cell? ⟨b, 1, none⟩ = some v := by go_simp
  exact bodyPost_ret (v := .tuple #[.agg #[n, v], .int .i64 e]) (by simp [results, Try.results15, go_sem, k0, k1, h1, h2]) rfl h
set_option maxRecDepth 100000 in
set_option maxHeartbeats 1000000 in
theorem rnew_any (nodes : Int) (v : Value) (ls : List Lk) (w : World) (h : SAt Lk.cells 8 w v ls) (hl60 : ls.length ≤ 60) :
    Calls Try.prog 15 #[.int .i64 nodes, v] w fun e w' => RNew nodes v ls e ∧ Below w.heap.size w w' := by
  obtain ⟨A, c, rfl⟩ := h.slice
  have H := Lib.hid h
  obtain ⟨R, hR⟩ : ∃ R : Ending → World → Prop, R = fun e w' => RNew nodes (.slice A ls.length c) ls e ∧ Below w.heap.size w w' := ⟨_, rfl⟩
  rw [← hR]
  have HR := Lib.hid hR
  clear h hR
  by_cases hn : 1 ≤ nodes ∧ nodes ≤ 16
  · obtain ⟨hn1, hn2⟩ := hn
    have hwi : wi nodes 1 16 = true := by simp [wi]; omega
    have HWI := Lib.hid hwi
    clear hwi
    go_enter Try.func15, Try.ntmps15
    go_wp2_with fail
    have ga0 : ((w.alloc (.cells #[.int .i64 0, .slice none 0 0] 40)).alloc (.cells #[.int .i64 nodes, .slice A ls.length c] 40)).cell? ⟨w.heap.size, 0, none⟩ = some (.int .i64 0) := by go_simp
    have ga1 : ((w.alloc (.cells #[.int .i64 0, .slice none 0 0] 40)).alloc (.cells #[.int .i64 nodes, .slice A ls.length c] 40)).cell? ⟨w.heap.size, 1, none⟩ = some (.slice none 0 0) := by go_simp
    have ga2 : ((w.alloc (.cells #[.int .i64 0, .slice none 0 0] 40)).alloc (.cells #[.int .i64 nodes, .slice A ls.length c] 40)).frozen? ⟨w.heap.size, 0, none⟩ = false := by go_simp
    have ga3 : ((w.alloc (.cells #[.int .i64 0, .slice none 0 0] 40)).alloc (.cells #[.int .i64 nodes, .slice A ls.length c] 40)).frozen? ⟨w.heap.size, 1, none⟩ = false := by go_simp
    have ga4 : ((w.alloc (.cells #[.int .i64 0, .slice none 0 0] 40)).alloc (.cells #[.int .i64 nodes, .slice A ls.length c] 40)).cell? ⟨w.heap.size + 1, 0, none⟩ = some (.int .i64 nodes) := by go_simp
    have ga5 : ((w.alloc (.cells #[.int .i64 0, .slice none 0 0] 40)).alloc (.cells #[.int .i64 nodes, .slice A ls.length c] 40)).cell? ⟨w.heap.size + 1, 1, none⟩ = some (.slice A ls.length c) := by go_simp
    generalize hW0 : (w.alloc (.cells #[.int .i64 0, .slice none 0 0] 40)).alloc (.cells #[.int .i64 nodes, .slice A ls.length c] 40) = W0 at ga0 ga1 ga2 ga3 ga4 ga5 ⊢
    have hW0b : Below w.heap.size w W0 := hW0 ▸ bl_alloc (bl_alloc (Below.refl _ _) _) _
    have hW0s : W0.heap.size = w.heap.size + 2 := by rw [← hW0]; simp
    have HX : Hid (∀ X, Below W0.heap.size W0 X → (X.cell? ⟨w.heap.size, 0, none⟩ = some (.int .i64 0) ∧ X.cell? ⟨w.heap.size, 1, none⟩ = some (.slice none 0 0) ∧ X.frozen? ⟨w.heap.size, 0, none⟩ = false ∧ X.frozen? ⟨w.heap.size, 1, none⟩ = false) ∧
        (X.cell? ⟨w.heap.size + 1, 0, none⟩ = some (.int .i64 nodes) ∧ X.cell? ⟨w.heap.size + 1, 1, none⟩ = some (.slice A ls.length c)) ∧ SAt Lk.cells 8 X (.slice A ls.length c) ls ∧ Below w.heap.size w X) :=
      Lib.hid fun X hX => ⟨⟨bl_cell hX ga0, bl_cell hX ga1, ((bl_cells hX).2 _ _ (by omega)).trans ga2, ((bl_cells hX).2 _ _ (by omega)).trans ga3⟩, ⟨bl_cell hX ga4, bl_cell hX ga5⟩, H.out.below (bl_then hW0b hX), bl_then hW0b hX⟩
    clear hW0 ga0 ga1 ga2 ga3 ga4 ga5 hW0b hW0s
    go_loopg [7] (ls.length + 1) (fun gg s7 wr => ∃ k : Nat, k ≤ ls.length ∧ ls.length - k ≤ gg ∧ s7 = .int .i64 k ∧ Aside (∀ j, j < k → ∀ m, ls[j]? = some m → okLink m nodes = true) ∧ Aside (Below W0.heap.size W0 wr))
    case atStart => exact ⟨0, by omega, by omega, rfl, fun j hj => absurd hj (Nat.not_lt_zero _), Below.refl _ _⟩
    case round =>
      obtain ⟨k, hk, hgg, rfl, HN, HB⟩ := hrel
      obtain ⟨⟨x0, x1, x2, x3⟩, ⟨x4, x5⟩, x6, x7⟩ := HX.out wr HB.out
      by_cases hlt : k < ls.length
      · have hltz : (k : Int) < (ls.length : Int) := by omega
        have hgk : ls[k]? = some ls[k] := List.getElem?_eq_getElem hlt
        generalize ls[k] = l at hgk
        rcases x6 with ⟨h1, h2⟩ | ⟨b, o, c', h1, _, _, hrow⟩
        · subst h2; simp at hlt
        · simp only [Value.slice.injEq] at h1
          obtain ⟨rfl, -, rfl⟩ := h1
          obtain ⟨c0, c1, c2, c3, c4, c5, c6, c7⟩ := LkAt.ofRow hrow hgk
          have HK := Lib.hid hgk
          have X7 := Lib.hid x7
          have hrt := right_any l nodes wr
          have hro := right_ok l nodes
          clear hrow hgk x7
          cases hq : rightB l nodes with
          | true =>
            rw [hq] at hrt hro
            have HRO := Lib.hid hro
            clear hq hro
            go_wp2_with (go_at_call 9; refine hrt.mono ?_; rintro e w2 ⟨rfl, hb2⟩)
            go_roundg (ls.length - (k + 1))
            case measure => omega
            case rel => exact ⟨k + 1, by omega, by omega, by go_num, past_one HN.out HK.out HRO.out, bl_then HB.out hb2⟩
          | false =>
            rw [hq] at hrt hro
            have HRO := Lib.hid hro
            clear hq hro
            go_wp2_with (go_at_call 9; refine hrt.mono ?_; rintro e w2 ⟨rfl, hb2⟩; obtain ⟨⟨y0, y1, y2, y3⟩, -, -, y7⟩ := HX.out w2 (bl_then HB.out hb2))
            exact ret_map y0 y1 rfl rfl (by rw [HR.out]; exact ⟨Or.inr (by rw [newErr_two (Or.inr ⟨l, List.mem_of_getElem? HK.out, HRO.out⟩)]; exact ⟨by decide, rfl⟩), bl_set (bl_set y7 (Nat.le_refl _) _) (Nat.le_refl _) _⟩)
      · obtain rfl : k = ls.length := by omega
        have hok : ∀ l ∈ ls, okLink l nodes = true := fun l hl => by
          obtain ⟨j, hj⟩ := List.getElem?_of_mem hl
          exact HN.out j (List.getElem?_eq_some_iff.1 hj).1 l hj
        have HOK := Lib.hid hok
        have X7 := Lib.hid x7
        clear hok x6 x7
        by_cases h48 : 48 < ls.length
        · have h48z : (48 : Int) < (ls.length : Int) := by omega
          go_wp2_with fail
          exact ret_map x0 x1 rfl rfl (by rw [HR.out]; exact ⟨Or.inr (by rw [newErr_three HWI.out HOK.out h48]; exact ⟨by decide, rfl⟩), bl_set (bl_set X7.out (Nat.le_refl _) _) (Nat.le_refl _) _⟩)
        · have h48z : (ls.length : Int) ≤ 48 := by omega
          have HBp := Lib.hid HB.out
          clear x0 x1 x2 x3 x4 x5 hlt
          go_wp2_with fail
          obtain ⟨wq, hwq⟩ : ∃ wq, wq = wr := ⟨_, rfl⟩
          subst hwq
          go_loopg [8] (ls.length + 1) (fun gg s8 wr => ∃ k : Nat, k ≤ ls.length ∧ ls.length - k ≤ gg ∧ s8 = .int .i64 k ∧ Aside (∀ j, j < k → ∀ m, ls[j]? = some m → posI ls m.a m.b = (j : Nat)) ∧ Aside (Below W0.heap.size W0 wr))
          case atStart => exact ⟨0, by omega, by omega, rfl, fun j hj => absurd hj (Nat.not_lt_zero _), HBp.out⟩
          case round =>
            obtain ⟨k, hk, hgg, rfl, HN, HB⟩ := hrel
            obtain ⟨⟨x0, x1, x2, x3⟩, ⟨x4, x5⟩, x6, x7⟩ := HX.out wr HB.out
            have X7 := Lib.hid x7
            clear x7
            by_cases hlt : k < ls.length
            · have hltz : (k : Int) < (ls.length : Int) := by omega
              have hgk : ls[k]? = some ls[k] := List.getElem?_eq_getElem hlt
              generalize ls[k] = l at hgk
              have HS6 := Lib.hid x6
              rcases x6 with ⟨h1, h2⟩ | ⟨b, o, c', h1, _, _, hrow⟩
              · subst h2; simp at hlt
              · simp only [Value.slice.injEq] at h1
                obtain ⟨rfl, -, rfl⟩ := h1
                obtain ⟨c0, c1, -⟩ := LkAt.ofRow hrow hgk
                have HK := Lib.hid hgk
                have hbt := fun X hX => rbtw_any nodes _ ls l.a l.b X (HS6.out.below (show Below wr.heap.size wr X from hX))
                have HSX : Hid (∀ X, Below wr.heap.size wr X → (fun w' => w'.cell? ⟨w.heap.size + 1, 0, none⟩ = some (.int .i64 nodes) ∧ w'.cell? ⟨w.heap.size + 1, 1, none⟩ = some (.slice (some ⟨b, o, none⟩) ls.length c) ∧ w'.cell? ⟨b, o + k * 8, none⟩ = some (.int .i64 l.a) ∧ w'.cell? ⟨b, o + k * 8 + 1, none⟩ = some (.int .i64 l.b)) X) := Lib.hid fun X hX => ⟨bl_cell hX x4, bl_cell hX x5, bl_cell hX c0, bl_cell hX c1⟩
                clear hrow hgk
                generalize hpq : posI ls l.a l.b = pq at hbt
                have HPQ := Lib.hid hpq
                clear hpq
                by_cases hq : pq = (k : Nat)
                · have hqb : (pq != (k : Int)) = false := by simp [hq]
                  have HQ := Lib.hid hq
                  clear hq
                  go_upto_region 14 with fail
                  first
                  | go_region_held3 (fun w' => w'.cell? ⟨w.heap.size + 1, 0, none⟩ = some (.int .i64 nodes) ∧ w'.cell? ⟨w.heap.size + 1, 1, none⟩ = some (.slice (some ⟨b, o, none⟩) ls.length c) ∧ w'.cell? ⟨b, o + k * 8, none⟩ = some (.int .i64 l.a) ∧ w'.cell? ⟨b, o + k * 8 + 1, none⟩ = some (.int .i64 l.b))
                      (exact HSX.out _ (by repeat (first | exact Below.refl _ _ | refine bl_drew ?_ | refine bl_drewN ?_ _ | refine bl_alloc ?_ _ | (refine bl_then ?_ hb; clear hb))))
                      ((go_at_call 17; refine (hbt _ (by repeat (first | exact Below.refl _ _ | refine bl_drew ?_ | refine bl_drewN ?_ _))).mono ?_; rintro e w' ⟨rfl, hb⟩))
                  | fail "held3"
                  all_goals
                    go_wp2_with fail
                    go_roundg (ls.length - (k + 1))
                    case measure => omega
                    case rel => exact ⟨k + 1, by omega, by omega, by go_num, past_ix HN.out HK.out (HPQ.out.trans HQ.out), bl_then HB.out (by repeat (first | exact Below.refl _ _ | refine bl_drew ?_ | refine bl_drewN ?_ _ | (refine bl_then ?_ hb; clear hb)))⟩
                · have hqb : (pq != (k : Int)) = true := by simp [hq]
                  have HQ := Lib.hid hq
                  clear hq
                  go_upto_region 14 with fail
                  first
                  | go_region_held3 (fun w' => w'.cell? ⟨w.heap.size + 1, 0, none⟩ = some (.int .i64 nodes) ∧ w'.cell? ⟨w.heap.size + 1, 1, none⟩ = some (.slice (some ⟨b, o, none⟩) ls.length c) ∧ w'.cell? ⟨b, o + k * 8, none⟩ = some (.int .i64 l.a) ∧ w'.cell? ⟨b, o + k * 8 + 1, none⟩ = some (.int .i64 l.b))
                      (exact HSX.out _ (by repeat (first | exact Below.refl _ _ | refine bl_drew ?_ | refine bl_drewN ?_ _ | refine bl_alloc ?_ _ | (refine bl_then ?_ hb; clear hb))))
                      ((go_at_call 17; refine (hbt _ (by repeat (first | exact Below.refl _ _ | refine bl_drew ?_ | refine bl_drewN ?_ _))).mono ?_; rintro e w' ⟨rfl, hb⟩))
                  | fail "held3"
                  all_goals
                    have hbF : Below W0.heap.size W0 w' := bl_then HB.out (by repeat (first | exact Below.refl _ _ | refine bl_drew ?_ | refine bl_drewN ?_ _ | (refine bl_then ?_ hb; clear hb)))
                  obtain ⟨⟨y0, y1, y2, y3⟩, -, -, y7⟩ := HX.out w' hbF
                  clear hbF
                  go_wp2_with fail
                  exact ret_map y0 y1 rfl rfl (by rw [HR.out]; exact ⟨Or.inr (by rw [newErr_190 HWI.out HOK.out (by omega) HK.out (by rw [HPQ.out]; exact HQ.out)]; exact ⟨by decide, rfl⟩), bl_set (bl_set y7 (Nat.le_refl _) _) (Nat.le_refl _) _⟩)
            · obtain rfl : k = ls.length := by omega
              have hix : ∀ (j : Nat) l, ls[j]? = some l → posI ls l.a l.b = (j : Nat) := fun j l hj => HN.out j (List.getElem?_eq_some_iff.1 hj).1 l hj
              have HIX := Lib.hid hix
              have HBq := Lib.hid HB.out
              clear hix x0 x1 x2 x3 x4 x5 x6 hlt
              go_wp2_with fail
              obtain ⟨wq, hwq⟩ : ∃ wq, wq = wr := ⟨_, rfl⟩
              subst hwq
              go_loopg [9] (ls.length + 1) (fun gg s9 wr => ∃ k : Nat, k ≤ ls.length ∧ ls.length - k ≤ gg ∧ s9 = .int .i64 k ∧ Aside (∀ j, j < k → ∀ m, ls[j]? = some m → 0 ≤ posI ls m.b m.a) ∧ Aside (Below W0.heap.size W0 wr))
              case atStart => exact ⟨0, by omega, by omega, rfl, fun j hj => absurd hj (Nat.not_lt_zero _), HBq.out⟩
              case round =>
                obtain ⟨k, hk, hgg, rfl, HN, HB⟩ := hrel
                obtain ⟨⟨x0, x1, x2, x3⟩, ⟨x4, x5⟩, x6, x7⟩ := HX.out wr HB.out
                have X7 := Lib.hid x7
                clear x7
                by_cases hlt : k < ls.length
                · have hltz : (k : Int) < (ls.length : Int) := by omega
                  have hgk : ls[k]? = some ls[k] := List.getElem?_eq_getElem hlt
                  generalize ls[k] = l at hgk
                  have HS6 := Lib.hid x6
                  rcases x6 with ⟨h1, h2⟩ | ⟨b, o, c', h1, _, _, hrow⟩
                  · subst h2; simp at hlt
                  · simp only [Value.slice.injEq] at h1
                    obtain ⟨rfl, -, rfl⟩ := h1
                    obtain ⟨c0, c1, -⟩ := LkAt.ofRow hrow hgk
                    have HK := Lib.hid hgk
                    have hbt := fun X hX => rbtw_any nodes _ ls l.b l.a X (HS6.out.below (show Below wr.heap.size wr X from hX))
                    have HSX : Hid (∀ X, Below wr.heap.size wr X → (fun w' => w'.cell? ⟨w.heap.size + 1, 0, none⟩ = some (.int .i64 nodes) ∧ w'.cell? ⟨w.heap.size + 1, 1, none⟩ = some (.slice (some ⟨b, o, none⟩) ls.length c) ∧ w'.cell? ⟨b, o + k * 8, none⟩ = some (.int .i64 l.a) ∧ w'.cell? ⟨b, o + k * 8 + 1, none⟩ = some (.int .i64 l.b)) X) := Lib.hid fun X hX => ⟨bl_cell hX x4, bl_cell hX x5, bl_cell hX c0, bl_cell hX c1⟩
                    clear hrow hgk
                    generalize hpq : posI ls l.b l.a = pq at hbt
                    have HPQ := Lib.hid hpq
                    clear hpq
                    by_cases hq : 0 ≤ pq
                    · have hqb : ¬ pq < 0 := by omega
                      have HQ := Lib.hid hq
                      clear hq
                      go_upto_region 19 with fail
                      first
                      | go_region_held3 (fun w' => w'.cell? ⟨w.heap.size + 1, 0, none⟩ = some (.int .i64 nodes) ∧ w'.cell? ⟨w.heap.size + 1, 1, none⟩ = some (.slice (some ⟨b, o, none⟩) ls.length c) ∧ w'.cell? ⟨b, o + k * 8, none⟩ = some (.int .i64 l.a) ∧ w'.cell? ⟨b, o + k * 8 + 1, none⟩ = some (.int .i64 l.b))
                          (exact HSX.out _ (by repeat (first | exact Below.refl _ _ | refine bl_drew ?_ | refine bl_drewN ?_ _ | refine bl_alloc ?_ _ | (refine bl_then ?_ hb; clear hb))))
                          ((go_at_call 17; refine (hbt _ (by repeat (first | exact Below.refl _ _ | refine bl_drew ?_ | refine bl_drewN ?_ _))).mono ?_; rintro e w' ⟨rfl, hb⟩))
                      | fail "held3"
                      all_goals
                        go_wp2_with fail
                        go_roundg (ls.length - (k + 1))
                        case measure => omega
                        case rel => exact ⟨k + 1, by omega, by omega, by go_num, past_one HN.out HK.out (show 0 ≤ posI ls l.b l.a from by rw [HPQ.out]; exact HQ.out), bl_then HB.out (by repeat (first | exact Below.refl _ _ | refine bl_drew ?_ | refine bl_drewN ?_ _ | (refine bl_then ?_ hb; clear hb)))⟩
                    · have hqb : pq < 0 := by omega
                      have HQ := Lib.hid hq
                      clear hq
                      go_upto_region 19 with fail
                      first
                      | go_region_held3 (fun w' => w'.cell? ⟨w.heap.size + 1, 0, none⟩ = some (.int .i64 nodes) ∧ w'.cell? ⟨w.heap.size + 1, 1, none⟩ = some (.slice (some ⟨b, o, none⟩) ls.length c) ∧ w'.cell? ⟨b, o + k * 8, none⟩ = some (.int .i64 l.a) ∧ w'.cell? ⟨b, o + k * 8 + 1, none⟩ = some (.int .i64 l.b))
                          (exact HSX.out _ (by repeat (first | exact Below.refl _ _ | refine bl_drew ?_ | refine bl_drewN ?_ _ | refine bl_alloc ?_ _ | (refine bl_then ?_ hb; clear hb))))
                          ((go_at_call 17; refine (hbt _ (by repeat (first | exact Below.refl _ _ | refine bl_drew ?_ | refine bl_drewN ?_ _))).mono ?_; rintro e w' ⟨rfl, hb⟩))
                      | fail "held3"
                      all_goals
                            have hbF : Below W0.heap.size W0 w' := bl_then HB.out (by repeat (first | exact Below.refl _ _ | refine bl_drew ?_ | refine bl_drewN ?_ _ | (refine bl_then ?_ hb; clear hb)))
                      obtain ⟨⟨y0, y1, y2, y3⟩, -, -, y7⟩ := HX.out w' hbF
                      clear hbF
                      go_wp2_with fail
                      exact ret_map y0 y1 rfl rfl (by rw [HR.out]; exact ⟨Or.inr (by rw [newErr_191 HWI.out HOK.out (by omega) HIX.out HK.out (by rw [HPQ.out]; omega)]; exact ⟨by decide, rfl⟩), bl_set (bl_set y7 (Nat.le_refl _) _) (Nat.le_refl _) _⟩)
                · obtain rfl : k = ls.length := by omega
                  have hbk : ∀ (j : Nat) l, ls[j]? = some l → 0 ≤ posI ls l.b l.a := fun j l hj => HN.out j (List.getElem?_eq_some_iff.1 hj).1 l hj
                  have HBK := Lib.hid hbk
                  clear hbk x6 hlt
                  go_wp2_with fail
                  exact ret_map x0 x1 rfl rfl (by rw [HR.out]; exact ⟨Or.inl ⟨newErr_0 HWI.out HOK.out (by omega) HIX.out HBK.out, rfl⟩, bl_set (bl_set X7.out (Nat.le_refl _) _) (Nat.le_refl _) _⟩)
  · have hn3 : nodes < 1 ∨ 16 < nodes := by omega
    have hwi : newErr nodes ls = 2 := newErr_two (Or.inl (by simp [wi]; omega))
    have HWI := Lib.hid hwi
    clear hwi hn
    rcases hn3 with hn3 | hn3
    · go_enter Try.func15, Try.ntmps15
      go_wp2_with fail
      exact bodyPost_ret (v := .tuple #[.agg #[.int .i64 0, .slice none 0 0], .int .i64 2]) (by simp [results, Try.results15, go_sem]) rfl (by rw [HR.out]; exact ⟨Or.inr (by rw [HWI.out]; exact ⟨by decide, rfl⟩), bl_alloc (bl_alloc (Below.refl _ _) _) _⟩)
    · have hn4 : ¬ nodes < 1 := by omega
      go_enter Try.func15, Try.ntmps15
      go_wp2_with fail
      exact bodyPost_ret (v := .tuple #[.agg #[.int .i64 0, .slice none 0 0], .int .i64 2]) (by simp [results, Try.results15, go_sem]) rfl (by rw [HR.out]; exact ⟨Or.inr (by rw [HWI.out]; exact ⟨by decide, rfl⟩), bl_alloc (bl_alloc (Below.refl _ _) _) _⟩)
end Go.Proofs.Ytfifmkjidljeeaa
