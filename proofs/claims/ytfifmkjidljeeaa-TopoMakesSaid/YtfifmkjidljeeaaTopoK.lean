/- Topo: the document's Between and Out. -/
import Derived.Test.YtfifmkjidljeeaaTopoR
namespace Go.Proofs.Ytfifmkjidljeeaa
open Go.RowKit Go.Shelf
set_option linter.unusedVariables false
set_option linter.unusedSimpArgs false
/-- The number of the link between two nodes, or -1. -/
def posI (ls : List Lk) (x y : Int) : Int := match pos ls x y with
  | some k => (k : Nat)
  | none => -1
theorem posI_some {ls : List Lk} {x y : Int} {k : Nat} {l : Lk} (hl : ls[k]? = some l) (h1 : l.a = x) (h2 : l.b = y) (hn : ∀ j, j < k → ∀ m, ls[j]? = some m → ¬ (m.a = x ∧ m.b = y)) : posI ls x y = (k : Nat) := by
  obtain ⟨hk, rfl⟩ := List.getElem?_eq_some_iff.1 hl
  have : pos ls x y = some k := by
    unfold pos
    refine List.findIdx?_eq_some_iff_getElem.2 ⟨hk, by simp [h1, h2], fun j hj => ?_⟩
    have := hn j hj _ (List.getElem?_eq_getElem (by omega))
    simp only [Bool.not_eq_true, Bool.and_eq_false_iff, beq_eq_false_iff_ne]
    by_cases h3 : ls[j].a = x
    · exact Or.inr fun h4 => this ⟨h3, h4⟩
    · exact Or.inl h3
  unfold posI
  rw [this]
theorem posI_none {ls : List Lk} {x y : Int} (hn : ∀ (j : Nat) m, ls[j]? = some m → ¬ (m.a = x ∧ m.b = y)) : posI ls x y = -1 := by
  have : pos ls x y = none := by
    unfold pos
    rw [List.findIdx?_eq_none_iff]
    intro m hm
    obtain ⟨j, hj, rfl⟩ := List.getElem_of_mem hm
    have := hn j _ (List.getElem?_eq_getElem hj)
    simp only [Bool.and_eq_false_iff, beq_eq_false_iff_ne]
    by_cases h3 : ls[j].a = x
    · exact Or.inr fun h4 => this ⟨h3, h4⟩
    · exact Or.inl h3
  unfold posI
  rw [this]
theorem past_one {ls : List Lk} {P : Lk → Prop} {k : Nat} {l : Lk} (hn : ∀ j, j < k → ∀ m, ls[j]? = some m → P m) (hl : ls[k]? = some l) (h : P l) : ∀ j, j < k + 1 → ∀ m, ls[j]? = some m → P m := by
  intro j hj m hm
  rcases Nat.lt_succ_iff_lt_or_eq.1 hj with hj | rfl
  · exact hn j hj m hm
  · rw [hl] at hm
    cases hm
    exact h
set_option maxRecDepth 100000 in
set_option maxHeartbeats 400000 in
theorem rbtw_any (nodes : Int) (v : Value) (ls : List Lk) (x y : Int) (w : World) (h : SAt Lk.cells 8 w v ls) :
    Calls Try.prog 17 #[.agg #[.int .i64 nodes, v], .int .i64 x, .int .i64 y] w fun e w' => e = .returned (.int .i64 (posI ls x y)) ∧ Below w.heap.size w w' := by
  obtain ⟨A, c, rfl⟩ := h.slice
  have hlm := h.len
  unfold maxLen at hlm
  have H := Lib.hid h
  generalize hR : posI ls x y = R
  have HR := Lib.hid hR
  clear h hR
  go_enter Try.func17, Try.ntmps17
  go_wp2_with fail
  go_loopg [7] (ls.length + 1) (fun gg s7 wr => ∃ k : Nat, k ≤ ls.length ∧ ls.length - k ≤ gg ∧ s7 = .int .i64 k ∧ Aside (∀ j, j < k → ∀ m, ls[j]? = some m → ¬ (m.a = x ∧ m.b = y)) ∧ (w.alloc (.cells #[.int .i64 nodes, .slice A ls.length c] 40)) = wr)
  case atStart => exact ⟨0, by omega, by omega, rfl, fun j hj => absurd hj (Nat.not_lt_zero _), rfl⟩
  case round =>
    obtain ⟨k, hk, hgg, rfl, HN, rfl⟩ := hrel
    by_cases hlt : k < ls.length
    · have hltz : (k : Int) < (ls.length : Int) := by omega
      have hgk : ls[k]? = some ls[k] := List.getElem?_eq_getElem hlt
      generalize ls[k] = l at hgk
      rcases H.out with ⟨h1, h2⟩ | ⟨b, o, c', h1, _, _, hrow⟩
      · subst h2; simp at hlt
      · simp only [Value.slice.injEq] at h1
        obtain ⟨rfl, -, rfl⟩ := h1
        obtain ⟨c0, c1, -⟩ := LkAt.ofRow hrow hgk
        have hbs : b < w.heap.size := World.block_lt_of_cell? w ⟨b, o + k * 8, none⟩ c0
        have HK := Lib.hid hgk
        clear hrow hgk
        by_cases h1 : l.a = x ∧ l.b = y
        · obtain ⟨e1, e2⟩ := h1
          have b1 : (l.a == x) = true := by simp [e1]
          have b2 : (l.b == y) = true := by simp [e2]
          have HE := Lib.hid (And.intro e1 e2)
          clear e1 e2
          go_wp2_with fail
          go_ret
          exact ⟨by rw [← HR.out, posI_some HK.out HE.out.1 HE.out.2 HN.out]; rfl, bl_alloc (Below.refl _ _) _⟩
        · have HE := Lib.hid h1
          by_cases e1 : l.a = x
          · have b1 : (l.a == x) = true := by simp [e1]
            have b2 : (l.b == y) = false := by simp; exact fun e2 => h1 ⟨e1, e2⟩
            clear h1 e1
            go_wp2_with fail
            go_roundg (ls.length - (k + 1))
            case measure => omega
            case rel => exact ⟨k + 1, by omega, by omega, by go_num, past_one HN.out HK.out HE.out, rfl⟩
          · have b1 : (l.a == x) = false := by simp [e1]
            clear h1 e1
            go_wp2_with fail
            go_roundg (ls.length - (k + 1))
            case measure => omega
            case rel => exact ⟨k + 1, by omega, by omega, by go_num, past_one HN.out HK.out HE.out, rfl⟩
    · obtain rfl : k = ls.length := by omega
      have hltz : ¬ ((ls.length : Nat) : Int) < ((ls.length : Nat) : Int) := by omega
      go_wp2_with fail
      go_ret
      exact ⟨by rw [← HR.out, posI_none fun j m hm => HN.out j (List.getElem?_eq_some_iff.1 hm).1 m hm]; rfl, bl_alloc (Below.refl _ _) _⟩
theorem own_lies {w w' : World} {base : Nat} {e : TypeId} {k n : Nat} {v : Value} {cs : List Value} (h : w.ownsRow base e k v n cs) (hb : Below w.heap.size w w') : w'.ownsRow base e k v n cs :=
  h.kept (row := none) ⟨hb.os, hb.tape, hb.output, hb.size, fun j hj _ => hb.block j hj⟩ (by cases hv : v.ownBlock <;> simp)
theorem outL_succ (ls : List Lk) (node : Int) (k : Nat) : outL (k + 1) ls node = outL k ls node ++ (pos ls node (k : Int)).toList := by
  unfold outL
  rw [List.range_succ, List.filterMap_append]
  cases h : pos ls node (k : Int) <;> simp [List.filterMap_cons, h]
theorem outL_len (ls : List Lk) (node : Int) (k : Nat) : (outL k ls node).length ≤ k := by
  unfold outL
  exact Nat.le_trans (List.length_filterMap_le _ _) (by simp)
set_option maxRecDepth 100000 in
set_option maxHeartbeats 400000 in
/-- The document's Out. -/
theorem rout_any (nodes : Nat) (v : Value) (ls : List Lk) (node : Int) (w : World) (h : SAt Lk.cells 8 w v ls) (hnd : nodes ≤ 1000) :
    Calls Try.prog 21 #[.agg #[.int .i64 nodes, v], .int .i64 node] w fun e w' => (∃ v', e = .returned v' ∧ SAt cI 1 w' v' (outL nodes ls node)) ∧ Below w.heap.size w w' := by
  obtain ⟨A, c, rfl⟩ := h.slice
  have H := Lib.hid h
  obtain ⟨R, hR⟩ : ∃ R : Ending → World → Prop, R = fun e w' => (∃ v', e = .returned v' ∧ SAt cI 1 w' v' (outL nodes ls node)) ∧ Below w.heap.size w w' := ⟨_, rfl⟩
  rw [← hR]
  have HR := Lib.hid hR
  clear h hR
  go_enter Try.func21, Try.ntmps21
  go_wp2_with fail
  have ga0 : (w.alloc (.cells #[.int .i64 nodes, .slice A ls.length c] 40)).cell? ⟨w.heap.size, 0, none⟩ = some (.int .i64 nodes) := by go_simp
  have ga1 : (w.alloc (.cells #[.int .i64 nodes, .slice A ls.length c] 40)).cell? ⟨w.heap.size, 1, none⟩ = some (.slice A ls.length c) := by go_simp
  generalize hW0 : w.alloc (.cells #[.int .i64 nodes, .slice A ls.length c] 40) = W0 at ga0 ga1 ⊢
  have hW0b : Below w.heap.size w W0 := hW0 ▸ bl_alloc (Below.refl _ _) _
  have HX : Hid (∀ X, Below W0.heap.size W0 X → X.cell? ⟨w.heap.size, 0, none⟩ = some (.int .i64 nodes) ∧ X.cell? ⟨w.heap.size, 1, none⟩ = some (.slice A ls.length c) ∧ SAt Lk.cells 8 X (.slice A ls.length c) ls) :=
    Lib.hid fun X hX => ⟨bl_cell hX ga0, bl_cell hX ga1, H.out.below (bl_then hW0b hX)⟩
  have HB0 := Lib.hid hW0b
  clear hW0 ga0 ga1 hW0b
  go_loopg [5, 6, 7] (nodes + 1) (fun gg s5 s6 s7 wr => ∃ k : Nat, k ≤ nodes ∧ nodes - k ≤ gg ∧ s6 = .int .i64 k ∧ Aside (wr.ownsRow W0.heap.size 3 1 s5 (outL k ls node).length ((outL k ls node).flatMap cI)) ∧ Aside (Below W0.heap.size W0 wr))
  case atStart => exact ⟨0, by omega, by omega, rfl, World.ownsRow_nil _ _ _ _, Below.refl _ _⟩
  case round =>
    obtain ⟨k, hk, hgg, rfl, HO, HB⟩ := hrel
    obtain ⟨hx0, hx1, hxs⟩ := HX.out wr HB.out
    obtain ⟨A1, c1, rfl⟩ := own_form HO.out
    by_cases hlt : k < nodes
    · have hltz : (k : Int) < (nodes : Int) := by omega
      have hbt := rbtw_any nodes _ ls node (k : Int) wr hxs
      have hfl : (outL k ls node).length < 1000001 := by have := outL_len ls node k; omega
      have hsz := HB.out.size
      clear hxs
      unfold posI at hbt
      have hsu := outL_succ ls node k
      generalize hN : (outL k ls node).length = N at *
      have HN := Lib.hid hN
      clear hN
      cases hp : pos ls node (k : Int) with
      | none =>
        rw [hp] at hbt hsu
        simp only at hbt
        have HSU := Lib.hid hsu
        clear hsu
        go_wp2_with (go_at_call 17; refine hbt.mono ?_; rintro e w2 ⟨rfl, hb2⟩)
        go_roundg (nodes - (k + 1))
        case measure => omega
        case rel =>
          refine ⟨k + 1, by omega, by omega, by go_num, ?_, HB.out.trans (hb2.mono hsz)⟩
          rw [HSU.out]
          simp only [Option.toList_none, List.append_nil, HN.out]
          exact own_lies HO.out hb2
      | some m =>
        rw [hp] at hbt hsu
        simp only at hbt
        have HSU := Lib.hid hsu
        clear hsu
        have hm0 : (0 : Int) ≤ (m : Int) := by omega
        go_wp2_with (first | (go_at_call 17; refine hbt.mono ?_; rintro e w2 ⟨rfl, hb2⟩) | (at_builtin; go_loud (refine wpList_app rfl (.tmp 20) (.tmp 22) rfl elIx (fun _ => rfl) cI_one (base := W0.heap.size) (xs := outL k ls node) (ys := [m]) rfl rfl HN.out.symm ((own_lies HO.out hb2).alloc _) (sat_oneI _ m rfl) (by have := hb2.size; simp; omega) (by have := HN.out; simp [maxLen]; omega) (by have := HN.out; simp; omega) ?_; intro v1 w3 hown1 hg1; have hb3 : Below W0.heap.size W0 w3 := (((HB.out.trans (hb2.mono hsz))).alloc (by have := hb2.size; omega) _).trans (own_below ((own_lies HO.out hb2).alloc _) hg1 (by have := hb2.size; simp; omega)); clear hg1)))
        go_roundg (nodes - (k + 1))
        case measure => omega
        case rel =>
          refine ⟨k + 1, by omega, by omega, by go_num, ?_, hb3⟩
          rw [HSU.out]
          exact hown1
    · obtain rfl : k = nodes := by omega
      have hltz : ¬ ((k : Nat) : Int) < ((k : Nat) : Int) := by omega
      have hws := SAt.ofOwn (enc := cI) (fun _ => rfl) rfl HO.out
      go_wp2_with fail
      rw [HR.out]
      exact ⟨⟨_, rfl, hws⟩, bl_then HB0.out HB.out⟩
end Go.Proofs.Ytfifmkjidljeeaa
