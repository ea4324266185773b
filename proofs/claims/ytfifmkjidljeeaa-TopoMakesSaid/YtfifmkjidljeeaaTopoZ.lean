/- Topo: TopoMakes. -/
import Derived.Test.YtfifmkjidljeeaaTopoY
namespace Go.Proofs.Ytfifmkjidljeeaa
open Go.RowKit Go.Shelf
set_option linter.unusedVariables false
set_option linter.unusedSimpArgs false
set_option maxHeartbeats 400000 in
theorem nodes_any (q : Nat) (nodes : Int) (ls : List Lk) (w : World) (h : TMap w q nodes ls) :
    Calls Try.prog 16 #[.pointer (some ⟨q, 0, none⟩)] w fun e w' => e = .returned (.int .i64 nodes) ∧ w = w' := by
  obtain ⟨v, r, h0, h1, h2, h3, h4⟩ := h
  clear h3 h4
  go_enter Try.func16, Try.ntmps16
  go_wp2_with (go_at_call 33; refine (none_no q r _ h2).mono ?_; rintro e w' ⟨rfl, rfl⟩)
  go_ret
  exact ⟨rfl, rfl⟩
set_option maxRecDepth 100000 in
set_option maxHeartbeats 4000000 in
theorem topoMakes_any (nodes : Int) (v : Value) (ls : List Lk) (x y : Int) (w : World) (h : SAt Lk.cells 8 w v ls) :
    Calls Try.prog 5 #[.int .i64 nodes, v, .agg #[.int .i64 x, .int .i64 y]] w fun e w' => e = .returned (.bool true) ∧ Below w.heap.size w w' := by
  obtain ⟨A, c, rfl⟩ := h.slice
  have hlm := h.len
  unfold maxLen at hlm
  have H := Lib.hid h
  clear h
  by_cases g1 : 60 < ls.length
  · have g1z : (60 : Int) < (ls.length : Int) := by omega
    go_enter Try.func5, Try.ntmps5
    go_wp2_with (go_at_call 10; refine (known_any _).mono ?_; rintro e w' ⟨rfl, hbk⟩)
    go_ret
    exact ⟨rfl, bl_then (bl_alloc (Below.refl _ _) _) hbk⟩
  · have g1z : (ls.length : Int) ≤ 60 := by omega
    have hl60 : ls.length ≤ 60 := by omega
    clear hlm
    go_enter Try.func5, Try.ntmps5
    go_wp2_with fail
    have ga0 : (w.alloc (.cells #[.int .i64 x, .int .i64 y] 29)).cell? ⟨w.heap.size, 0, none⟩ = some (.int .i64 x) := by go_simp
    have ga1 : (w.alloc (.cells #[.int .i64 x, .int .i64 y] 29)).cell? ⟨w.heap.size, 1, none⟩ = some (.int .i64 y) := by go_simp
    generalize hW0 : w.alloc (.cells #[.int .i64 x, .int .i64 y] 29) = W0 at ga0 ga1 ⊢
    have hW0b : Below w.heap.size w W0 := hW0 ▸ bl_alloc (Below.refl _ _) _
    have HX : Hid (∀ X, Below W0.heap.size W0 X → X.cell? ⟨w.heap.size, 0, none⟩ = some (.int .i64 x) ∧ X.cell? ⟨w.heap.size, 1, none⟩ = some (.int .i64 y) ∧ SAt Lk.cells 8 X (.slice A ls.length c) ls) :=
      Lib.hid fun X hX => ⟨bl_cell hX ga0, bl_cell hX ga1, H.out.below (bl_then hW0b hX)⟩
    have HB0 := Lib.hid hW0b
    clear hW0 ga0 ga1 hW0b
    refine (new_any nodes _ ls _ (HX.out W0 (Below.refl _ _)).2.2 (by omega)).mono ?_
    rintro e w1 (⟨hne, q, rfl, hm1, hb1⟩ | ⟨hne, rfl, hb1⟩)
    · have HNE := Lib.hid hne
      have HM1 := Lib.hid hm1
      have HB1 := Lib.hid hb1
      obtain ⟨z1, z2, z3, z4, z5⟩ := newErr_zero hne
      have hnn : 1 ≤ nodes ∧ nodes ≤ 16 := by simpa [wi] using z1
      obtain ⟨N, rfl⟩ : ∃ N : Nat, nodes = (N : Int) := ⟨nodes.toNat, by omega⟩
      have hrn := rnew_any N _ ls w1 (HX.out w1 hb1).2.2 hl60
      clear hm1 hb1 hne z1 z2 z3 z4 z5 hnn
      go_wp2_with fail
      refine hrn.mono ?_
      clear hrn
      rintro e w2 ⟨⟨-, rfl⟩ | ⟨hx, -⟩, hb2⟩
      · have HB2 := Lib.hid (bl_then HB1.out hb2)
        have HM2 := Lib.hid (HM1.out.below hb2)
        obtain ⟨x0, x1, x2⟩ := HX.out w2 HB2.out
        have hz0 : w.heap.size < w2.heap.size := by
          have h1 := HB0.out.size
          have h2 := HB2.out.size
          have h3 := World.block_lt_of_cell? w2 ⟨w.heap.size, 0, none⟩ x0
          exact h3
        have X2 := Lib.hid x2
        clear hb2 x2
        have hW3 : Below w2.heap.size w2 (w2.alloc (.cells #[.int .i64 N, .slice A ls.length c] 40)) := bl_alloc (Below.refl _ _) _
        have hbt := between_any q N ls x y _ (HM2.out.below hW3)
        have hrb := rbtw_any N _ ls x y _ (X2.out.below hW3)
        have HTD : Hid (∀ X, Below w2.heap.size w2 X → Calls Try.prog 18 #[.pointer (some ⟨q, 0, none⟩), .agg #[.int .i64 N, .slice A ls.length c], .int .i64 x] X fun e w' => e = .returned (.bool true) ∧ Below X.heap.size X w') := Lib.hid fun X hX => told_any q N _ ls x X (HM2.out.below hX) (X2.out.below hX) HNE.out
        have HNO : Hid (∀ X, Below w2.heap.size w2 X → _) := Lib.hid fun X hX => nodes_any q N ls X (HM2.out.below hX)
        have HLE : Hid (∀ X, Below w2.heap.size w2 X → _) := Lib.hid fun X hX => len_any q N ls X (HM2.out.below hX)
        rw [btw_pos] at hbt
        unfold posI at hrb
        have hnb : ((N : Int) != (N : Int)) = false := by simp
        have hlb : ((ls.length : Int) != (ls.length : Int)) = false := by simp
        cases hp : pos ls x y with
        | none =>
          rw [hp] at hbt hrb
          simp only [Option.map_none, Option.getD_none, Option.isSome_none] at hbt hrb
          clear hp
          go_wp2_with (first | (go_at_call 12; refine hbt.mono ?_; rintro e w' ⟨rfl, rfl⟩; clear hbt) | (go_at_call 17; refine hrb.mono ?_; rintro e w4 ⟨rfl, hb4⟩; have hb24 := bl_then hW3 hb4; have hno := HNO.out w4 hb24; have hle := HLE.out w4 hb24; have htd := HTD.out w4 hb24; have y0 := bl_cell hb24 x0; have k0 := bl_cell hb4 (b := w2.heap.size) (o := 0) (v := .int .i64 N) (by go_simp); have k1 := bl_cell hb4 (b := w2.heap.size) (o := 1) (v := .slice A ls.length c) (by go_simp); have hz4 := hb24.size; clear hrb) | (go_at_call 16; refine hno.mono ?_; rintro e w' ⟨rfl, rfl⟩) | (go_at_call 14; refine hle.mono ?_; rintro e w' ⟨rfl, rfl⟩) | (go_at_call 18; refine htd.mono ?_; rintro e w5 ⟨rfl, hb5⟩) | (go_at_call 10; refine (known_any _).mono ?_; rintro e w' ⟨rfl, hbk⟩))
          go_ret
          exact ⟨rfl, bl_then (bl_then (bl_then (bl_then HB0.out HB2.out) hb24) hb5) hbk⟩
        | some i =>
          rw [hp] at hbt hrb
          simp only [Option.map_some, Option.getD_some, Option.isSome_some] at hbt hrb
          have hib : ((i : Int) != (i : Int)) = false := by simp
          have hi0 : (0 : Int) ≤ (i : Int) := by omega
          clear hp
          go_wp2_with (first | (go_at_call 12; refine hbt.mono ?_; rintro e w' ⟨rfl, rfl⟩; clear hbt) | (go_at_call 17; refine hrb.mono ?_; rintro e w4 ⟨rfl, hb4⟩; have hb24 := bl_then hW3 hb4; have hno := HNO.out w4 hb24; have hle := HLE.out w4 hb24; have htd := HTD.out w4 hb24; have y0 := bl_cell hb24 x0; have k0 := bl_cell hb4 (b := w2.heap.size) (o := 0) (v := .int .i64 N) (by go_simp); have k1 := bl_cell hb4 (b := w2.heap.size) (o := 1) (v := .slice A ls.length c) (by go_simp); have hz4 := hb24.size; clear hrb) | (go_at_call 16; refine hno.mono ?_; rintro e w' ⟨rfl, rfl⟩) | (go_at_call 14; refine hle.mono ?_; rintro e w' ⟨rfl, rfl⟩) | (go_at_call 18; refine htd.mono ?_; rintro e w5 ⟨rfl, hb5⟩) | (go_at_call 10; refine (known_any _).mono ?_; rintro e w' ⟨rfl, hbk⟩))
          go_ret
          exact ⟨rfl, bl_then (bl_then (bl_then (bl_then HB0.out HB2.out) hb24) hb5) hbk⟩
      · exact absurd HNE.out hx
    · have hrn := rnew_any nodes _ ls w1 (HX.out w1 hb1).2.2 hl60
      have HNE := Lib.hid hne
      have HB1 := Lib.hid hb1
      clear hb1
      unfold RNew at hrn
      generalize newErr nodes ls = en at hne hrn HNE ⊢
      have hnb : (en == 0) = false := by simpa using hne
      have hnb2 : (en != 0) = true := by simpa using hne
      have hnb3 : (en != en) = false := by simp
      go_wp2_with fail
      refine hrn.mono ?_
      clear hrn
      rintro e w2 ⟨⟨h0, -⟩ | ⟨-, rfl⟩, hb2⟩
      · exact absurd h0 HNE.out
      · have HB2 := Lib.hid (bl_then HB1.out hb2)
        clear hb2
        go_wp2_with (first | (go_at_call 16; refine (nodes_none _ _ (Or.inl rfl)).mono ?_; rintro e w' ⟨rfl, rfl⟩) | (go_at_call 10; refine (known_any _).mono ?_; rintro e w' ⟨rfl, hbk⟩))
        go_ret
        exact ⟨rfl, bl_then (bl_then (bl_then HB0.out HB2.out) (bl_alloc (Below.refl _ _) _)) hbk⟩
end Go.Proofs.Ytfifmkjidljeeaa
