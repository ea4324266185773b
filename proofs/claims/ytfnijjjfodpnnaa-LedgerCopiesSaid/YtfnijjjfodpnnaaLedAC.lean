/- The document's ledger: linger, Give where it gives. -/
import Derived.Test.YtfnijjjfodpnnaaLedAB
namespace Go.Proofs.Ytfnijjjfodpnnaa
open Go.RowKit Go.Shelf
set_option linter.unusedVariables false
set_option linter.unusedSimpArgs false
theorem elLing : ElT Try.prog 34 98 2 16 (.agg #[.int .i64 0, .int .i64 0]) := ElT.mk' Try.underlying34 (by kernel_rfl) rfl (by decide)
theorem oneLing (x : Ling) : ∀ u ∈ Ling.cells x, u.oneCell' = true := fun u hu => by simp [Ling.cells] at hu; rcases hu with rfl | rfl <;> rfl
theorem sat_oneL (W : World) (x : Ling) {b : Nat} (hb : b = W.heap.size) : SAt Ling.cells 2 (W.alloc (.cells #[.int .i64 x.r, .int .i64 x.u] 98)) (.slice (some ⟨b, 0, none⟩) 1 1) [x] :=
  Or.inr ⟨b, 0, 1, rfl, by simp, by simp [maxLen], rowAt_new (enc := Ling.cells) (k := 2) (fun _ => rfl) W 98 [x] hb rfl⟩
theorem linger_mid {w w0 w2 : World} {share room : Int} {ve vl : Value} {xs : List Ling} {A2 : Option Addr} {n2 c2 : Nat}
    (hk4 : w0.heap[w.heap.size]? = some (.cells #[.int .i64 share, .int .i64 room, ve, vl] 36 (0, 0))) (hk5 : w0.heap[w.heap.size + 1]? = some (.cells #[.int .i64 0, .int .i64 0, .slice none 0 0, .slice none 0 0] 36 (0, 0))) (hz0 : w0.heap.size = w.heap.size + 2)
    (hb2 : Below w0.heap.size w0 w2) (hown2 : w2.ownsRow w0.heap.size 98 2 (.slice A2 n2 c2) n2 (xs.flatMap Ling.cells)) (hn2 : xs.length = n2) :
    Hid (w2.ownsRow w0.heap.size 98 2 (.slice A2 n2 c2) n2 (xs.flatMap Ling.cells)) ∧ Hid (xs.length = n2) ∧ Hid (Below w0.heap.size w0 w2) ∧ Hid ((w2.setCell ⟨w.heap.size, 3, none⟩ (.slice A2 n2 c2)).heap[w.heap.size + 1]? = some (.cells #[.int .i64 0, .int .i64 0, .slice none 0 0, .slice none 0 0] 36 (0, 0))) ∧ w0.heap.size ≤ w2.heap.size ∧
    w2.cell? ⟨w.heap.size + 1, 0, none⟩ = some (.int .i64 0) ∧ w2.cell? ⟨w.heap.size + 1, 1, none⟩ = some (.int .i64 0) ∧ w2.cell? ⟨w.heap.size + 1, 2, none⟩ = some (.slice none 0 0) ∧ w2.cell? ⟨w.heap.size + 1, 3, none⟩ = some (.slice none 0 0) ∧
    w2.frozen? ⟨w.heap.size + 1, 0, none⟩ = false ∧ w2.frozen? ⟨w.heap.size + 1, 1, none⟩ = false ∧ w2.frozen? ⟨w.heap.size + 1, 2, none⟩ = false ∧ w2.frozen? ⟨w.heap.size + 1, 3, none⟩ = false ∧
    w2.cell? ⟨w.heap.size, 0, none⟩ = some (.int .i64 share) ∧ w2.cell? ⟨w.heap.size, 1, none⟩ = some (.int .i64 room) ∧ w2.cell? ⟨w.heap.size, 2, none⟩ = some ve ∧ w2.cell? ⟨w.heap.size, 3, none⟩ = some vl ∧ w2.frozen? ⟨w.heap.size, 3, none⟩ = false := by
  have hbk4 := (hb2.block w.heap.size (by omega)).trans hk4
  have hbk5 := (hb2.block (w.heap.size + 1) (by omega)).trans hk5
  obtain ⟨o0, o1, o2, o3, f0, f1, f2, f3⟩ := ref_cells hbk5
  exact ⟨Lib.hid hown2, Lib.hid hn2, Lib.hid hb2, Lib.hid ((Below.heap_setCell _ _ _ _ (by show w.heap.size + 1 ≠ w.heap.size; omega)).trans hbk5), hb2.size, o0, o1, o2, o3, f0, f1, f2, f3,
    by rw [cell_blk hbk4]; rfl, by rw [cell_blk hbk4]; rfl, by rw [cell_blk hbk4]; rfl, by rw [cell_blk hbk4]; rfl, by simp [World.frozen?, hbk4]⟩
set_option maxRecDepth 100000 in
set_option maxHeartbeats 1000000 in
theorem linger_ref (share room : Int) (ve vl : Value) (es : List En) (gs : List Ling) (n till : Int) (w : World) (h : RefAt w ve vl es gs) (hl : gs.length ≤ 1000000) :
    Calls Try.prog 57 #[refV share room ve vl, .int .i64 n, .int .i64 till] w fun e w' => (∃ vl', e = .returned (refV share room ve vl') ∧ SAt Ling.cells 2 w' vl' (lingG gs n till) ∧ (FarS w.heap.size vl' ∨ (vl' = vl ∧ lingG gs n till = gs))) ∧ Below w.heap.size w w' := by
  obtain ⟨A, c, rfl⟩ := h.e.slice
  obtain ⟨A', c', rfl⟩ := h.g.slice
  have HG := Lib.hid h.g
  have hB0 := bl_alloc (bl_alloc (Below.refl w.heap.size w) (.cells #[.int .i64 share, .int .i64 room, .slice A es.length c, .slice A' gs.length c'] 36)) (.cells #[.int .i64 0, .int .i64 0, .slice none 0 0, .slice none 0 0] 36)
  have hk4 : ((w.alloc (.cells #[.int .i64 share, .int .i64 room, .slice A es.length c, .slice A' gs.length c'] 36)).alloc (.cells #[.int .i64 0, .int .i64 0, .slice none 0 0, .slice none 0 0] 36)).heap[w.heap.size]? = some (.cells #[.int .i64 share, .int .i64 room, .slice A es.length c, .slice A' gs.length c'] 36 (0, 0)) := ((bl_alloc (Below.refl _ _) _).block w.heap.size (by simp)).trans (at_alloc rfl)
  have hk5 : ((w.alloc (.cells #[.int .i64 share, .int .i64 room, .slice A es.length c, .slice A' gs.length c'] 36)).alloc (.cells #[.int .i64 0, .int .i64 0, .slice none 0 0, .slice none 0 0] 36)).heap[w.heap.size + 1]? = some (.cells #[.int .i64 0, .int .i64 0, .slice none 0 0, .slice none 0 0] 36 (0, 0)) := at_alloc (by simp)
  have HB0 := Lib.hid hB0
  have HK4 := Lib.hid hk4
  have HK5 := Lib.hid hk5
  have HW0S : Hid (((w.alloc (.cells #[.int .i64 share, .int .i64 room, .slice A es.length c, .slice A' gs.length c'] 36)).alloc (.cells #[.int .i64 0, .int .i64 0, .slice none 0 0, .slice none 0 0] 36)).heap.size = w.heap.size + 2) := Lib.hid (by simp)
  clear h hB0 hk4 hk5
  by_cases hn : 0 < n
  · simp only [lingG, if_pos hn]
    go_enter Try.func57, Try.ntmps57
    go_upto_region 1 with fail
    generalize ((w.alloc (.cells #[.int .i64 share, .int .i64 room, .slice A es.length c, .slice A' gs.length c'] 36)).alloc (.cells #[.int .i64 0, .int .i64 0, .slice none 0 0, .slice none 0 0] 36)) = w0 at HB0 HK4 HK5 HW0S ⊢
    have hz0 := HW0S.out
    have l3 : w0.cell? ⟨w.heap.size, 3, none⟩ = some (.slice A' gs.length c') := by rw [cell_blk HK4.out]; rfl
    go_wp2_with (first
      | (at_builtin; refine wpList_app rfl _ (.tmp 10) rfl elLing (fun _ => rfl) oneLing (n := 0) (xs := ([] : List Ling)) (ys := gs) rfl rfl rfl (World.ownsRow_nil _ _ _ _) (HG.out.below HB0.out) (Nat.le_refl _) (by simp [maxLen]; omega) (by simp; omega) ?_; intro v1 w1 hown1 hg1; have hb1 : Below w0.heap.size w0 w1 := own_below (World.ownsRow_nil _ _ 98 2) hg1 (Nat.le_refl _); simp only [List.nil_append] at hown1; obtain ⟨A1, c1, rfl⟩ := own_form hown1; have hz1 := hb1.size; have HOWN1 := Lib.hid hown1; have HB1 := Lib.hid hb1; clear hown1 hg1 hb1 l3)
      | (at_builtin; refine wpList_app rfl (.tmp 11) (.tmp 15) rfl elLing (fun _ => rfl) oneLing (base := w0.heap.size) (xs := gs) (ys := [⟨n, till⟩]) rfl rfl rfl (HOWN1.out.alloc _) (sat_oneL w1 ⟨n, till⟩ rfl) (by simp; omega) (by simp [maxLen]; omega) (by simp; omega) ?_; intro v2 w2 hown2 hg2; have hb2 : Below w0.heap.size w0 w2 := (HB1.out.alloc HB1.out.size _).trans (own_below (HOWN1.out.alloc _) hg2 (by simp; omega)); generalize hn2 : (gs ++ [(⟨n, till⟩ : Ling)]).length = n2 at hown2; obtain ⟨A2, c2, rfl⟩ := own_form hown2; obtain ⟨HOWN, HN2, HB2, HBK5, hz2, o0, o1, o2, o3, f0, f1, f2, f3, l0, l1, l2, l3, lf⟩ := linger_mid HK4.out HK5.out hz0 hb2 hown2 hn2; clear hown2 hb2 hg2 hn2))
    have S4 := set4 (a0 := .int .i64 share) (a1 := .int .i64 room) (a2 := .slice A es.length c) (a3 := .slice A2 n2 c2) HBK5.out
    have s0 := S4 0 _ rfl
    have s1 := S4 1 _ rfl
    have s2 := S4 2 _ rfl
    have s3 := S4 3 _ rfl
    refine bodyPost_ret (v := refV share room (.slice A es.length c) (.slice A2 n2 c2)) (by simp [results, Try.results57, go_sem, s0, s1, s2, s3]) rfl ⟨⟨_, rfl, ?_, Or.inl (FarS.own HOWN.out (by omega))⟩, ?_⟩
    · have hfin := ownsRow_setCell_below (ownsRow_setCell_below (ownsRow_setCell_below (ownsRow_setCell_below (ownsRow_setCell_below HOWN.out (a := ⟨w.heap.size, 3, none⟩) (by show w.heap.size < _; omega) (.slice A2 n2 c2)) (a := ⟨w.heap.size + 1, 0, none⟩) (by show w.heap.size + 1 < _; omega) (.int .i64 share)) (a := ⟨w.heap.size + 1, 1, none⟩) (by show w.heap.size + 1 < _; omega) (.int .i64 room)) (a := ⟨w.heap.size + 1, 2, none⟩) (by show w.heap.size + 1 < _; omega) (.slice A es.length c)) (a := ⟨w.heap.size + 1, 3, none⟩) (by show w.heap.size + 1 < _; omega) (.slice A2 n2 c2)
      exact SAt.ofOwn (enc := Ling.cells) (k := 2) (fun _ => rfl) HN2.out hfin
    · have hbw : Below w.heap.size w w2 := HB0.out.trans (HB2.out.mono (by omega))
      repeat (first | exact hbw | refine bl_set ?_ (by simp <;> omega) _)
  · simp only [lingG, if_neg hn]
    go_enter Try.func57, Try.ntmps57
    go_wp2_with fail
    refine bodyPost_ret (v := refV share room (.slice A es.length c) (.slice A' gs.length c')) (by simp [results, Try.results57, go_sem]) rfl ⟨⟨_, rfl, ?_, Or.inr (by first | exact ⟨rfl, rfl⟩ | exact rfl)⟩, ?_⟩
    · exact HG.out.below (by repeat (first | exact Below.refl _ _ | refine bl_alloc ?_ _ | refine bl_set ?_ (by simp <;> omega) _))
    · repeat (first | exact Below.refl _ _ | refine bl_alloc ?_ _ | refine bl_set ?_ (by simp <;> omega) _)
/-- A store into a block of zeros leaves slices elsewhere as they read. -/
theorem sat_set4 {α : Type} {enc : α → List Value} {k : Nat} {w : World} {v : Value} {xs : List α} {b : Nat} {a0 a1 a2 a3 : Value} (h : SAt enc k w v xs) (hB : ∀ q o n c, v = .slice (some ⟨q, o, none⟩) n c → q ≠ b) : SAt enc k ((((w.setCell ⟨b, 0, none⟩ a0).setCell ⟨b, 1, none⟩ a1).setCell ⟨b, 2, none⟩ a2).setCell ⟨b, 3, none⟩ a3) v xs := by
  rcases h with h | ⟨q, o, c, h1, h2, h3, h4⟩
  · exact Or.inl h
  · exact Or.inr ⟨q, o, c, h1, h2, h3, fun j x hj i u hi => (World.cell?_of_block (w := w) (a := ⟨q, _, none⟩) (set4_other (hB _ _ _ _ h1))).trans (h4 j x hj i u hi)⟩
set_option maxRecDepth 100000 in
set_option maxHeartbeats 1000000 in
theorem give_ref_ok (share room : Int) (ve vl : Value) (es : List En) (gs : List Ling) (x : En) (now : Int) (w : World) (h : RefAt w ve vl es gs) (hF : Fine es gs) (hy : fitsY share room es gs x now = 0) :
    Calls Try.prog 29 #[refV share room ve vl, .agg #[.int .i64 x.i, .int .i64 x.r, .int .i64 x.m], .int .i64 now] w fun e w' => (∃ v', e = .returned (.tuple #[refV share room v' vl, .int .i64 0]) ∧ SAt En.cells 3 w' v' (insE x es) ∧ FarS w.heap.size v') ∧ Below w.heap.size w w' := by
  obtain ⟨A, c, rfl⟩ := h.e.slice
  obtain ⟨A', c', rfl⟩ := h.g.slice
  have hb1 := bl_alloc (bl_alloc (bl_alloc (Below.refl w.heap.size w) (.cells #[.int .i64 share, .int .i64 room, .slice A es.length c, .slice A' gs.length c'] 36)) (.cells #[.int .i64 x.i, .int .i64 x.r, .int .i64 x.m] 30)) (.cells #[.int .i64 0, .int .i64 0, .slice none 0 0, .slice none 0 0] 36)
  have hft := fits_ref share room _ _ es gs x now _ (h.below hb1) hF
  rw [hy] at hft
  have HB1 := Lib.hid hb1
  have H := Lib.hid h
  have hel := hF.el
  clear h hF hb1 hy
  go_enter Try.func29, Try.ntmps29
  go_wp2_with fail
  refine hft.mono ?_
  rintro e w1 ⟨rfl, hb⟩
  have l0 : w1.cell? ⟨w.heap.size, 0, none⟩ = some (.int .i64 share) := bl_cell hb (by go_simp)
  have l1 : w1.cell? ⟨w.heap.size, 1, none⟩ = some (.int .i64 room) := bl_cell hb (by go_simp)
  have l2 : w1.cell? ⟨w.heap.size, 2, none⟩ = some (.slice A es.length c) := bl_cell hb (by go_simp)
  have l3 : w1.cell? ⟨w.heap.size, 3, none⟩ = some (.slice A' gs.length c') := bl_cell hb (by go_simp)
  have x0 : w1.cell? ⟨w.heap.size + 1, 0, none⟩ = some (.int .i64 x.i) := bl_cell hb (by go_simp)
  have x1 : w1.cell? ⟨w.heap.size + 1, 1, none⟩ = some (.int .i64 x.r) := bl_cell hb (by go_simp)
  have x2 : w1.cell? ⟨w.heap.size + 1, 2, none⟩ = some (.int .i64 x.m) := bl_cell hb (by go_simp)
  have hbk : w1.heap[w.heap.size + 2]? = some (.cells #[.int .i64 0, .int .i64 0, .slice none 0 0, .slice none 0 0] 36 (0, 0)) := (hb.block (w.heap.size + 2) (by simp)).trans (at_alloc (by simp))
  have hbw : Below w.heap.size w w1 := HB1.out.trans (hb.mono (by simp <;> omega))
  have hwi := with_ref share room _ _ es gs x w1 (H.out.below hbw) (by omega)
  have HBK := Lib.hid hbk
  have HBW := Lib.hid hbw
  clear hft hb hbk hbw
  go_wp2_with fail
  refine hwi.mono ?_
  rintro e w2 ⟨⟨v', rfl, hs2, hfar⟩, hb2⟩
  obtain ⟨A2, c2, rfl⟩ := hs2.slice
  have hbk2 := (hb2.block (w.heap.size + 2) (Array.getElem?_eq_some_iff.1 HBK.out).1).trans HBK.out
  obtain ⟨o0, o1, o2, o3, f0, f1, f2, f3⟩ := ref_cells hbk2
  have hzl : w.heap.size + 2 < w2.heap.size := (Array.getElem?_eq_some_iff.1 hbk2).1
  have hz1 := HBW.out.size
  have hzk := (Array.getElem?_eq_some_iff.1 HBK.out).1
  have HFAR := Lib.hid hfar
  clear hfar
  have HS2 := Lib.hid hs2
  have HB2 := Lib.hid (bl_then HBW.out hb2)
  have HBK2 := Lib.hid hbk2
  clear hwi hs2 hb2 hbk2 l0 l1 l2 l3 x0 x1 x2
  go_wp2_with fail
  have S4 := set4 (a0 := .int .i64 share) (a1 := .int .i64 room) (a2 := .slice A2 (insE x es).length c2) (a3 := .slice A' gs.length c') HBK2.out
  have s0 := S4 0 _ rfl
  have s1 := S4 1 _ rfl
  have s2 := S4 2 _ rfl
  have s3 := S4 3 _ rfl
  refine bodyPost_ret (v := .tuple #[refV share room (.slice A2 (insE x es).length c2) (.slice A' gs.length c'), .int .i64 0]) (by simp [results, Try.results29, go_sem, s0, s1, s2, s3]) rfl ⟨⟨_, rfl, sat_set4 HS2.out (fun q o n c hv => ?_), HFAR.out.mono hz1⟩, ?_⟩
  · have := HFAR.out q o n c hv
    omega
  · repeat (first | exact HB2.out | refine bl_set ?_ (by simp <;> omega) _)
end Go.Proofs.Ytfnijjjfodpnnaa
