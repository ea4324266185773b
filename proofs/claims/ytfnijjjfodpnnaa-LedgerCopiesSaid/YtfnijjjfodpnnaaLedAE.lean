/- The document's ledger: Change where the entry is there. -/
import Derived.Test.YtfnijjjfodpnnaaLedAD
namespace Go.Proofs.Ytfnijjjfodpnnaa
open Go.RowKit Go.Shelf
set_option linter.unusedVariables false
set_option linter.unusedSimpArgs false
/-- What Change answers where the entry is there: y the error, ei and gs' what it has then. -/
def ChangeOut (w w' : World) (share room : Int) (ve vl : Value) (gs : List Ling) (y : Int) (ei : List En) (gs' : List Ling) (e : Ending) : Prop :=
  (y ≠ 0 ∧ e = .returned (.tuple #[refV share room ve vl, .int .i64 y])) ∨
  (y = 0 ∧ ∃ v' vl', e = .returned (.tuple #[refV share room v' vl', .int .i64 0]) ∧ SAt En.cells 3 w' v' ei ∧ SAt Ling.cells 2 w' vl' gs' ∧ FarS w.heap.size v' ∧ (FarS w.heap.size vl' ∨ (vl' = vl ∧ gs' = gs)))
theorem ChangeOut.no {w w' : World} {share room : Int} {ve vl : Value} {gs : List Ling} {y : Int} {ei : List En} {gs' : List Ling} (h : y ≠ 0) : ChangeOut w w' share room ve vl gs y ei gs' (.returned (.tuple #[refV share room ve vl, .int .i64 y])) := Or.inl ⟨h, rfl⟩
theorem ChangeOut.yes {w w' : World} {share room : Int} {ve vl v' vl' : Value} {gs : List Ling} {ei : List En} {gs' : List Ling} (h1 : SAt En.cells 3 w' v' ei) (h2 : SAt Ling.cells 2 w' vl' gs') (h3 : FarS w.heap.size v') (h4 : FarS w.heap.size vl' ∨ (vl' = vl ∧ gs' = gs)) :
    ChangeOut w w' share room ve vl gs 0 ei gs' (.returned (.tuple #[refV share room v' vl', .int .i64 0])) := Or.inr ⟨rfl, v', vl', rfl, h1, h2, h3, h4⟩
theorem fine_sub {es es' : List En} {gs : List Ling} (h : Fine es gs) (hs : ∀ x ∈ es', x ∈ es) (hl : es'.length ≤ es.length) : Fine es' gs := ⟨fun x hx => h.e x (hs x hx), h.g, by have := h.el; omega, h.gl⟩
theorem sub_mem {es : List En} {k : Nat} {x : En} (h : x ∈ es.take k ++ es.drop (k + 1)) : x ∈ es := by
  rcases List.mem_append.1 h with h | h
  · exact List.mem_of_mem_take h
  · exact List.mem_of_mem_drop h
set_option maxRecDepth 100000 in
set_option maxHeartbeats 4000000 in
theorem change_ref (share room : Int) (ve vl : Value) (es : List En) (gs : List Ling) (x : En) (now till : Int) (k : Nat) (old : En) (w : World) (h : RefAt w ve vl es gs) (hF : Fine es gs) (hm : mayB x [now, till] = true) (hk : findN es x.i = (k : Int)) (hx : es[k]? = some old) :
    Calls Try.prog 30 #[refV share room ve vl, .agg #[.int .i64 x.i, .int .i64 x.r, .int .i64 x.m], .int .i64 now, .int .i64 till] w fun e w' => ChangeOut w w' share room ve vl gs (roomY share room (es.take k ++ es.drop (k + 1)) gs x now) (insE x (es.take k ++ es.drop (k + 1))) (lingG gs (old.r - x.r) till) e ∧ Below w.heap.size w w' := by
  obtain ⟨A, c, rfl⟩ := h.e.slice
  obtain ⟨A', c', rfl⟩ := h.g.slice
  have hkl : k < es.length := (List.getElem?_eq_some_iff.1 hx).1
  have hel := hF.el
  have hgl := hF.gl
  have hbdx := mayB_bd hm
  have hob := hF.e old (List.mem_of_getElem? hx)
  have hsub : IntKind.i64.wrap (old.r - x.r) = old.r - x.r := IntWalk.i64_in _ (by omega)
  have hxe : ∃ b o, A = some ⟨b, o, none⟩ ∧ b < w.heap.size ∧ w.cell? ⟨b, o + k * 3 + 1, none⟩ = some (.int .i64 old.r) := by
    rcases h.e with ⟨h1, h2⟩ | ⟨b, o, c2, h1, _, _, hrow⟩
    · rw [h2] at hkl; simp at hkl
    · injection h1 with h1
      have := (EnAt.ofRow hrow hx).2.1
      exact ⟨b, o, h1, World.block_lt_of_cell? w ⟨b, o + k * 3 + 1, none⟩ this, this⟩
  obtain ⟨b, o, rfl, hbl, hbc⟩ := hxe
  have H := Lib.hid h
  have hkn : ¬ ((k : Int) < 0) := by omega
  have hkz : (0 : Int) ≤ (k : Int) := by omega
  have hkz2 : (k : Int) < (es.length : Int) := by omega
  have HBC := Lib.hid hbc
  have hF' : Fine (es.take k ++ es.drop (k + 1)) gs := fine_sub hF (fun x hx => sub_mem hx) (by simp; omega)
  have hl' : (es.take k ++ es.drop (k + 1)).length ≤ 1000 := hF'.el
  have hm1 : mayB x [] = true := by simp [mayB] at hm ⊢; exact hm.1
  have hm2 : wi now 0 4611686018427387904 = true := by simp [mayB] at hm; exact hm.2.1
  have hm3 : wi till 0 4611686018427387904 = true := by simp [mayB] at hm; exact hm.2.2
  have HM1 := Lib.hid hm1
  have HM2 := Lib.hid hm2
  have HM3 := Lib.hid hm3
  have HFD : Hid (∀ W, Below w.heap.size w W → Calls Try.prog 23 #[refV share room (.slice (some ⟨b, o, none⟩) es.length c) (.slice A' gs.length c'), .int .i64 x.i] W fun e w' => e = .returned (.int .i64 (k : Int)) ∧ Below W.heap.size W w') := Lib.hid fun W hW => by
    have := find_ref share room _ _ es gs x.i W (h.below hW)
    rw [hk] at this
    exact this
  have HWO : Hid (∀ W, Below w.heap.size w W → Calls Try.prog 56 #[refV share room (.slice (some ⟨b, o, none⟩) es.length c) (.slice A' gs.length c'), .int .i64 (k : Int)] W fun e w' => (∃ v', e = .returned (refV share room v' (.slice A' gs.length c')) ∧ SAt En.cells 3 w' v' (es.take k ++ es.drop (k + 1)) ∧ FarS W.heap.size v') ∧ Below W.heap.size W w') := Lib.hid fun W hW => without_ref share room _ _ es gs k W (h.below hW) hkl (by omega)
  have hb1 := bl_alloc (bl_alloc (bl_alloc (Below.refl w.heap.size w) (.cells #[.int .i64 share, .int .i64 room, .slice (some ⟨b, o, none⟩) es.length c, .slice A' gs.length c'] 36)) (.cells #[.int .i64 x.i, .int .i64 x.r, .int .i64 x.m] 30)) (.cells #[.int .i64 0, .int .i64 0, .slice none 0 0, .slice none 0 0] 36)
  have hk4 : (((w.alloc (.cells #[.int .i64 share, .int .i64 room, .slice (some ⟨b, o, none⟩) es.length c, .slice A' gs.length c'] 36)).alloc (.cells #[.int .i64 x.i, .int .i64 x.r, .int .i64 x.m] 30)).alloc (.cells #[.int .i64 0, .int .i64 0, .slice none 0 0, .slice none 0 0] 36)).heap[w.heap.size]? = some (.cells #[.int .i64 share, .int .i64 room, .slice (some ⟨b, o, none⟩) es.length c, .slice A' gs.length c'] 36 (0, 0)) := ((bl_alloc (bl_alloc (Below.refl _ _) _) _).block w.heap.size (by simp)).trans (at_alloc rfl)
  have hk5 : (((w.alloc (.cells #[.int .i64 share, .int .i64 room, .slice (some ⟨b, o, none⟩) es.length c, .slice A' gs.length c'] 36)).alloc (.cells #[.int .i64 x.i, .int .i64 x.r, .int .i64 x.m] 30)).alloc (.cells #[.int .i64 0, .int .i64 0, .slice none 0 0, .slice none 0 0] 36)).heap[w.heap.size + 1]? = some (.cells #[.int .i64 x.i, .int .i64 x.r, .int .i64 x.m] 30 (0, 0)) := ((bl_alloc (Below.refl _ _) _).block (w.heap.size + 1) (by simp)).trans (at_alloc (by simp))
  have hk6 : (((w.alloc (.cells #[.int .i64 share, .int .i64 room, .slice (some ⟨b, o, none⟩) es.length c, .slice A' gs.length c'] 36)).alloc (.cells #[.int .i64 x.i, .int .i64 x.r, .int .i64 x.m] 30)).alloc (.cells #[.int .i64 0, .int .i64 0, .slice none 0 0, .slice none 0 0] 36)).heap[w.heap.size + 2]? = some (.cells #[.int .i64 0, .int .i64 0, .slice none 0 0, .slice none 0 0] 36 (0, 0)) := at_alloc (by simp)
  have HB1 := Lib.hid hb1
  have HK4 := Lib.hid hk4
  have HK5 := Lib.hid hk5
  have HK6 := Lib.hid hk6
  have HF' := Lib.hid hF'
  have HBX : Hid (1 ≤ x.r ∧ x.r ≤ 1000000 ∧ 0 ≤ x.m ∧ x.m ≤ 1000000000) := Lib.hid hbdx.2.2
  clear h hb1 hk hx hF hm hm1 hm2 hm3 hbc hk4 hk5 hk6 hF' hbdx hob
  generalize es.take k ++ es.drop (k + 1) = es' at HWO HF' hl' ⊢
  generalize hd : old.r - x.r = d
  have hsub2 : IntKind.i64.wrap (old.r - x.r) = d := by rw [hsub, hd]
  have HD := Lib.hid hd
  clear hd hsub
  generalize hyy : roomY share room es' gs x now = y
  generalize hgs : lingG gs d till = gs'
  generalize hie : insE x es' = ei
  have HGS := Lib.hid hgs
  have HIE := Lib.hid hie
  have HYY := Lib.hid hyy
  clear hgs hie hyy
  go_enter Try.func30, Try.ntmps30
  go_wp2_with fail
  generalize (((w.alloc (.cells #[.int .i64 share, .int .i64 room, .slice (some ⟨b, o, none⟩) es.length c, .slice A' gs.length c'] 36)).alloc (.cells #[.int .i64 x.i, .int .i64 x.r, .int .i64 x.m] 30)).alloc (.cells #[.int .i64 0, .int .i64 0, .slice none 0 0, .slice none 0 0] 36)) = w1 at HB1 HK4 HK5 HK6 ⊢
  refine (right_ref x _).mono ?_
  rintro e w2 ⟨rfl, hb2⟩
  rw [HM1.out]
  have hk42 := (hb2.block w.heap.size (Array.getElem?_eq_some_iff.1 HK4.out).1).trans HK4.out
  have hk52 := (hb2.block (w.heap.size + 1) (Array.getElem?_eq_some_iff.1 HK5.out).1).trans HK5.out
  have hk62 := (hb2.block (w.heap.size + 2) (Array.getElem?_eq_some_iff.1 HK6.out).1).trans HK6.out
  have HBW2 := Lib.hid (bl_then HB1.out hb2)
  have x0 : w2.cell? ⟨w.heap.size + 1, 0, none⟩ = some (.int .i64 x.i) := by rw [cell_blk hk52]; rfl
  have l0 : w2.cell? ⟨w.heap.size, 0, none⟩ = some (.int .i64 share) := by rw [cell_blk hk42]; rfl
  have l1 : w2.cell? ⟨w.heap.size, 1, none⟩ = some (.int .i64 room) := by rw [cell_blk hk42]; rfl
  have l2 : w2.cell? ⟨w.heap.size, 2, none⟩ = some (.slice (some ⟨b, o, none⟩) es.length c) := by rw [cell_blk hk42]; rfl
  have l3 : w2.cell? ⟨w.heap.size, 3, none⟩ = some (.slice A' gs.length c') := by rw [cell_blk hk42]; rfl
  have HK42 := Lib.hid hk42
  have HK52 := Lib.hid hk52
  have HK62 := Lib.hid hk62
  clear hb2 hk42 hk52 hk62
  go_wp2_with (go_at_call 53; refine (tick_ref _ _).mono ?_; rintro e w' ⟨rfl, rfl⟩; first | rw [HM2.out] | rw [HM3.out])
  refine (HFD.out _ HBW2.out).mono ?_
  rintro e w3 ⟨rfl, hb3⟩
  have l0' := bl_cell hb3 l0
  have l1' := bl_cell hb3 l1
  have l2' := bl_cell hb3 l2
  have l3' := bl_cell hb3 l3
  have HB3 := Lib.hid hb3
  clear l0 l1 l2 l3 x0 hb3
  go_wp2_with fail
  refine (HWO.out w3 (bl_then HBW2.out HB3.out)).mono ?_
  rintro e w4 ⟨⟨v4, rfl, hs4, hf4⟩, hb4⟩
  obtain ⟨A4, c4, rfl⟩ := hs4.slice
  have hz4 := hb4.size
  have HS4 := Lib.hid hs4
  have HF4 := Lib.hid hf4
  have HB4 := Lib.hid (bl_then HB3.out hb4)
  have HZ3 := Lib.hid HB3.out.size
  have hk54 := (HB4.out.block (w.heap.size + 1) (Array.getElem?_eq_some_iff.1 HK52.out).1).trans HK52.out
  have hz5 : w.heap.size + 1 < w4.heap.size := (Array.getElem?_eq_some_iff.1 hk54).1
  have hz5' : w.heap.size < w4.heap.size := by omega
  have y0 : w4.cell? ⟨w.heap.size + 1, 0, none⟩ = some (.int .i64 x.i) := by rw [cell_blk hk54]; rfl
  have y1 : w4.cell? ⟨w.heap.size + 1, 1, none⟩ = some (.int .i64 x.r) := by rw [cell_blk hk54]; rfl
  have y2 : w4.cell? ⟨w.heap.size + 1, 2, none⟩ = some (.int .i64 x.m) := by rw [cell_blk hk54]; rfl
  clear l0' l1' l2' l3' hs4 hf4 hb4 hk54
  go_wp2_with fail
  have hb5 := bl_alloc (Below.refl w4.heap.size w4) (.cells #[.int .i64 share, .int .i64 room, .slice A4 es'.length c4, .slice A' gs.length c'] 36)
  have hrm := room_ref share room _ _ es' gs x now _ ⟨HS4.out.below hb5, H.out.g.below ((bl_then HBW2.out HB4.out).trans (hb5.mono (by have := (bl_then HBW2.out HB4.out).size; omega)))⟩ HF'.out HBX.out
  rw [HYY.out] at hrm
  have hk75 : (w4.alloc (.cells #[.int .i64 share, .int .i64 room, .slice A4 es'.length c4, .slice A' gs.length c'] 36)).heap[w4.heap.size]? = some (.cells #[.int .i64 share, .int .i64 room, .slice A4 es'.length c4, .slice A' gs.length c'] 36 (0, 0)) := at_alloc rfl
  have HK75 := Lib.hid hk75
  have HB5 := Lib.hid hb5
  clear hk75 hb5
  refine hrm.mono ?_
  rintro e w6 ⟨rfl, hb6⟩
  have HB6 : Hid (Below w4.heap.size w4 w6) := Lib.hid (HB5.out.trans (hb6.mono (by simp)))
  have hk76 := (hb6.block w4.heap.size (by simp)).trans HK75.out
  have HBW6 : Hid (Below w.heap.size w w6) := Lib.hid (bl_then (bl_then HBW2.out HB4.out) HB6.out)
  have HB26 : Hid (Below w2.heap.size w2 w6) := Lib.hid (bl_then HB4.out HB6.out)
  have hk46 := (HB26.out.block w.heap.size (Array.getElem?_eq_some_iff.1 HK42.out).1).trans HK42.out
  have hk56 := (HB26.out.block (w.heap.size + 1) (Array.getElem?_eq_some_iff.1 HK52.out).1).trans HK52.out
  have hk66 := (HB26.out.block (w.heap.size + 2) (Array.getElem?_eq_some_iff.1 HK62.out).1).trans HK62.out
  obtain ⟨o0, o1, o2, o3, f0, f1, f2, f3⟩ := ref_cells hk66
  have m0 : w6.cell? ⟨w.heap.size, 0, none⟩ = some (.int .i64 share) := by rw [cell_blk hk46]; rfl
  have m1 : w6.cell? ⟨w.heap.size, 1, none⟩ = some (.int .i64 room) := by rw [cell_blk hk46]; rfl
  have m2 : w6.cell? ⟨w.heap.size, 2, none⟩ = some (.slice (some ⟨b, o, none⟩) es.length c) := by rw [cell_blk hk46]; rfl
  have m3 : w6.cell? ⟨w.heap.size, 3, none⟩ = some (.slice A' gs.length c') := by rw [cell_blk hk46]; rfl
  have hz24 : w.heap.size + 2 < w4.heap.size := by
    have := (HB4.out.block (w.heap.size + 2) (Array.getElem?_eq_some_iff.1 HK62.out).1).trans HK62.out
    exact (Array.getElem?_eq_some_iff.1 this).1
  have hz66 : w.heap.size + 2 < w6.heap.size := (Array.getElem?_eq_some_iff.1 hk66).1
  have HK66 := Lib.hid hk66
  have HK46 := Lib.hid hk46
  have HK56 := Lib.hid hk56
  have HK76 := Lib.hid hk76
  clear hrm hb6 hk46 hk56 hk66 hk76 y0 y1 y2
  by_cases hy : y = 0
  · subst hy
    go_upto_region 10 with fail
    have HS : Hid (∀ W, Below w6.heap.size w6 W → (fun w' => (w'.cell? ⟨w4.heap.size, 0, none⟩ = some (.int .i64 share) ∧ w'.cell? ⟨w4.heap.size, 1, none⟩ = some (.int .i64 room) ∧ w'.cell? ⟨w4.heap.size, 2, none⟩ = some (.slice A4 es'.length c4) ∧ w'.cell? ⟨w4.heap.size, 3, none⟩ = some (.slice A' gs.length c')) ∧ (w'.cell? ⟨w.heap.size + 1, 0, none⟩ = some (.int .i64 x.i) ∧ w'.cell? ⟨w.heap.size + 1, 1, none⟩ = some (.int .i64 x.r) ∧ w'.cell? ⟨w.heap.size + 1, 2, none⟩ = some (.int .i64 x.m)) ∧ w'.cell? ⟨w.heap.size, 2, none⟩ = some (.slice (some ⟨b, o, none⟩) es.length c) ∧ w'.cell? ⟨b, o + k * 3 + 1, none⟩ = some (.int .i64 old.r)) W) := Lib.hid fun W hW =>
      ⟨⟨bl_cell hW (by rw [cell_blk HK76.out]; rfl), bl_cell hW (by rw [cell_blk HK76.out]; rfl), bl_cell hW (by rw [cell_blk HK76.out]; rfl), bl_cell hW (by rw [cell_blk HK76.out]; rfl)⟩,
        ⟨bl_cell hW (by rw [cell_blk HK56.out]; rfl), bl_cell hW (by rw [cell_blk HK56.out]; rfl), bl_cell hW (by rw [cell_blk HK56.out]; rfl)⟩, bl_cell hW (by rw [cell_blk HK46.out]; rfl), bl_cell hW (bl_cell HBW6.out HBC.out)⟩
    have HS2 : Hid (∀ W a0 a1 a2 a3, Below w6.heap.size w6 W → (fun w' => (w'.cell? ⟨w4.heap.size, 0, none⟩ = some (.int .i64 share) ∧ w'.cell? ⟨w4.heap.size, 1, none⟩ = some (.int .i64 room) ∧ w'.cell? ⟨w4.heap.size, 2, none⟩ = some (.slice A4 es'.length c4) ∧ w'.cell? ⟨w4.heap.size, 3, none⟩ = some (.slice A' gs.length c')) ∧ (w'.cell? ⟨w.heap.size + 1, 0, none⟩ = some (.int .i64 x.i) ∧ w'.cell? ⟨w.heap.size + 1, 1, none⟩ = some (.int .i64 x.r) ∧ w'.cell? ⟨w.heap.size + 1, 2, none⟩ = some (.int .i64 x.m)) ∧ w'.cell? ⟨w.heap.size, 2, none⟩ = some (.slice (some ⟨b, o, none⟩) es.length c) ∧ w'.cell? ⟨b, o + k * 3 + 1, none⟩ = some (.int .i64 old.r)) ((((W.setCell ⟨w.heap.size + 2, 0, none⟩ a0).setCell ⟨w.heap.size + 2, 1, none⟩ a1).setCell ⟨w.heap.size + 2, 2, none⟩ a2).setCell ⟨w.heap.size + 2, 3, none⟩ a3)) := Lib.hid fun W a0 a1 a2 a3 hW => by
      obtain ⟨⟨q0, q1, q2, q3⟩, ⟨q4, q5, q6⟩, q7, q8⟩ := HS.out W hW
      exact ⟨⟨cell_set4 q0 (by omega), cell_set4 q1 (by omega), cell_set4 q2 (by omega), cell_set4 q3 (by omega)⟩, ⟨cell_set4 q4 (by omega), cell_set4 q5 (by omega), cell_set4 q6 (by omega)⟩, cell_set4 q7 (by omega), cell_set4 q8 (by omega)⟩
    first
    | go_region_held3 (fun w' => (w'.cell? ⟨w4.heap.size, 0, none⟩ = some (.int .i64 share) ∧ w'.cell? ⟨w4.heap.size, 1, none⟩ = some (.int .i64 room) ∧ w'.cell? ⟨w4.heap.size, 2, none⟩ = some (.slice A4 es'.length c4) ∧ w'.cell? ⟨w4.heap.size, 3, none⟩ = some (.slice A' gs.length c')) ∧ (w'.cell? ⟨w.heap.size + 1, 0, none⟩ = some (.int .i64 x.i) ∧ w'.cell? ⟨w.heap.size + 1, 1, none⟩ = some (.int .i64 x.r) ∧ w'.cell? ⟨w.heap.size + 1, 2, none⟩ = some (.int .i64 x.m)) ∧ w'.cell? ⟨w.heap.size, 2, none⟩ = some (.slice (some ⟨b, o, none⟩) es.length c) ∧ w'.cell? ⟨b, o + k * 3 + 1, none⟩ = some (.int .i64 old.r))
        (first
          | exact HS.out _ (by solve | exact hbw8 | exact hbw7 | exact bl_drew (Below.refl _ _))
          | exact HS2.out _ _ _ _ _ hbw8)
        (first
          | (go_at_call 55; refine (with_ref share room _ _ es' gs x _ ⟨HS4.out.below ((HB6.out.trans (bl_drew (Below.refl _ _))).mono (by omega)), H.out.g.below (bl_then HBW6.out (bl_drew (Below.refl _ _)))⟩ (by omega)).mono ?_; rintro e w7 ⟨⟨v7, rfl, hs7, hf7⟩, hb7⟩; have hbw7 : Below w6.heap.size w6 w7 := (bl_drew (Below.refl _ _)).trans hb7; rw [HIE.out] at hs7; obtain ⟨A7, c7, rfl⟩ := hs7.slice; have HS7 := Lib.hid hs7; have HF7 := Lib.hid hf7; clear hs7 hf7)
          | (go_at_call 57; refine (linger_ref share room _ _ ei gs d till _ ⟨HS7.out, H.out.g.below (bl_then HBW6.out hbw7)⟩ (by omega)).mono ?_; rintro e w8 ⟨⟨v8, rfl, hs8, hf8⟩, hb8⟩; have hbw8 : Below w6.heap.size w6 w8 := bl_then hbw7 hb8; rw [HGS.out] at hs8; obtain ⟨A8, c8, rfl⟩ := hs8.slice; have HS8 := Lib.hid hs8; have HF8 := Lib.hid hf8; have HSE8 := Lib.hid (HS7.out.below hb8); obtain ⟨n0, n1, n2, n3, g0, g1, g2, g3⟩ := ref_cells ((hbw8.block (w.heap.size + 2) hz66).trans HK66.out); clear hs8 hf8))
    | fail "held3"
    all_goals
      have HBW8 := Lib.hid hbw8
      have HZ7 := Lib.hid hbw7.size
      have hz8 := hbw8.size
      have HK68 := Lib.hid ((hbw8.block (w.heap.size + 2) hz66).trans HK66.out)
      have hz06 := HBW6.out.size
      clear hbw8 hb8 hb7 hbw7
      go_wp2_with fail
      have S4 := set4 (a0 := .int .i64 share) (a1 := .int .i64 room) (a2 := .slice A7 ei.length c7) (a3 := .slice A8 gs'.length c8) HK68.out
      have s0 := S4 0 _ rfl
      have s1 := S4 1 _ rfl
      have s2 := S4 2 _ rfl
      have s3 := S4 3 _ rfl
      refine bodyPost_ret (v := .tuple #[refV share room (.slice A7 ei.length c7) (.slice A8 gs'.length c8), .int .i64 0]) (by simp [results, Try.results30, go_sem, s0, s1, s2, s3]) rfl ⟨ChangeOut.yes ?_ ?_ (HF7.out.mono hz06) ?_, ?_⟩
      · refine sat_set4 HSE8.out (fun q o n c hv => ?_)
        have hq : w6.heap.size ≤ q := HF7.out q o n c hv
        omega
      · rcases HF8.out with hh | ⟨hv, hg⟩
        · refine sat_set4 HS8.out (fun q o n c hv => ?_)
          have hq := hh q o n c hv
          have := HZ7.out
          omega
        · rw [hv, ← HGS.out, hg]
          exact H.out.g.below (by repeat (first | exact bl_then HBW6.out HBW8.out | refine bl_set ?_ (by simp <;> omega) _))
      · rcases HF8.out with hh | ⟨hv, hg⟩
        · exact Or.inl (hh.mono (by have := HZ7.out; omega))
        · exact Or.inr ⟨hv, by rw [HGS.out] at hg; exact hg⟩
      · repeat (first | exact bl_then HBW6.out HBW8.out | refine bl_set ?_ (by simp <;> omega) _)
  · have hyb : (y == 0) = false := beq_eq_false_iff_ne.2 hy
    go_wp2_with fail
    have S4 := set4 (a0 := .int .i64 share) (a1 := .int .i64 room) (a2 := .slice (some ⟨b, o, none⟩) es.length c) (a3 := .slice A' gs.length c') HK66.out
    have s0 := S4 0 _ rfl
    have s1 := S4 1 _ rfl
    have s2 := S4 2 _ rfl
    have s3 := S4 3 _ rfl
    refine bodyPost_ret (v := .tuple #[refV share room (.slice (some ⟨b, o, none⟩) es.length c) (.slice A' gs.length c'), .int .i64 y]) (by simp [results, Try.results30, go_sem, s0, s1, s2, s3]) rfl ⟨ChangeOut.no hy, ?_⟩
    repeat (first | exact HBW6.out | refine bl_set ?_ (by simp <;> omega) _)
end Go.Proofs.Ytfnijjjfodpnnaa
