/- Ledger: the document's Give, Change, Free, where they refuse. -/
import Derived.Test.YtfnijjjfodpnnaaLedK
namespace Go.Proofs.Ytfnijjjfodpnnaa
open Go.RowKit Go.Shelf

theorem at_alloc {w : World} {o : Obj} {n : Nat} (h : n = w.heap.size) : (w.alloc o).heap[n]? = some o := h ▸ (MapKept.heap_alloc w o).1
theorem set4 {w : World} {b : Nat} {v0 v1 v2 v3 a0 a1 a2 a3 : Value} {t : TypeId} {fr : Nat × Nat} (h : w.heap[b]? = some (.cells #[v0, v1, v2, v3] t fr)) :
    ∀ o v, #[a0, a1, a2, a3][o]? = some v → ((((w.setCell ⟨b, 0, none⟩ a0).setCell ⟨b, 1, none⟩ a1).setCell ⟨b, 2, none⟩ a2).setCell ⟨b, 3, none⟩ a3).cell? ⟨b, o, none⟩ = some v := by
  have h2 : ((((w.setCell ⟨b, 0, none⟩ a0).setCell ⟨b, 1, none⟩ a1).setCell ⟨b, 2, none⟩ a2).setCell ⟨b, 3, none⟩ a3).heap[b]? = some (.cells #[a0, a1, a2, a3] t fr) := by
    simp [World.setCell, Array.getElem?_modify, h]
  intro o v hv
  rw [cell_blk h2]
  exact hv
set_option maxRecDepth 100000 in
set_option maxHeartbeats 400000 in
theorem give_ref_no (share room : Int) (ve vl : Value) (es : List En) (gs : List Ling) (x : En) (now : Int) (w : World) (h : RefAt w ve vl es gs) (hF : Fine es gs) (hy : fitsY share room es gs x now ≠ 0) :
    Calls Try.prog 29 #[refV share room ve vl, .agg #[.int .i64 x.i, .int .i64 x.r, .int .i64 x.m], .int .i64 now] w fun e w' => e = .returned (.tuple #[refV share room ve vl, .int .i64 (fitsY share room es gs x now)]) ∧ Below w.heap.size w w' := by
  obtain ⟨A, c, rfl⟩ := h.e.slice
  obtain ⟨A', c', rfl⟩ := h.g.slice
  have hb1 := bl_alloc (bl_alloc (bl_alloc (Below.refl w.heap.size w) (.cells #[.int .i64 share, .int .i64 room, .slice A es.length c, .slice A' gs.length c'] 36)) (.cells #[.int .i64 x.i, .int .i64 x.r, .int .i64 x.m] 30)) (.cells #[.int .i64 0, .int .i64 0, .slice none 0 0, .slice none 0 0] 36)
  have hft := fits_ref share room _ _ es gs x now _ (h.below hb1) hF
  have HB1 := Lib.hid hb1
  generalize fitsY share room es gs x now = y at hft hy ⊢
  clear h hF hb1
  go_enter Try.func29, Try.ntmps29
  go_wp2_with fail
  refine hft.mono ?_
  rintro e w1 ⟨rfl, hb⟩
  have l0 : w1.cell? ⟨w.heap.size, 0, none⟩ = some (.int .i64 share) := bl_cell hb (by go_simp)
  have l1 : w1.cell? ⟨w.heap.size, 1, none⟩ = some (.int .i64 room) := bl_cell hb (by go_simp)
  have l2 : w1.cell? ⟨w.heap.size, 2, none⟩ = some (.slice A es.length c) := bl_cell hb (by go_simp)
  have l3 : w1.cell? ⟨w.heap.size, 3, none⟩ = some (.slice A' gs.length c') := bl_cell hb (by go_simp)
  have o0 : w1.cell? ⟨w.heap.size + 2, 0, none⟩ = some (.int .i64 0) := bl_cell hb (by go_simp)
  have o1 : w1.cell? ⟨w.heap.size + 2, 1, none⟩ = some (.int .i64 0) := bl_cell hb (by go_simp)
  have o2 : w1.cell? ⟨w.heap.size + 2, 2, none⟩ = some (.slice none 0 0) := bl_cell hb (by go_simp)
  have o3 : w1.cell? ⟨w.heap.size + 2, 3, none⟩ = some (.slice none 0 0) := bl_cell hb (by go_simp)
  have f0 : ∀ j, w1.frozen? ⟨w.heap.size + 2, j, none⟩ = false := fun j => (hb.frozen (p := ⟨w.heap.size + 2, j, none⟩) (by simp)).trans (by go_simp)
  have f00 := f0 0
  have f01 := f0 1
  have f02 := f0 2
  have f03 := f0 3
  have HBK : Hid (w1.heap[w.heap.size + 2]? = some (.cells #[.int .i64 0, .int .i64 0, .slice none 0 0, .slice none 0 0] 36 (0, 0))) := Lib.hid ((hb.block (w.heap.size + 2) (by simp)).trans (at_alloc (by simp)))
  have hbw : Below w.heap.size w w1 := HB1.out.trans (hb.mono (by simp <;> omega))
  have HBW := Lib.hid hbw
  clear hft hb f0 hbw
  go_wp2_with fail
  have S4 := set4 (a0 := .int .i64 share) (a1 := .int .i64 room) (a2 := .slice A es.length c) (a3 := .slice A' gs.length c') HBK.out
  have s0 := S4 0 _ rfl
  have s1 := S4 1 _ rfl
  have s2 := S4 2 _ rfl
  have s3 := S4 3 _ rfl
  refine bodyPost_ret (v := .tuple #[.agg #[.int .i64 share, .int .i64 room, .slice A es.length c, .slice A' gs.length c'], .int .i64 y]) (by simp [results, Try.results29, go_sem, s0, s1, s2, s3]) rfl ⟨rfl, ?_⟩
  repeat (first | exact HBW.out | refine bl_set ?_ (by simp <;> omega) _)

/-- What stands in the result's cell when the ledger was stored there. -/
theorem ref_cells {w1 : World} {b : Nat} (h : w1.heap[b]? = some (.cells #[.int .i64 0, .int .i64 0, .slice none 0 0, .slice none 0 0] 36 (0, 0))) :
    w1.cell? ⟨b, 0, none⟩ = some (.int .i64 0) ∧ w1.cell? ⟨b, 1, none⟩ = some (.int .i64 0) ∧ w1.cell? ⟨b, 2, none⟩ = some (.slice none 0 0) ∧ w1.cell? ⟨b, 3, none⟩ = some (.slice none 0 0) ∧
    w1.frozen? ⟨b, 0, none⟩ = false ∧ w1.frozen? ⟨b, 1, none⟩ = false ∧ w1.frozen? ⟨b, 2, none⟩ = false ∧ w1.frozen? ⟨b, 3, none⟩ = false := by
  refine ⟨by rw [cell_blk h]; rfl, by rw [cell_blk h]; rfl, by rw [cell_blk h]; rfl, by rw [cell_blk h]; rfl, ?_, ?_, ?_, ?_⟩ <;> simp [World.frozen?, h]
set_option maxRecDepth 100000 in
set_option maxHeartbeats 1000000 in
theorem change_ref_no (share room : Int) (ve vl : Value) (es : List En) (gs : List Ling) (x : En) (now till : Int) (w : World) (h : RefAt w ve vl es gs) (hy : mayB x [now, till] = false ∨ findN es x.i < 0) :
    Calls Try.prog 30 #[refV share room ve vl, .agg #[.int .i64 x.i, .int .i64 x.r, .int .i64 x.m], .int .i64 now, .int .i64 till] w fun e w' => e = .returned (.tuple #[refV share room ve vl, .int .i64 (if mayB x [now, till] = false then 2 else 5)]) ∧ Below w.heap.size w w' := by
  obtain ⟨A, c, rfl⟩ := h.e.slice
  obtain ⟨A', c', rfl⟩ := h.g.slice
  have hb1 := bl_alloc (bl_alloc (bl_alloc (Below.refl w.heap.size w) (.cells #[.int .i64 share, .int .i64 room, .slice A es.length c, .slice A' gs.length c'] 36)) (.cells #[.int .i64 x.i, .int .i64 x.r, .int .i64 x.m] 30)) (.cells #[.int .i64 0, .int .i64 0, .slice none 0 0, .slice none 0 0] 36)
  have HFD : Hid (∀ W, Below w.heap.size w W → Calls Try.prog 23 #[refV share room (.slice A es.length c) (.slice A' gs.length c'), .int .i64 x.i] W fun e w' => e = .returned (.int .i64 (findN es x.i)) ∧ Below W.heap.size W w') := Lib.hid fun W hW => find_ref share room _ _ es gs x.i W (h.below hW)
  have HB1 := Lib.hid hb1
  have hmm : mayB x [now, till] = (mayB x [] && wi now 0 4611686018427387904 && wi till 0 4611686018427387904) := by simp [mayB, Bool.and_assoc]
  rw [hmm] at hy ⊢
  generalize hfn : findN es x.i = fn at HFD hy ⊢
  clear h hb1 hmm hfn
  cases hq1 : mayB x []
  all_goals cases hq2 : wi now 0 4611686018427387904
  all_goals cases hq3 : wi till 0 4611686018427387904
  all_goals
    rw [hq1, hq2, hq3] at hy
    have HY := Lib.hid hy
    have HQ1 := Lib.hid hq1
    have HQ2 := Lib.hid hq2
    have HQ3 := Lib.hid hq3
    clear hq1 hq2 hq3 hy
    go_enter Try.func30, Try.ntmps30
    go_wp2_with fail
    refine (right_ref x _).mono ?_
    rintro e w1 ⟨rfl, hb⟩
    rw [HQ1.out]
    have l0 : w1.cell? ⟨w.heap.size, 0, none⟩ = some (.int .i64 share) := bl_cell hb (by go_simp)
    have l1 : w1.cell? ⟨w.heap.size, 1, none⟩ = some (.int .i64 room) := bl_cell hb (by go_simp)
    have l2 : w1.cell? ⟨w.heap.size, 2, none⟩ = some (.slice A es.length c) := bl_cell hb (by go_simp)
    have l3 : w1.cell? ⟨w.heap.size, 3, none⟩ = some (.slice A' gs.length c') := bl_cell hb (by go_simp)
    have x0 : w1.cell? ⟨w.heap.size + 1, 0, none⟩ = some (.int .i64 x.i) := bl_cell hb (by go_simp)
    have hbk : w1.heap[w.heap.size + 2]? = some (.cells #[.int .i64 0, .int .i64 0, .slice none 0 0, .slice none 0 0] 36 (0, 0)) := (hb.block (w.heap.size + 2) (by simp)).trans (at_alloc (by simp))
    obtain ⟨o0, o1, o2, o3, f0, f1, f2, f3⟩ := ref_cells hbk
    have HBK := Lib.hid hbk
    have hbw : Below w.heap.size w w1 := HB1.out.trans (hb.mono (by simp <;> omega))
    have HBW := Lib.hid hbw
    clear hb hbw hbk
  all_goals
    go_wp2_with (go_at_call 53; refine (tick_ref _ _).mono ?_; rintro e w' ⟨rfl, rfl⟩; first | rw [HQ2.out] | rw [HQ3.out])
  iterate 7
    · have S4 := set4 (a0 := .int .i64 share) (a1 := .int .i64 room) (a2 := .slice A es.length c) (a3 := .slice A' gs.length c') HBK.out
      have s0 := S4 0 _ rfl
      have s1 := S4 1 _ rfl
      have s2 := S4 2 _ rfl
      have s3 := S4 3 _ rfl
      refine bodyPost_ret (v := .tuple #[.agg #[.int .i64 share, .int .i64 room, .slice A es.length c, .slice A' gs.length c'], .int .i64 2]) (by simp [results, Try.results30, go_sem, s0, s1, s2, s3]) rfl ⟨rfl, ?_⟩
      repeat (first | exact HBW.out | refine bl_set ?_ (by simp <;> omega) _)
  have hfn : fn < 0 := by 
    rcases HY.out with h | h
    · exact absurd h (by decide)
    · exact h
  refine (HFD.out _ HBW.out).mono ?_
  rintro e w2 ⟨rfl, hb2⟩
  have hbk2 := (hb2.block (w.heap.size + 2) (Array.getElem?_eq_some_iff.1 HBK.out).1).trans HBK.out
  have m0 := bl_cell hb2 l0
  have m1 := bl_cell hb2 l1
  have m2 := bl_cell hb2 l2
  have m3 := bl_cell hb2 l3
  obtain ⟨p0, p1, p2, p3, q0, q1, q2, q3⟩ := ref_cells hbk2
  have HBK2 := Lib.hid hbk2
  have HB2 := Lib.hid hb2
  clear hb2 hbk2 l0 l1 l2 l3 x0 o0 o1 o2 o3 f0 f1 f2 f3
  go_wp2_with fail
  have S4 := set4 (a0 := .int .i64 share) (a1 := .int .i64 room) (a2 := .slice A es.length c) (a3 := .slice A' gs.length c') HBK2.out
  have s0 := S4 0 _ rfl
  have s1 := S4 1 _ rfl
  have s2 := S4 2 _ rfl
  have s3 := S4 3 _ rfl
  refine bodyPost_ret (v := .tuple #[.agg #[.int .i64 share, .int .i64 room, .slice A es.length c, .slice A' gs.length c'], .int .i64 5]) (by simp [results, Try.results30, go_sem, s0, s1, s2, s3]) rfl ⟨rfl, ?_⟩
  repeat (first | exact bl_then HBW.out HB2.out | refine bl_set ?_ (by simp <;> omega) _)
set_option maxRecDepth 100000 in
set_option maxHeartbeats 1000000 in
theorem free_ref_no (share room : Int) (ve vl : Value) (es : List En) (gs : List Ling) (i till : Int) (w : World) (h : RefAt w ve vl es gs) (hy : (wi i 0 2147483647 && wi till 0 4611686018427387904) = false ∨ findN es i < 0) :
    Calls Try.prog 31 #[refV share room ve vl, .int .i64 i, .int .i64 till] w fun e w' => e = .returned (.tuple #[refV share room ve vl, .int .i64 (if (wi i 0 2147483647 && wi till 0 4611686018427387904) = false then 2 else 5)]) ∧ Below w.heap.size w w' := by
  obtain ⟨A, c, rfl⟩ := h.e.slice
  obtain ⟨A', c', rfl⟩ := h.g.slice
  have hb1 := bl_alloc (bl_alloc (Below.refl w.heap.size w) (.cells #[.int .i64 share, .int .i64 room, .slice A es.length c, .slice A' gs.length c'] 36)) (.cells #[.int .i64 0, .int .i64 0, .slice none 0 0, .slice none 0 0] 36)
  have HFD : Hid (∀ W, Below w.heap.size w W → Calls Try.prog 23 #[refV share room (.slice A es.length c) (.slice A' gs.length c'), .int .i64 i] W fun e w' => e = .returned (.int .i64 (findN es i)) ∧ Below W.heap.size W w') := Lib.hid fun W hW => find_ref share room _ _ es gs i W (h.below hW)
  have HB1 := Lib.hid hb1
  have hbk : ((w.alloc (.cells #[.int .i64 share, .int .i64 room, .slice A es.length c, .slice A' gs.length c'] 36)).alloc (.cells #[.int .i64 0, .int .i64 0, .slice none 0 0, .slice none 0 0] 36)).heap[w.heap.size + 1]? = some (.cells #[.int .i64 0, .int .i64 0, .slice none 0 0, .slice none 0 0] 36 (0, 0)) := at_alloc (by simp)
  have HBK := Lib.hid hbk
  generalize hfn : findN es i = fn at HFD hy ⊢
  clear h hb1 hfn hbk
  have hii : (0 ≤ i ∧ i ≤ 2147483647 ∧ wi i 0 2147483647 = true) ∨ (i < 0 ∧ wi i 0 2147483647 = false) ∨ (0 ≤ i ∧ 2147483647 < i ∧ wi i 0 2147483647 = false) := by
    unfold wi
    by_cases h1 : 0 ≤ i <;> by_cases h2 : i ≤ 2147483647 <;> simp [h1, h2] <;> omega
  rcases hii with ⟨i1, i2, hq1⟩ | ⟨i1, hq1⟩ | ⟨i1, i2, hq1⟩
  all_goals cases hq2 : wi till 0 4611686018427387904
  all_goals
    rw [hq1] at hy ⊢
    rw [hq2] at hy
    have HY := Lib.hid hy
    have HQ2 := Lib.hid hq2
    clear hq2 hy hq1
    try have n1 : ¬ i < 0 := by omega
    try have n2 : ¬ 2147483647 < i := by omega
    go_enter Try.func31, Try.ntmps31
  rotate_left 1
  · go_wp2_with (go_at_call 53; refine (tick_ref _ _).mono ?_; rintro e w' ⟨rfl, rfl⟩; rw [HQ2.out])
    have hfn : fn < 0 := by
      rcases HY.out with h | h
      · exact absurd h (by decide)
      · exact h
    have l0 : ((w.alloc (.cells #[.int .i64 share, .int .i64 room, .slice A es.length c, .slice A' gs.length c'] 36)).alloc (.cells #[.int .i64 0, .int .i64 0, .slice none 0 0, .slice none 0 0] 36)).cell? ⟨w.heap.size, 0, none⟩ = some (.int .i64 share) := by go_simp
    have l1 : ((w.alloc (.cells #[.int .i64 share, .int .i64 room, .slice A es.length c, .slice A' gs.length c'] 36)).alloc (.cells #[.int .i64 0, .int .i64 0, .slice none 0 0, .slice none 0 0] 36)).cell? ⟨w.heap.size, 1, none⟩ = some (.int .i64 room) := by go_simp
    have l2 : ((w.alloc (.cells #[.int .i64 share, .int .i64 room, .slice A es.length c, .slice A' gs.length c'] 36)).alloc (.cells #[.int .i64 0, .int .i64 0, .slice none 0 0, .slice none 0 0] 36)).cell? ⟨w.heap.size, 2, none⟩ = some (.slice A es.length c) := by go_simp
    have l3 : ((w.alloc (.cells #[.int .i64 share, .int .i64 room, .slice A es.length c, .slice A' gs.length c'] 36)).alloc (.cells #[.int .i64 0, .int .i64 0, .slice none 0 0, .slice none 0 0] 36)).cell? ⟨w.heap.size, 3, none⟩ = some (.slice A' gs.length c') := by go_simp
    refine (HFD.out _ HB1.out).mono ?_
    rintro e w2 ⟨rfl, hb2⟩
    have hbk2 := (hb2.block (w.heap.size + 1) (Array.getElem?_eq_some_iff.1 HBK.out).1).trans HBK.out
    have m0 := bl_cell hb2 l0
    have m1 := bl_cell hb2 l1
    have m2 := bl_cell hb2 l2
    have m3 := bl_cell hb2 l3
    obtain ⟨p0, p1, p2, p3, q0, q1, q2, q3⟩ := ref_cells hbk2
    have HBK2 := Lib.hid hbk2
    have HB2 := Lib.hid hb2
    clear hb2 hbk2 l0 l1 l2 l3
    go_wp2_with fail
    have S4 := set4 (a0 := .int .i64 share) (a1 := .int .i64 room) (a2 := .slice A es.length c) (a3 := .slice A' gs.length c') HBK2.out
    have s0 := S4 0 _ rfl
    have s1 := S4 1 _ rfl
    have s2 := S4 2 _ rfl
    have s3 := S4 3 _ rfl
    refine bodyPost_ret (v := .tuple #[.agg #[.int .i64 share, .int .i64 room, .slice A es.length c, .slice A' gs.length c'], .int .i64 5]) (by simp [results, Try.results31, go_sem, s0, s1, s2, s3]) rfl ⟨rfl, ?_⟩
    repeat (first | exact bl_then HB1.out HB2.out | refine bl_set ?_ (by simp <;> omega) _)
  all_goals
    go_upto_region 2 with (go_at_call 53; refine (tick_ref _ _).mono ?_; rintro e w' ⟨rfl, rfl⟩; rw [HQ2.out])
    have l0 : ((w.alloc (.cells #[.int .i64 share, .int .i64 room, .slice A es.length c, .slice A' gs.length c'] 36)).alloc (.cells #[.int .i64 0, .int .i64 0, .slice none 0 0, .slice none 0 0] 36)).cell? ⟨w.heap.size, 0, none⟩ = some (.int .i64 share) := by go_simp
    have l1 : ((w.alloc (.cells #[.int .i64 share, .int .i64 room, .slice A es.length c, .slice A' gs.length c'] 36)).alloc (.cells #[.int .i64 0, .int .i64 0, .slice none 0 0, .slice none 0 0] 36)).cell? ⟨w.heap.size, 1, none⟩ = some (.int .i64 room) := by go_simp
    have l2 : ((w.alloc (.cells #[.int .i64 share, .int .i64 room, .slice A es.length c, .slice A' gs.length c'] 36)).alloc (.cells #[.int .i64 0, .int .i64 0, .slice none 0 0, .slice none 0 0] 36)).cell? ⟨w.heap.size, 2, none⟩ = some (.slice A es.length c) := by go_simp
    have l3 : ((w.alloc (.cells #[.int .i64 share, .int .i64 room, .slice A es.length c, .slice A' gs.length c'] 36)).alloc (.cells #[.int .i64 0, .int .i64 0, .slice none 0 0, .slice none 0 0] 36)).cell? ⟨w.heap.size, 3, none⟩ = some (.slice A' gs.length c') := by go_simp
    generalize (w.alloc (.cells #[.int .i64 share, .int .i64 room, .slice A es.length c, .slice A' gs.length c'] 36)).alloc (.cells #[.int .i64 0, .int .i64 0, .slice none 0 0, .slice none 0 0] 36) = w1 at HBK HB1 l0 l1 l2 l3 ⊢
    obtain ⟨o0, o1, o2, o3, f0, f1, f2, f3⟩ := ref_cells HBK.out
    go_wp2_with fail
    have S4 := set4 (a0 := .int .i64 share) (a1 := .int .i64 room) (a2 := .slice A es.length c) (a3 := .slice A' gs.length c') HBK.out
    have s0 := S4 0 _ rfl
    have s1 := S4 1 _ rfl
    have s2 := S4 2 _ rfl
    have s3 := S4 3 _ rfl
    refine bodyPost_ret (v := .tuple #[.agg #[.int .i64 share, .int .i64 room, .slice A es.length c, .slice A' gs.length c'], .int .i64 2]) (by simp [results, Try.results31, go_sem, s0, s1, s2, s3]) rfl ⟨rfl, ?_⟩
    repeat (first | exact HB1.out | refine bl_set ?_ (by simp <;> omega) _)
end Go.Proofs.Ytfnijjjfodpnnaa
