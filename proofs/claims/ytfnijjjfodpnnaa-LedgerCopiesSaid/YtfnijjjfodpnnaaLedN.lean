/- Ledger: does, with an empty ledger of the document. -/
import Derived.Test.YtfnijjjfodpnnaaLedM
namespace Go.Proofs.Ytfnijjjfodpnnaa
open Go.RowKit Go.Shelf

structure Turn where (op : Int) (e : En) (now till : Int)
def Turn.cells (a : Turn) : List Value := [.int .i64 a.op, .int .i64 a.e.i, .int .i64 a.e.r, .int .i64 a.e.m, .int .i64 a.now, .int .i64 a.till]
/-- The three blocks of does. -/
structure DW (n : Nat) (a : Turn) (w : World) : Prop where
  b4 : w.heap[n]? = some (.cells #[.int .i64 0, .int .i64 0, .slice none 0 0, .slice none 0 0] 36 (0, 0))
  b5 : w.heap[n + 1]? = some (.cells #[.int .i64 a.op, .int .i64 a.e.i, .int .i64 a.e.r, .int .i64 a.e.m, .int .i64 a.now, .int .i64 a.till] 32 (0, 0))
  b6 : w.heap[n + 2]? = some (.cells #[.int .i64 0, .int .i64 0, .slice none 0 0, .slice none 0 0] 36 (0, 0))
theorem DW.lt {n : Nat} {a : Turn} {w : World} (h : DW n a w) : n + 2 < w.heap.size := (Array.getElem?_eq_some_iff.1 h.b6).1
theorem DW.mov {n p r : Nat} {a : Turn} {w W : World} (h : DW n a w) (hm : Mov p r w W) (hp : p < n) (hr : r < n) : DW n a W := by
  have hl := h.lt
  exact ⟨(hm.block n (by omega) (by omega) (by omega)).trans h.b4, (hm.block (n + 1) (by omega) (by omega) (by omega)).trans h.b5, (hm.block (n + 2) (by omega) (by omega) (by omega)).trans h.b6⟩
theorem DW.below {n : Nat} {a : Turn} {w W : World} (h : DW n a w) (hb : Below w.heap.size w W) : DW n a W := by
  have hl := h.lt
  exact ⟨(hb.block n (by omega)).trans h.b4, (hb.block (n + 1) (by omega)).trans h.b5, (hb.block (n + 2) (by omega)).trans h.b6⟩
theorem DW.c4 {n : Nat} {a : Turn} {w : World} (h : DW n a w) : w.cell? ⟨n, 0, none⟩ = some (.int .i64 0) ∧ w.cell? ⟨n, 1, none⟩ = some (.int .i64 0) ∧ w.cell? ⟨n, 2, none⟩ = some (.slice none 0 0) ∧ w.cell? ⟨n, 3, none⟩ = some (.slice none 0 0) ∧
    w.frozen? ⟨n, 0, none⟩ = false ∧ w.frozen? ⟨n, 1, none⟩ = false ∧ w.frozen? ⟨n, 2, none⟩ = false ∧ w.frozen? ⟨n, 3, none⟩ = false := ref_cells h.b4
theorem DW.c6 {n : Nat} {a : Turn} {w : World} (h : DW n a w) : w.cell? ⟨n + 2, 0, none⟩ = some (.int .i64 0) ∧ w.cell? ⟨n + 2, 1, none⟩ = some (.int .i64 0) ∧ w.cell? ⟨n + 2, 2, none⟩ = some (.slice none 0 0) ∧ w.cell? ⟨n + 2, 3, none⟩ = some (.slice none 0 0) ∧
    w.frozen? ⟨n + 2, 0, none⟩ = false ∧ w.frozen? ⟨n + 2, 1, none⟩ = false ∧ w.frozen? ⟨n + 2, 2, none⟩ = false ∧ w.frozen? ⟨n + 2, 3, none⟩ = false := ref_cells h.b6
theorem DW.c5 {n : Nat} {a : Turn} {w : World} (h : DW n a w) : w.cell? ⟨n + 1, 0, none⟩ = some (.int .i64 a.op) ∧ w.cell? ⟨n + 1, 1, none⟩ = some (.int .i64 a.e.i) ∧ w.cell? ⟨n + 1, 2, none⟩ = some (.int .i64 a.e.r) ∧ w.cell? ⟨n + 1, 3, none⟩ = some (.int .i64 a.e.m) ∧ w.cell? ⟨n + 1, 4, none⟩ = some (.int .i64 a.now) ∧ w.cell? ⟨n + 1, 5, none⟩ = some (.int .i64 a.till) := by
  refine ⟨?_, ?_, ?_, ?_, ?_, ?_⟩ <;> (rw [cell_blk h.b5]; rfl)
theorem set4_blk {w : World} {b : Nat} {v0 v1 v2 v3 a0 a1 a2 a3 : Value} {t : TypeId} {fr : Nat × Nat} (h : w.heap[b]? = some (.cells #[v0, v1, v2, v3] t fr)) :
    ((((w.setCell ⟨b, 0, none⟩ a0).setCell ⟨b, 1, none⟩ a1).setCell ⟨b, 2, none⟩ a2).setCell ⟨b, 3, none⟩ a3).heap[b]? = some (.cells #[a0, a1, a2, a3] t fr) := by
  simp [World.setCell, Array.getElem?_modify, h]
theorem set4_other {w : World} {b k : Nat} {a0 a1 a2 a3 : Value} (h : k ≠ b) :
    ((((w.setCell ⟨b, 0, none⟩ a0).setCell ⟨b, 1, none⟩ a1).setCell ⟨b, 2, none⟩ a2).setCell ⟨b, 3, none⟩ a3).heap[k]? = w.heap[k]? := by
  simp only [World.setCell, Array.getElem?_modify]
  rw [if_neg (fun e => h e.symm), if_neg (fun e => h e.symm), if_neg (fun e => h e.symm), if_neg (fun e => h e.symm)]
theorem set4_kept {w : World} {b : Nat} {a0 a1 a2 a3 : Value} {t : TypeId} {fr : Nat × Nat} (h : w.heap[b]? = some (.cells #[a0, a1, a2, a3] t fr)) :
    CellsKept w ((((w.setCell ⟨b, 0, none⟩ a0).setCell ⟨b, 1, none⟩ a1).setCell ⟨b, 2, none⟩ a2).setCell ⟨b, 3, none⟩ a3) := fun c o v hv => by
  by_cases hc : c = b
  · subst hc
    rw [cell_blk h] at hv
    exact set4 h o v hv
  · exact (World.cell?_of_block (w := w) (a := ⟨c, o, none⟩) (set4_other hc)).trans hv
theorem DW.set {n : Nat} {a : Turn} {w : World} (h : DW n a w) : DW n a ((((w.setCell ⟨n, 0, none⟩ (.int .i64 0)).setCell ⟨n, 1, none⟩ (.int .i64 0)).setCell ⟨n, 2, none⟩ (.slice none 0 0)).setCell ⟨n, 3, none⟩ (.slice none 0 0)) :=
  ⟨set4_blk h.b4, (set4_other (by omega)).trans h.b5, (set4_other (by omega)).trans h.b6⟩

theorem empty_no (x : En) (now : Int) : fitsY 0 0 [] [] x now ≠ 0 := by
  unfold fitsY roomY
  cases hm : mayB x [] with
  | false => simp
  | true =>
    have hb := mayB_bd hm
    cases hw : wi now 0 4611686018427387904 with
    | false => simp
    | true =>
      have h1 : (0 : Int) < sumR [] + takG [] now + x.r := by simp [sumR, takG, sumG]; omega
      simp [findN, h1]
/-- What does leaves of a ledger. -/
def Did (w w' : World) (p r : Nat) (share room now : Int) (n : Nat) (e : Ending) : Prop :=
  (∃ v, e = .returned v) ∧ (∃ es gs, LedgerAt w' p r share room es gs ∧ Holds share room es gs now (n + 1)) ∧ Mov p r w w'
set_option maxRecDepth 100000 in
set_option maxHeartbeats 1000000 in
theorem does0_any (p r : Nat) (share room : Int) (es : List En) (gs : List Ling) (a : Turn) (n : Nat) (w : World) (h : LedgerAt w p r share room es gs) (hH : Holds share room es gs a.now n) (hn : n < 1000) :
    Calls Try.prog 12 #[.pointer (some ⟨p, 0, none⟩), refV 0 0 (.slice none 0 0) (.slice none 0 0), .agg #[.int .i64 a.op, .int .i64 a.e.i, .int .i64 a.e.r, .int .i64 a.e.m, .int .i64 a.now, .int .i64 a.till]] w fun e w' => Did w w' p r share room a.now n e := by
  obtain ⟨op, ⟨xi, xr, xm⟩, now, till⟩ := a
  simp only
  have hlt := h.lt
  have H := Lib.hid h
  have HH := Lib.hid hH
  clear h hH
  have hdw : DW w.heap.size ⟨op, ⟨xi, xr, xm⟩, now, till⟩ (((w.alloc (.cells #[.int .i64 0, .int .i64 0, .slice none 0 0, .slice none 0 0] 36)).alloc (.cells #[.int .i64 op, .int .i64 xi, .int .i64 xr, .int .i64 xm, .int .i64 now, .int .i64 till] 32)).alloc (.cells #[.int .i64 0, .int .i64 0, .slice none 0 0, .slice none 0 0] 36)) := by
    refine ⟨?_, ?_, at_alloc (by simp)⟩
    · exact ((Below.refl _ _ |> fun h => bl_alloc (bl_alloc h _) _).block w.heap.size (by simp)).trans (at_alloc rfl)
    · exact (((bl_alloc (Below.refl _ _) _).block (w.heap.size + 1) (by simp))).trans (at_alloc (by simp))
  have hb3 : Below w.heap.size w (((w.alloc (.cells #[.int .i64 0, .int .i64 0, .slice none 0 0, .slice none 0 0] 36)).alloc (.cells #[.int .i64 op, .int .i64 xi, .int .i64 xr, .int .i64 xm, .int .i64 now, .int .i64 till] 32)).alloc (.cells #[.int .i64 0, .int .i64 0, .slice none 0 0, .slice none 0 0] 36)) := bl_alloc (bl_alloc (bl_alloc (Below.refl _ _) _) _) _
  have HDW := Lib.hid hdw
  have HB3 := Lib.hid hb3
  clear hdw hb3
  go_enter Try.func12, Try.ntmps12
  go_upto_region 1 with fail
  generalize (((w.alloc (.cells #[.int .i64 0, .int .i64 0, .slice none 0 0, .slice none 0 0] 36)).alloc (.cells #[.int .i64 op, .int .i64 xi, .int .i64 xr, .int .i64 xm, .int .i64 now, .int .i64 till] 32)).alloc (.cells #[.int .i64 0, .int .i64 0, .slice none 0 0, .slice none 0 0] 36)) = w3 at HDW HB3 ⊢
  obtain ⟨c40, c41, c42, c43, f40, f41, f42, f43⟩ := HDW.out.c4
  obtain ⟨c50, c51, c52, c53, c54, c55⟩ := HDW.out.c5
  have hsz := HDW.out.lt
  simp only at c50 c51 c52 c53 c54 c55
  go_upto_block 0 with fail
  go_cut [8, 9] (fun s8 s9 wx => ∃ y8 y9 : Int, s8 = .int .i64 y8 ∧ s9 = .int .i64 y9 ∧ Aside (DW w.heap.size ⟨op, ⟨xi, xr, xm⟩, now, till⟩ wx) ∧ Aside (∃ es gs, LedgerAt wx p r share room es gs ∧ Holds share room es gs now (n + 1)) ∧ Aside (Mov p r w wx))
  case first =>
    by_cases h1 : op = 1
    · subst h1
      go_upto_region 4 with fail
      have HS : Hid (∀ W, Below w3.heap.size w3 W → (fun w' => w'.cell? ⟨w.heap.size, 0, none⟩ = some (.int .i64 0) ∧ w'.cell? ⟨w.heap.size, 1, none⟩ = some (.int .i64 0) ∧ w'.cell? ⟨w.heap.size, 2, none⟩ = some (.slice none 0 0) ∧ w'.cell? ⟨w.heap.size, 3, none⟩ = some (.slice none 0 0) ∧ w'.cell? ⟨w.heap.size + 1, 1, none⟩ = some (.int .i64 xi) ∧ w'.cell? ⟨w.heap.size + 1, 2, none⟩ = some (.int .i64 xr) ∧ w'.cell? ⟨w.heap.size + 1, 3, none⟩ = some (.int .i64 xm) ∧ w'.cell? ⟨w.heap.size + 1, 4, none⟩ = some (.int .i64 now)) W) := Lib.hid fun W hW => by
        obtain ⟨k0, k1, k2, k3, -⟩ := (HDW.out.below hW).c4
        obtain ⟨-, j1, j2, j3, j4, -⟩ := (HDW.out.below hW).c5
        exact ⟨k0, k1, k2, k3, j1, j2, j3, j4⟩
      go_region_held3 (fun w' => w'.cell? ⟨w.heap.size, 0, none⟩ = some (.int .i64 0) ∧ w'.cell? ⟨w.heap.size, 1, none⟩ = some (.int .i64 0) ∧ w'.cell? ⟨w.heap.size, 2, none⟩ = some (.slice none 0 0) ∧ w'.cell? ⟨w.heap.size, 3, none⟩ = some (.slice none 0 0) ∧ w'.cell? ⟨w.heap.size + 1, 1, none⟩ = some (.int .i64 xi) ∧ w'.cell? ⟨w.heap.size + 1, 2, none⟩ = some (.int .i64 xr) ∧ w'.cell? ⟨w.heap.size + 1, 3, none⟩ = some (.int .i64 xm) ∧ w'.cell? ⟨w.heap.size + 1, 4, none⟩ = some (.int .i64 now))
        (first
          | exact HS.out _ (by repeat (first | exact Below.refl _ _ | refine bl_drew ?_ | refine bl_drewN ?_ _ | (refine bl_then ?_ hb; clear hb) | (refine bl_then ?_ hb'; clear hb'))))
        (first
          | (go_at_call 28; refine (fits_ref 0 0 _ _ [] [] ⟨xi, xr, xm⟩ now _ (RefAt.nil _) Fine.nil).mono ?_; rintro e w' ⟨rfl, hb⟩)
          | (go_at_call 16; refine (fits_led p r share room es gs ⟨xi, xr, xm⟩ now _ (H.out.below (bl_then HB3.out (by repeat (first | exact Below.refl _ _ | refine bl_drew ?_ | refine bl_drewN ?_ _ | (refine bl_then ?_ hb; clear hb) | (refine bl_then ?_ hb'; clear hb'))))) HH.out.fine).mono ?_; rintro e w' ⟨rfl, hb'⟩))
      all_goals (go_wp2_with fail; go_meet)
      all_goals case rel =>
        refine ⟨_, _, rfl, rfl, HDW.out.below ?ha, ⟨es, gs, H.out.below (bl_then HB3.out ?ha), HH.out.more (by omega)⟩, Mov.ofBelow (bl_then HB3.out ?ha)⟩
        repeat (first | exact Below.refl _ _ | refine bl_drew ?_ | refine bl_drewN ?_ _ | (refine bl_then ?_ hb; clear hb) | (refine bl_then ?_ hb'; clear hb'))
    · have hb1 : (op == 1) = false := beq_eq_false_iff_ne.2 h1
      by_cases h2 : op = 2
      · subst h2
        have hcg := give_ref_no 0 0 _ _ [] [] ⟨xi, xr, xm⟩ now w3 (RefAt.nil w3) Fine.nil (empty_no _ _)
        go_wp2_with fail
        refine hcg.mono ?_
        rintro e w4 ⟨rfl, hb4⟩
        have hd4 := HDW.out.below hb4
        obtain ⟨k40, k41, k42, k43, g40, g41, g42, g43⟩ := hd4.c4
        obtain ⟨k50, k51, k52, k53, k54, k55⟩ := hd4.c5
        simp only at k50 k51 k52 k53 k54 k55
        have hs4 := hd4.lt
        have hd5 := hd4.set
        have hb5 : Below w.heap.size w ((((w4.setCell ⟨w.heap.size, 0, none⟩ (.int .i64 0)).setCell ⟨w.heap.size, 1, none⟩ (.int .i64 0)).setCell ⟨w.heap.size, 2, none⟩ (.slice none 0 0)).setCell ⟨w.heap.size, 3, none⟩ (.slice none 0 0)) := bl_set (bl_set (bl_set (bl_set (bl_then HB3.out hb4) (by simp) _) (by simp) _) (by simp) _) (by simp) _
        have HD5 := Lib.hid hd5
        have HB5 := Lib.hid hb5
        clear hb4 hd4 hd5 hb5 hcg c40 c41 c42 c43 f40 f41 f42 f43 c50 c51 c52 c53 c54 c55
        go_wp2_with fail
        refine (give_led p r share room es gs ⟨xi, xr, xm⟩ now _ (H.out.below HB5.out) HH.out.fine).mono ?_
        rintro e w6 ⟨rfl, hl6, hm6⟩
        go_wp2_with fail
        go_meet
        case rel =>
          have hmv := (Mov.ofBelow HB5.out).trans hm6
          exact ⟨_, _, rfl, rfl, HD5.out.mov hm6 hlt.1 hlt.2.1, ⟨_, _, hl6, (holds_give HH.out H.out.nodup _).more (by omega)⟩, hmv⟩
      · have hb2 : (op == 2) = false := beq_eq_false_iff_ne.2 h2
        by_cases h3 : op = 3
        · subst h3
          have hcg := change_ref_no 0 0 _ _ [] [] ⟨xi, xr, xm⟩ now till w3 (RefAt.nil w3) (Or.inr (by simp [findN]))
          generalize (if mayB ⟨xi, xr, xm⟩ [now, till] = false then (2 : Int) else 5) = yy at hcg
          go_wp2_with fail
          refine hcg.mono ?_
          rintro e w4 ⟨rfl, hb4⟩
          have hd4 := HDW.out.below hb4
          obtain ⟨k40, k41, k42, k43, g40, g41, g42, g43⟩ := hd4.c4
          obtain ⟨k50, k51, k52, k53, k54, k55⟩ := hd4.c5
          simp only at k50 k51 k52 k53 k54 k55
          have hs4 := hd4.lt
          have hd5 := hd4.set
          have hb5 : Below w.heap.size w ((((w4.setCell ⟨w.heap.size, 0, none⟩ (.int .i64 0)).setCell ⟨w.heap.size, 1, none⟩ (.int .i64 0)).setCell ⟨w.heap.size, 2, none⟩ (.slice none 0 0)).setCell ⟨w.heap.size, 3, none⟩ (.slice none 0 0)) := bl_set (bl_set (bl_set (bl_set (bl_then HB3.out hb4) (by simp) _) (by simp) _) (by simp) _) (by simp) _
          have HD5 := Lib.hid hd5
          have HB5 := Lib.hid hb5
          clear hb4 hd4 hd5 hb5 hcg c40 c41 c42 c43 f40 f41 f42 f43 c50 c51 c52 c53 c54 c55
          go_wp2_with fail
          refine (change_led p r share room es gs ⟨xi, xr, xm⟩ now till _ (H.out.below HB5.out) HH.out.fine).mono ?_
          rintro e w6 ⟨rfl, hl6, hm6⟩
          go_wp2_with fail
          go_meet
          case rel =>
            have hmv := (Mov.ofBelow HB5.out).trans hm6
            exact ⟨_, _, rfl, rfl, HD5.out.mov hm6 hlt.1 hlt.2.1, (by
              unfold changed at hl6
              split at hl6
              · rename_i hy
                exact ⟨_, _, hl6, holds_change HH.out H.out.nodup (by omega) _ _ hy⟩
              · exact ⟨_, _, hl6, HH.out.more (by omega)⟩), hmv⟩
        · have hb3 : (op == 3) = false := beq_eq_false_iff_ne.2 h3
          by_cases h4 : op = 4
          · subst h4
            have hcg := free_ref_no 0 0 _ _ [] [] xi till w3 (RefAt.nil w3) (Or.inr (by simp [findN]))
            generalize (if (wi xi 0 2147483647 && wi till 0 4611686018427387904) = false then (2 : Int) else 5) = yy at hcg
            go_wp2_with fail
            refine hcg.mono ?_
            rintro e w4 ⟨rfl, hb4⟩
            have hd4 := HDW.out.below hb4
            obtain ⟨k40, k41, k42, k43, g40, g41, g42, g43⟩ := hd4.c4
            obtain ⟨k50, k51, k52, k53, k54, k55⟩ := hd4.c5
            simp only at k50 k51 k52 k53 k54 k55
            have hs4 := hd4.lt
            have hd5 := hd4.set
            have hb5 : Below w.heap.size w ((((w4.setCell ⟨w.heap.size, 0, none⟩ (.int .i64 0)).setCell ⟨w.heap.size, 1, none⟩ (.int .i64 0)).setCell ⟨w.heap.size, 2, none⟩ (.slice none 0 0)).setCell ⟨w.heap.size, 3, none⟩ (.slice none 0 0)) := bl_set (bl_set (bl_set (bl_set (bl_then HB3.out hb4) (by simp) _) (by simp) _) (by simp) _) (by simp) _
            have HD5 := Lib.hid hd5
            have HB5 := Lib.hid hb5
            clear hb4 hd4 hd5 hb5 hcg c40 c41 c42 c43 f40 f41 f42 f43 c50 c51 c52 c53 c54 c55
            go_wp2_with fail
            refine (free_led p r share room es gs xi till _ (H.out.below HB5.out) HH.out.fine).mono ?_
            rintro e w6 ⟨rfl, hl6, hm6⟩
            go_wp2_with fail
            go_meet
            case rel =>
              have hmv := (Mov.ofBelow HB5.out).trans hm6
              exact ⟨_, _, rfl, rfl, HD5.out.mov hm6 hlt.1 hlt.2.1, (by
                split at hl6
                · exact ⟨_, _, hl6, holds_free HH.out H.out.nodup (by omega) _ _⟩
                · exact ⟨_, _, hl6, HH.out.more (by omega)⟩), hmv⟩
          · have hb4 : (op == 4) = false := beq_eq_false_iff_ne.2 h4
            go_wp2_with fail
            go_meet
            case rel => exact ⟨_, _, rfl, rfl, HDW.out, ⟨es, gs, H.out.below HB3.out, HH.out.more (by omega)⟩, Mov.ofBelow HB3.out⟩
  case rest =>
    obtain ⟨y8, y9, rfl, rfl, HD, HL, HM⟩ := hcut
    obtain ⟨k40, k41, k42, k43, g40, g41, g42, g43⟩ := HD.out.c4
    obtain ⟨k60, k61, k62, k63, g60, g61, g62, g63⟩ := HD.out.c6
    have hs := HD.out.lt
    clear c40 c41 c42 c43 f40 f41 f42 f43 c50 c51 c52 c53 c54 c55
    go_wp2_with fail
    have S4 := set4 (a0 := .int .i64 0) (a1 := .int .i64 0) (a2 := .slice none 0 0) (a3 := .slice none 0 0) HD.out.b6
    have s0 := S4 0 _ rfl
    have s1 := S4 1 _ rfl
    have s2 := S4 2 _ rfl
    have s3 := S4 3 _ rfl
    obtain ⟨es', gs', hl', hh'⟩ := HL.out
    have hlw := hl'.lt
    have hfin : LedgerAt ((((wc.setCell ⟨w.heap.size + 2, 0, none⟩ (.int .i64 0)).setCell ⟨w.heap.size + 2, 1, none⟩ (.int .i64 0)).setCell ⟨w.heap.size + 2, 2, none⟩ (.slice none 0 0)).setCell ⟨w.heap.size + 2, 3, none⟩ (.slice none 0 0)) p r share room es' gs' := by
      obtain ⟨v, h1, h2, h3⟩ := hl'
      exact ⟨v, (set4_other (by omega)).trans h1, h2.kept (set4_kept HD.out.b6), h3.step (set4_other (by omega))⟩
    have hmv : Mov p r w ((((wc.setCell ⟨w.heap.size + 2, 0, none⟩ (.int .i64 0)).setCell ⟨w.heap.size + 2, 1, none⟩ (.int .i64 0)).setCell ⟨w.heap.size + 2, 2, none⟩ (.slice none 0 0)).setCell ⟨w.heap.size + 2, 3, none⟩ (.slice none 0 0)) :=
      ⟨HM.out.os, HM.out.tape, HM.out.output, by simpa [World.setCell] using HM.out.size, fun k hk h1 h2 => (set4_other (by omega)).trans (HM.out.block k hk h1 h2), fun h1 h2 v hv => HM.out.c3 h1 h2 v ((World.cell?_of_block (w := wc) (a := ⟨p, 3, none⟩) (set4_other (by show p ≠ _; omega))).symm.trans hv)⟩
    exact bodyPost_ret (v := .tuple #[.agg #[.int .i64 0, .int .i64 0, .slice none 0 0, .slice none 0 0], .bool (y9 == y8)]) (by simp [results, Try.results12, go_sem, s0, s1, s2, s3]) rfl ⟨⟨_, rfl⟩, ⟨es', gs', hfin, hh'⟩, hmv⟩
end Go.Proofs.Ytfnijjjfodpnnaa
