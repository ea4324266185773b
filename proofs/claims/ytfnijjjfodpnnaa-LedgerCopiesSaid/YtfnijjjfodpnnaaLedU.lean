/- Ledger: does, whatever the ticks; plain lemmas on Same. -/
import Derived.Test.YtfnijjjfodpnnaaLedT
namespace Go.Proofs.Ytfnijjjfodpnnaa
open Go.RowKit Go.Shelf
set_option linter.unusedVariables false
set_option linter.unusedSimpArgs false

structure Sane (es : List En) (gs : List Ling) (n : Nat) : Prop where
  fine : Fine es gs
  el : es.length ≤ 32
  gl : gs.length ≤ n
theorem Sane.more {es : List En} {gs : List Ling} {n m : Nat} (h : Sane es gs n) (hnm : n ≤ m) : Sane es gs m := ⟨h.fine, h.el, by have := h.gl; omega⟩
theorem firstQ_ok3 {a b c : Bool} {x y z : Int} {l : List (Int × Bool)} (h : firstQ ((x, a) :: (y, b) :: (z, c) :: l) = 0) (hx : x ≠ 0) (hy : y ≠ 0) (hz : z ≠ 0) : a = false ∧ b = false ∧ c = false := by
  cases a <;> cases b <;> cases c <;> simp_all [firstQ]
theorem fits_ok {share room : Int} {es : List En} {gs : List Ling} {x : En} {now : Int} (h : firstQ (fitsQs share room es gs x now) = 0) : mayB x [now] = true ∧ (getE es x.i).isSome = false ∧ es.length < 32 := by
  obtain ⟨h1, h2, h3⟩ := firstQ_ok3 h (by decide) (by decide) (by decide)
  exact ⟨by simpa using h1, h2, by simpa using h3⟩
theorem sane_give {es : List En} {gs : List Ling} {n : Nat} (h : Sane es gs n) (hn : (es.map En.i).Nodup) (x : En) (share room now : Int) : Sane (giveE es x (firstQ (fitsQs share room es gs x now))) gs n := by
  unfold giveE
  by_cases hy : firstQ (fitsQs share room es gs x now) = 0
  · rw [if_pos hy]
    obtain ⟨h1, h2, h3⟩ := fits_ok hy
    have hx := mayB_bd h1
    have hpe : putE es x = es ++ [x] := by rw [putE, h2, if_neg (by decide)]
    exact ⟨putE_fine h.fine ⟨hx.2.2.1, hx.2.2.2.1, hx.2.2.2.2.1, hx.2.2.2.2.2⟩ (Or.inr (by omega)), by rw [hpe]; simp; omega, h.gl⟩
  · rw [if_neg hy]; exact h
theorem sane_change {share room : Int} {es : List En} {gs : List Ling} {now : Int} {n : Nat} (h : Sane es gs n) (hn : (es.map En.i).Nodup) (hg5 : n < 1000000) (x : En) (till : Int) (hy : firstQ (changeQs share room es gs x now till) = 0) : Sane (putE es x) (lingG gs ((oldE es x.i).r - x.r) till) (n + 1) := by
  have hob := old_bd h.fine x.i
  obtain ⟨hm, hg⟩ := change_ok hy
  have hx := mayB_bd hm
  have hgl := h.gl
  have hpl : (putE es x).length ≤ 32 := by rw [putE, hg, if_pos rfl, List.length_map]; exact h.el
  exact ⟨lingG_fine (putE_fine h.fine ⟨hx.2.2.1, hx.2.2.2.1, hx.2.2.2.2.1, hx.2.2.2.2.2⟩ (Or.inl hg)) (by omega) (by omega), hpl, by have := lingG_len gs ((oldE es x.i).r - x.r) till; omega⟩
theorem sane_free {es : List En} {gs : List Ling} {n : Nat} (h : Sane es gs n) (hn : (es.map En.i).Nodup) (hg5 : n < 1000000) (i till : Int) : Sane (delE es i) (lingG gs (oldE es i).r till) (n + 1) := by
  have hob := old_bd h.fine i
  have hgl := h.gl
  have hel := h.el
  have hdl : (delE es i).length ≤ es.length := List.length_filter_le _ _
  have hF : Fine (delE es i) gs := ⟨fun y hy => h.fine.e y (List.mem_filter.1 hy).1, h.fine.g, by have := h.fine.el; omega, h.fine.gl⟩
  exact ⟨lingG_fine hF (by omega) (by omega), by omega, by have := lingG_len gs (oldE es i).r till; omega⟩
theorem getE_self : ∀ {es : List En} {x : En}, (es.map En.i).Nodup → x ∈ es → getE es x.i = some x
  | [], _, _, h => by cases h
  | y :: l, x, hn, h => by
    simp only [List.map_cons, List.nodup_cons] at hn
    unfold getE
    rw [List.find?_cons]
    by_cases hxy : y.i = x.i
    · simp only [hxy, decide_true]
      rcases List.mem_cons.1 h with rfl | h
      · rfl
      · exact absurd (hxy ▸ List.mem_map.2 ⟨x, h, rfl⟩) hn.1
    · simp only [hxy, decide_false]
      rcases List.mem_cons.1 h with rfl | h
      · exact absurd rfl hxy
      · exact getE_self hn.2 h
theorem sameEn_self (x : En) : sameEn x x = true := by simp [sameEn]
theorem eqE_self {es : List En} (hn : (es.map En.i).Nodup) : eqE es es = true := by
  unfold eqE
  simp only [decide_true, Bool.true_and, List.all_eq_true]
  intro x hx
  simp [oldE, getE_self hn hx, sameEn_self]
theorem getS_self : ∀ {l : List (Int × Int)} {x : Int × Int}, (l.map (·.1)).Nodup → x ∈ l → getS l x.1 = some x.2
  | [], _, _, h => by cases h
  | y :: l, x, hn, h => by
    simp only [List.map_cons, List.nodup_cons] at hn
    unfold getS
    rw [List.find?_cons]
    by_cases hxy : y.1 = x.1
    · simp only [hxy, decide_true]
      rcases List.mem_cons.1 h with rfl | h
      · rfl
      · exact absurd (hxy ▸ List.mem_map.2 ⟨x, h, rfl⟩) hn.1
    · simp only [hxy, decide_false]
      rcases List.mem_cons.1 h with rfl | h
      · exact absurd rfl hxy
      · exact getS_self hn.2 h
theorem eqS_self {l : List (Int × Int)} (hn : (l.map (·.1)).Nodup) : eqS l l = true := by
  unfold eqS
  simp only [decide_true, Bool.true_and, List.all_eq_true]
  intro x hx
  simp [getS_self hn hx]
theorem getS_none {l : List (Int × Int)} {i : Int} (h : (getS l i).isSome = false) : i ∉ l.map (·.1) := fun hm => by
  obtain ⟨x, hx, rfl⟩ := List.mem_map.1 hm
  unfold getS at h
  rw [Option.isSome_map] at h
  have := (List.find?_isSome (p := fun p : Int × Int => decide (p.1 = x.1))).2 ⟨x, hx, by simp⟩
  rw [this] at h
  cases h
theorem putS_nodup {l : List (Int × Int)} (h : (l.map (·.1)).Nodup) (i v : Int) : ((putS l i v).map (·.1)).Nodup := by
  unfold putS
  cases hg : (getS l i).isSome with
  | true =>
    rw [if_pos rfl, List.map_map]
    rw [show ((fun p : Int × Int => p.1) ∘ fun p => if p.1 = i then (p.1, v) else p) = fun p => p.1 from funext fun p => by simp only [Function.comp]; split <;> rfl]
    exact h
  | false =>
    rw [if_neg (by decide), List.map_append, List.nodup_append]
    refine ⟨h, by simp, fun a ha b hb => ?_⟩
    simp at hb
    subst hb
    exact fun e => getS_none hg (e ▸ ha)
theorem foldS_nodup : ∀ (gs : List Ling) (l : List (Int × Int)), (l.map (·.1)).Nodup → ((gs.foldl stepG l).map (·.1)).Nodup
  | [], _, h => h
  | g :: gs, l, h => foldS_nodup gs _ (putS_nodup h _ _)
theorem steps_nodup (gs : List Ling) : ((stepsOf gs).map (·.1)).Nodup := by
  unfold stepsOf delS
  exact (foldS_nodup gs [] (by simp)).sublist ((List.filter_sublist).map _)
/-- Behind a turn of just this entry the entries are others. -/
theorem eqE_put {es : List En} {x : En} (h : (getE es x.i).isSome = false) : eqE (putE es x) es = false := by
  unfold eqE
  rw [putE, h, if_neg (by decide)]
  simp
/-- What does leaves of a ledger, whatever the ticks. -/
def DidS (w w' : World) (p r : Nat) (share room : Int) (n : Nat) (e : Ending) : Prop :=
  (∃ v, e = .returned v) ∧ (∃ es gs, LedgerAt w' p r share room es gs ∧ Sane es gs (n + 1)) ∧ Mov p r w w'
set_option maxRecDepth 100000 in
set_option maxHeartbeats 1000000 in
theorem does0_sane (p r : Nat) (share room : Int) (es : List En) (gs : List Ling) (a : Turn) (n : Nat) (w : World) (h : LedgerAt w p r share room es gs) (hH : Sane es gs n) (hn : n < 1000) :
    Calls Try.prog 12 #[.pointer (some ⟨p, 0, none⟩), refV 0 0 (.slice none 0 0) (.slice none 0 0), .agg #[.int .i64 a.op, .int .i64 a.e.i, .int .i64 a.e.r, .int .i64 a.e.m, .int .i64 a.now, .int .i64 a.till]] w fun e w' => DidS w w' p r share room n e := by
  obtain ⟨op, ⟨xi, xr, xm⟩, now, till⟩ := a
  simp only
  have hlt := h.lt
  have H := Lib.hid h
  have HH := Lib.hid hH
  clear h hH
  have hdw : DW w.heap.size ⟨op, ⟨xi, xr, xm⟩, now, till⟩ (((w.alloc (.cells #[.int .i64 0, .int .i64 0, .slice none 0 0, .slice none 0 0] 36)).alloc (.cells #[.int .i64 op, .int .i64 xi, .int .i64 xr, .int .i64 xm, .int .i64 now, .int .i64 till] 32)).alloc (.cells #[.int .i64 0, .int .i64 0, .slice none 0 0, .slice none 0 0] 36)) := by
    refine ⟨?_, ?_, at_alloc (by simp)⟩
    · exact ((Below.refl _ _ |> fun h => bl_alloc (bl_alloc h _) _).block w.heap.size (by simp)).trans (at_alloc rfl)
    · exact (((bl_alloc (Below.refl _ _) _).block (w.heap.size + 1) (by simp))).trans (at_alloc (by simp))
  have hb3 : Below w.heap.size w (((w.alloc (.cells #[.int .i64 0, .int .i64 0, .slice none 0 0, .slice none 0 0] 36)).alloc (.cells #[.int .i64 op, .int .i64 xi, .int .i64 xr, .int .i64 xm, .int .i64 now, .int .i64 till] 32)).alloc (.cells #[.int .i64 0, .int .i64 0, .slice none 0 0, .slice none 0 0] 36)) := bl_alloc (bl_alloc (bl_alloc (Below.refl _ _) _) _) _
  have HDW := Lib.hid hdw
  have HB3 := Lib.hid hb3
  clear hdw hb3
  go_enter Try.func12, Try.ntmps12
  go_upto_region 1 with fail
  generalize (((w.alloc (.cells #[.int .i64 0, .int .i64 0, .slice none 0 0, .slice none 0 0] 36)).alloc (.cells #[.int .i64 op, .int .i64 xi, .int .i64 xr, .int .i64 xm, .int .i64 now, .int .i64 till] 32)).alloc (.cells #[.int .i64 0, .int .i64 0, .slice none 0 0, .slice none 0 0] 36)) = w3 at HDW HB3 ⊢
  obtain ⟨c40, c41, c42, c43, f40, f41, f42, f43⟩ := HDW.out.c4
  obtain ⟨c50, c51, c52, c53, c54, c55⟩ := HDW.out.c5
  have hsz := HDW.out.lt
  simp only at c50 c51 c52 c53 c54 c55
  go_upto_block 0 with fail
  go_cut [8, 9] (fun s8 s9 wx => ∃ y8 y9 : Int, s8 = .int .i64 y8 ∧ s9 = .int .i64 y9 ∧ Aside (DW w.heap.size ⟨op, ⟨xi, xr, xm⟩, now, till⟩ wx) ∧ Aside (∃ es gs, LedgerAt wx p r share room es gs ∧ Sane es gs (n + 1)) ∧ Aside (Mov p r w wx))
  case first =>
    by_cases h1 : op = 1
    · subst h1
      go_upto_region 4 with fail
      have HS : Hid (∀ W, Below w3.heap.size w3 W → (fun w' => w'.cell? ⟨w.heap.size, 0, none⟩ = some (.int .i64 0) ∧ w'.cell? ⟨w.heap.size, 1, none⟩ = some (.int .i64 0) ∧ w'.cell? ⟨w.heap.size, 2, none⟩ = some (.slice none 0 0) ∧ w'.cell? ⟨w.heap.size, 3, none⟩ = some (.slice none 0 0) ∧ w'.cell? ⟨w.heap.size + 1, 1, none⟩ = some (.int .i64 xi) ∧ w'.cell? ⟨w.heap.size + 1, 2, none⟩ = some (.int .i64 xr) ∧ w'.cell? ⟨w.heap.size + 1, 3, none⟩ = some (.int .i64 xm) ∧ w'.cell? ⟨w.heap.size + 1, 4, none⟩ = some (.int .i64 now)) W) := Lib.hid fun W hW => by
        obtain ⟨k0, k1, k2, k3, -⟩ := (HDW.out.below hW).c4
        obtain ⟨-, j1, j2, j3, j4, -⟩ := (HDW.out.below hW).c5
        exact ⟨k0, k1, k2, k3, j1, j2, j3, j4⟩
      go_region_held3 (fun w' => w'.cell? ⟨w.heap.size, 0, none⟩ = some (.int .i64 0) ∧ w'.cell? ⟨w.heap.size, 1, none⟩ = some (.int .i64 0) ∧ w'.cell? ⟨w.heap.size, 2, none⟩ = some (.slice none 0 0) ∧ w'.cell? ⟨w.heap.size, 3, none⟩ = some (.slice none 0 0) ∧ w'.cell? ⟨w.heap.size + 1, 1, none⟩ = some (.int .i64 xi) ∧ w'.cell? ⟨w.heap.size + 1, 2, none⟩ = some (.int .i64 xr) ∧ w'.cell? ⟨w.heap.size + 1, 3, none⟩ = some (.int .i64 xm) ∧ w'.cell? ⟨w.heap.size + 1, 4, none⟩ = some (.int .i64 now))
        (first
          | exact HS.out _ (by repeat (first | exact Below.refl _ _ | refine bl_drew ?_ | refine bl_drewN ?_ _ | (refine bl_then ?_ hb; clear hb) | (refine bl_then ?_ hb'; clear hb'))))
        (first
          | (go_at_call 28; refine (fits_ref 0 0 _ _ [] [] ⟨xi, xr, xm⟩ now _ (RefAt.nil _) Fine.nil).mono ?_; rintro e w' ⟨rfl, hb⟩)
          | (go_at_call 16; refine (fits_led p r share room es gs ⟨xi, xr, xm⟩ now _ (H.out.below (bl_then HB3.out (by repeat (first | exact Below.refl _ _ | refine bl_drew ?_ | refine bl_drewN ?_ _ | (refine bl_then ?_ hb; clear hb) | (refine bl_then ?_ hb'; clear hb'))))) HH.out.fine).mono ?_; rintro e w' ⟨rfl, hb'⟩))
      all_goals (go_wp2_with fail; go_meet)
      all_goals case rel =>
        refine ⟨_, _, rfl, rfl, HDW.out.below ?ha, ⟨es, gs, H.out.below (bl_then HB3.out ?ha), HH.out.more (by omega)⟩, Mov.ofBelow (bl_then HB3.out ?ha)⟩
        repeat (first | exact Below.refl _ _ | refine bl_drew ?_ | refine bl_drewN ?_ _ | (refine bl_then ?_ hb; clear hb) | (refine bl_then ?_ hb'; clear hb'))
    · have hb1 : (op == 1) = false := beq_eq_false_iff_ne.2 h1
      by_cases h2 : op = 2
      · subst h2
        have hcg := give_ref_no 0 0 _ _ [] [] ⟨xi, xr, xm⟩ now w3 (RefAt.nil w3) Fine.nil (empty_no _ _)
        go_wp2_with fail
        refine hcg.mono ?_
        rintro e w4 ⟨rfl, hb4⟩
        have hd4 := HDW.out.below hb4
        obtain ⟨k40, k41, k42, k43, g40, g41, g42, g43⟩ := hd4.c4
        obtain ⟨k50, k51, k52, k53, k54, k55⟩ := hd4.c5
        simp only at k50 k51 k52 k53 k54 k55
        have hs4 := hd4.lt
        have hd5 := hd4.set
        have hb5 : Below w.heap.size w ((((w4.setCell ⟨w.heap.size, 0, none⟩ (.int .i64 0)).setCell ⟨w.heap.size, 1, none⟩ (.int .i64 0)).setCell ⟨w.heap.size, 2, none⟩ (.slice none 0 0)).setCell ⟨w.heap.size, 3, none⟩ (.slice none 0 0)) := bl_set (bl_set (bl_set (bl_set (bl_then HB3.out hb4) (by simp) _) (by simp) _) (by simp) _) (by simp) _
        have HD5 := Lib.hid hd5
        have HB5 := Lib.hid hb5
        clear hb4 hd4 hd5 hb5 hcg c40 c41 c42 c43 f40 f41 f42 f43 c50 c51 c52 c53 c54 c55
        go_wp2_with fail
        refine (give_led p r share room es gs ⟨xi, xr, xm⟩ now _ (H.out.below HB5.out) HH.out.fine).mono ?_
        rintro e w6 ⟨rfl, hl6, hm6⟩
        go_wp2_with fail
        go_meet
        case rel =>
          have hmv := (Mov.ofBelow HB5.out).trans hm6
          exact ⟨_, _, rfl, rfl, HD5.out.mov hm6 hlt.1 hlt.2.1, ⟨_, _, hl6, (sane_give HH.out H.out.nodup _ share room now).more (by omega)⟩, hmv⟩
      · have hb2 : (op == 2) = false := beq_eq_false_iff_ne.2 h2
        by_cases h3 : op = 3
        · subst h3
          have hcg := change_ref_no 0 0 _ _ [] [] ⟨xi, xr, xm⟩ now till w3 (RefAt.nil w3) (Or.inr (by simp [findN]))
          generalize (if mayB ⟨xi, xr, xm⟩ [now, till] = false then (2 : Int) else 5) = yy at hcg
          go_wp2_with fail
          refine hcg.mono ?_
          rintro e w4 ⟨rfl, hb4⟩
          have hd4 := HDW.out.below hb4
          obtain ⟨k40, k41, k42, k43, g40, g41, g42, g43⟩ := hd4.c4
          obtain ⟨k50, k51, k52, k53, k54, k55⟩ := hd4.c5
          simp only at k50 k51 k52 k53 k54 k55
          have hs4 := hd4.lt
          have hd5 := hd4.set
          have hb5 : Below w.heap.size w ((((w4.setCell ⟨w.heap.size, 0, none⟩ (.int .i64 0)).setCell ⟨w.heap.size, 1, none⟩ (.int .i64 0)).setCell ⟨w.heap.size, 2, none⟩ (.slice none 0 0)).setCell ⟨w.heap.size, 3, none⟩ (.slice none 0 0)) := bl_set (bl_set (bl_set (bl_set (bl_then HB3.out hb4) (by simp) _) (by simp) _) (by simp) _) (by simp) _
          have HD5 := Lib.hid hd5
          have HB5 := Lib.hid hb5
          clear hb4 hd4 hd5 hb5 hcg c40 c41 c42 c43 f40 f41 f42 f43 c50 c51 c52 c53 c54 c55
          go_wp2_with fail
          refine (change_led p r share room es gs ⟨xi, xr, xm⟩ now till _ (H.out.below HB5.out) HH.out.fine).mono ?_
          rintro e w6 ⟨rfl, hl6, hm6⟩
          go_wp2_with fail
          go_meet
          case rel =>
            have hmv := (Mov.ofBelow HB5.out).trans hm6
            exact ⟨_, _, rfl, rfl, HD5.out.mov hm6 hlt.1 hlt.2.1, (by
              unfold changed at hl6
              split at hl6
              · rename_i hy
                exact ⟨_, _, hl6, sane_change HH.out H.out.nodup (by omega) _ _ hy⟩
              · exact ⟨_, _, hl6, HH.out.more (by omega)⟩), hmv⟩
        · have hb3 : (op == 3) = false := beq_eq_false_iff_ne.2 h3
          by_cases h4 : op = 4
          · subst h4
            have hcg := free_ref_no 0 0 _ _ [] [] xi till w3 (RefAt.nil w3) (Or.inr (by simp [findN]))
            generalize (if (wi xi 0 2147483647 && wi till 0 4611686018427387904) = false then (2 : Int) else 5) = yy at hcg
            go_wp2_with fail
            refine hcg.mono ?_
            rintro e w4 ⟨rfl, hb4⟩
            have hd4 := HDW.out.below hb4
            obtain ⟨k40, k41, k42, k43, g40, g41, g42, g43⟩ := hd4.c4
            obtain ⟨k50, k51, k52, k53, k54, k55⟩ := hd4.c5
            simp only at k50 k51 k52 k53 k54 k55
            have hs4 := hd4.lt
            have hd5 := hd4.set
            have hb5 : Below w.heap.size w ((((w4.setCell ⟨w.heap.size, 0, none⟩ (.int .i64 0)).setCell ⟨w.heap.size, 1, none⟩ (.int .i64 0)).setCell ⟨w.heap.size, 2, none⟩ (.slice none 0 0)).setCell ⟨w.heap.size, 3, none⟩ (.slice none 0 0)) := bl_set (bl_set (bl_set (bl_set (bl_then HB3.out hb4) (by simp) _) (by simp) _) (by simp) _) (by simp) _
            have HD5 := Lib.hid hd5
            have HB5 := Lib.hid hb5
            clear hb4 hd4 hd5 hb5 hcg c40 c41 c42 c43 f40 f41 f42 f43 c50 c51 c52 c53 c54 c55
            go_wp2_with fail
            refine (free_led p r share room es gs xi till _ (H.out.below HB5.out) HH.out.fine).mono ?_
            rintro e w6 ⟨rfl, hl6, hm6⟩
            go_wp2_with fail
            go_meet
            case rel =>
              have hmv := (Mov.ofBelow HB5.out).trans hm6
              exact ⟨_, _, rfl, rfl, HD5.out.mov hm6 hlt.1 hlt.2.1, (by
                split at hl6
                · exact ⟨_, _, hl6, sane_free HH.out H.out.nodup (by omega) _ _⟩
                · exact ⟨_, _, hl6, HH.out.more (by omega)⟩), hmv⟩
          · have hb4 : (op == 4) = false := beq_eq_false_iff_ne.2 h4
            go_wp2_with fail
            go_meet
            case rel => exact ⟨_, _, rfl, rfl, HDW.out, ⟨es, gs, H.out.below HB3.out, HH.out.more (by omega)⟩, Mov.ofBelow HB3.out⟩
  case rest =>
    obtain ⟨y8, y9, rfl, rfl, HD, HL, HM⟩ := hcut
    obtain ⟨k40, k41, k42, k43, g40, g41, g42, g43⟩ := HD.out.c4
    obtain ⟨k60, k61, k62, k63, g60, g61, g62, g63⟩ := HD.out.c6
    have hs := HD.out.lt
    clear c40 c41 c42 c43 f40 f41 f42 f43 c50 c51 c52 c53 c54 c55
    go_wp2_with fail
    have S4 := set4 (a0 := .int .i64 0) (a1 := .int .i64 0) (a2 := .slice none 0 0) (a3 := .slice none 0 0) HD.out.b6
    have s0 := S4 0 _ rfl
    have s1 := S4 1 _ rfl
    have s2 := S4 2 _ rfl
    have s3 := S4 3 _ rfl
    obtain ⟨es', gs', hl', hh'⟩ := HL.out
    have hlw := hl'.lt
    have hfin : LedgerAt ((((wc.setCell ⟨w.heap.size + 2, 0, none⟩ (.int .i64 0)).setCell ⟨w.heap.size + 2, 1, none⟩ (.int .i64 0)).setCell ⟨w.heap.size + 2, 2, none⟩ (.slice none 0 0)).setCell ⟨w.heap.size + 2, 3, none⟩ (.slice none 0 0)) p r share room es' gs' := by
      obtain ⟨v, h1, h2, h3⟩ := hl'
      exact ⟨v, (set4_other (by omega)).trans h1, h2.kept (set4_kept HD.out.b6), h3.step (set4_other (by omega))⟩
    have hmv : Mov p r w ((((wc.setCell ⟨w.heap.size + 2, 0, none⟩ (.int .i64 0)).setCell ⟨w.heap.size + 2, 1, none⟩ (.int .i64 0)).setCell ⟨w.heap.size + 2, 2, none⟩ (.slice none 0 0)).setCell ⟨w.heap.size + 2, 3, none⟩ (.slice none 0 0)) :=
      ⟨HM.out.os, HM.out.tape, HM.out.output, by simpa [World.setCell] using HM.out.size, fun k hk h1 h2 => (set4_other (by omega)).trans (HM.out.block k hk h1 h2), fun h1 h2 v hv => HM.out.c3 h1 h2 v ((World.cell?_of_block (w := wc) (a := ⟨p, 3, none⟩) (set4_other (by show p ≠ _; omega))).symm.trans hv)⟩
    exact bodyPost_ret (v := .tuple #[.agg #[.int .i64 0, .int .i64 0, .slice none 0 0, .slice none 0 0], .bool (y9 == y8)]) (by simp [results, Try.results12, go_sem, s0, s1, s2, s3]) rfl ⟨⟨_, rfl⟩, ⟨es', gs', hfin, hh'⟩, hmv⟩
end Go.Proofs.Ytfnijjjfodpnnaa
