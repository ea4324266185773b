/- Ledger: New, Taken, linger, Give, Free. -/
import Derived.Test.YtfnijjjfodpnnaaLedF
import Derived.Test.YtfnijjjfodpnnaaDel
import Derived.StillTailTactics
namespace Go.Proofs.Ytfnijjjfodpnnaa
open Go.RowKit Go.Shelf

def newOk (share room : Int) : Bool := wi share 0 1000000 && wi room 0 1000000000
set_option maxRecDepth 100000 in
set_option maxHeartbeats 400000 in
theorem new_led (share room : Int) (w : World) :
    Calls Try.prog 11 #[.int .i64 share, .int .i64 room] w fun e w' => Below w.heap.size w w' ∧ ((newOk share room = false ∧ e = .returned (.tuple #[.pointer none, .int .i64 2])) ∨ (newOk share room = true ∧ ∃ p r, e = .returned (.tuple #[.pointer (some ⟨p, 0, none⟩), .int .i64 0]) ∧ LedgerAt w' p r share room [] [] ∧ w.heap.size ≤ p ∧ w.heap.size ≤ r)) := by
  unfold newOk
  have hmm := @run_makeMap Try.prog
  cases hq1 : wi share 0 1000000
  all_goals cases hq2 : wi room 0 1000000000
  all_goals
    have HQ1 := Lib.hid hq1
    have HQ2 := Lib.hid hq2
    clear hq1 hq2
    go_enter Try.func11, Try.ntmps11
    go_wp2_with (go_at_call 27; refine (within_any _ _ _ _).mono ?_; rintro e w' ⟨rfl, rfl⟩; first | rw [HQ1.out] | rw [HQ2.out])
    go_ret2
  · exact ⟨Below.refl _ _, Or.inl ⟨rfl, rfl⟩⟩
  · exact ⟨Below.refl _ _, Or.inl ⟨rfl, rfl⟩⟩
  · exact ⟨Below.refl _ _, Or.inl ⟨rfl, rfl⟩⟩
  · refine ⟨bl_alloc (bl_alloc (Below.refl _ _) _) _, Or.inr ⟨rfl, w.heap.size + 1, w.heap.size, rfl, ⟨.slice none 0 0, ?_, SAt.nil, ?_⟩, by omega, by omega⟩⟩
    · have := (MapKept.heap_alloc (w.alloc (.map #[] 0)) (.cells #[.int .i64 share, .int .i64 room, .map (some w.heap.size), .slice none 0 0] 65)).1
      simpa using this
    · exact (MapOf.made w).below (bl_alloc (Below.refl _ _) _)
set_option maxRecDepth 100000 in
set_option maxHeartbeats 400000 in
theorem taken_led (p r : Nat) (share room : Int) (es : List En) (gs : List Ling) (now : Int) (w : World) (h : LedgerAt w p r share room es gs) (hF : Fine es gs) :
    Calls Try.prog 13 #[.pointer (some ⟨p, 0, none⟩), .int .i64 now] w fun e w' => e = .returned (if wi now 0 4611686018427387904 then .tuple #[.int .i64 (sumR es + takG gs now), .int .i64 (sumM es), .int .i64 0] else .tuple #[.int .i64 0, .int .i64 0, .int .i64 2]) ∧ Below w.heap.size w w' := by
  obtain ⟨v, c0, c1, c2, c3, hs, hm⟩ := h.cells
  have H := Lib.hid h
  have HF := Lib.hid hF
  have HC2 := Lib.hid c2
  clear h hF hs hm c0 c1 c2 c3
  cases hq : wi now 0 4611686018427387904
  all_goals
    have HQ := Lib.hid hq
    clear hq
    go_enter Try.func13, Try.ntmps13
    go_wp2_with (first | (go_at_call 32; refine (none_no p r _ HC2.out).mono ?_; rintro e w' ⟨rfl, rfl⟩) | (go_at_call 27; refine (within_any _ _ _ _).mono ?_; rintro e w' ⟨rfl, rfl⟩; rw [HQ.out]) | (go_at_call 33; refine (taken_any p r share room es gs now _ H.out HF.out).mono ?_; rintro e w' ⟨rfl, hb⟩))
  · exact bodyPost_ret (v := .tuple #[.int .i64 0, .int .i64 0, .int .i64 2]) (by simp [results, Try.results13, go_sem]) rfl ⟨rfl, Below.refl _ _⟩
  · exact bodyPost_ret (v := .tuple #[.int .i64 (sumR es + takG gs now), .int .i64 (sumM es), .int .i64 0]) (by simp [results, Try.results13, go_sem]) rfl ⟨rfl, hb⟩

def lingG (gs : List Ling) (n till : Int) : List Ling := if 0 < n then gs ++ [⟨n, till⟩] else gs
theorem LedgerAt.store {w w1 : World} {p r : Nat} {share room : Int} {es : List En} {gs gs' : List Ling} (h : LedgerAt w p r share room es gs) (hb : Below w.heap.size w w1) {n : Nat} {v : Value} (hn : gs'.length = n) (ho : w1.ownsRow w.heap.size 84 2 v n (gs'.flatMap Ling.cells)) : LedgerAt (w1.setCell ⟨p, 3, none⟩ v) p r share room es gs' ∧ Mov p r w (w1.setCell ⟨p, 3, none⟩ v) := by
  have hp := h.lt
  obtain ⟨v0, h1, h2, h3⟩ := h
  have h4 := (hb.block p hp.1).trans h1
  have hblk : (w1.setCell ⟨p, 3, none⟩ v).heap[p]? = some (.cells #[.int .i64 share, .int .i64 room, .map (some r), v] 65 (0, 0)) := by
    simp [World.setCell, Array.getElem?_modify, h4]
  refine ⟨⟨v, hblk, SAt.ofOwn (fun _ => rfl) hn (ownsRow_setCell_below ho (a := ⟨p, 3, none⟩) hp.1 v), ?_⟩, ⟨hb.os, hb.tape, hb.output, by simpa [World.setCell] using hb.size, fun k hk h1 _ => (Below.heap_setCell _ _ _ _ h1).trans (hb.block k hk), fun _ _ v' hv' => Or.inl fun b o m c e => ?_⟩⟩
  · refine (h3.below hb).step ?_
    exact Below.heap_setCell _ _ _ _ (fun e => hp.2.2 e.symm)
  · rw [cell_blk hblk] at hv'
    simp at hv'
    subst hv'
    subst e
    exact (ho.lt b rfl).1
theorem info_li2 : (Try.prog.info? 84).map (fun i => (i.zero, i.size, i.bytes)) = some (some (.agg #[.int .i64 0, .int .i64 0]), 2, 16) := by kernel_rfl
set_option maxRecDepth 100000 in
set_option maxHeartbeats 400000 in
theorem linger_led (p r : Nat) (share room : Int) (es : List En) (gs : List Ling) (n till : Int) (w : World) (h : LedgerAt w p r share room es gs) (hF : Fine es gs) :
    Calls Try.prog 34 #[.pointer (some ⟨p, 0, none⟩), .int .i64 n, .int .i64 till] w fun e w' => e = .returned (.tuple #[]) ∧ LedgerAt w' p r share room es (lingG gs n till) ∧ Mov p r w w' := by
  obtain ⟨v, c0, c1, c2, c3, hs, hm⟩ := h.cells
  have H := Lib.hid h
  have hgl := hF.gl
  have hps := h.lt.1
  have hcl := clone_li v gs w hs (by omega)
  have hfz : w.frozen? ⟨p, 3, none⟩ = false := by obtain ⟨v0, h1, _⟩ := h; simp [World.frozen?, h1]
  have HFZ := Lib.hid hfz
  have HC3 := Lib.hid c3
  clear h hF hs hm hfz
  unfold lingG
  by_cases hn : 0 < n
  · obtain ⟨i0, hi, hz0, hz1, hz2⟩ := info_parts info_li2
    simp only [if_pos hn]
    go_enter Try.func34, Try.ntmps34
    go_wp2_with fail
    refine hcl.mono ?_
    rintro e w1 ⟨v1, rfl, hs1, ho1, -, hb1⟩
    have HO1 := Lib.hid ho1
    have HB1 := Lib.hid hb1
    clear hcl hs1 ho1 hb1 c0 c1 c2 c3
    go_wp2_with (at_builtin; refine wpList_append_own _ rfl _ _ 63 rfl w.heap.size 84 i0 _ 2 16 Try.underlying63 hi hz0 hz1 hz2 rfl (by decide) _ _ _ rfl (HO1.out.alloc _) ⟨w1.heap.size, 0, none⟩ 1 1 (Ling.cells ⟨n, till⟩) rfl rfl ?qc2 ?qc3 ?qc4 ?qc5 ?qc6 ?_)
    case qc2 => exact fun j' u hj' => by rw [Addr.add_lit]; exact RowAt.flat (enc := Ling.cells) (k := 2) (fun _ => rfl) (rowAt_new (enc := Ling.cells) (k := 2) (fun _ => rfl) w1 84 [⟨n, till⟩] (b := w1.heap.size) rfl rfl) j' u (by simpa using hj')
    case qc3 => exact fun u hu => by simp [Ling.cells] at hu; rcases hu with rfl | rfl <;> rfl
    case qc4 => unfold maxLen; omega
    case qc5 => omega
    case qc6 => have := HB1.out.size; simp; omega
    intro v' w2 hown' hgrow _
    have hb2 : Below w.heap.size w w2 := (bl_alloc HB1.out _).grown hgrow (by have := HB1.out.size; simp; omega) (fun k hk => (HO1.out.lt k hk).1)
    have hst := H.out.store (gs' := gs ++ [⟨n, till⟩]) (n := gs.length + 1) (v := v') hb2 (by simp) (by rw [List.flatMap_append]; exact hown')
    have c3' := bl_cell hb2 HC3.out
    have hfz' : w2.frozen? ⟨p, 3, none⟩ = false := (hb2.frozen (p := ⟨p, 3, none⟩) hps).trans HFZ.out
    obtain ⟨g, cap, rfl⟩ : ∃ g cap, v' = .slice (some ⟨g, 0, none⟩) (gs.length + 1) cap := by
      rcases hown'.2 with ⟨_, h0⟩ | ⟨g, cap, cur, h0, _⟩
      · omega
      · exact ⟨g, cap, h0⟩
    have HST := Lib.hid hst
    clear hst hown' hgrow hb2
    go_wp2_with fail
    exact bodyPost_end (v := .tuple #[]) (by simp [results, Try.results34, go_sem]) rfl ⟨rfl, HST.out⟩
  · simp only [if_neg hn]
    have HL := H.out
    clear hcl
    go_enter Try.func34, Try.ntmps34
    go_wp2_with fail
    exact bodyPost_end (v := .tuple #[]) (by simp [results, Try.results34, go_sem]) rfl ⟨rfl, HL, Mov.refl _ _ _⟩
def giveE (es : List En) (x : En) (y : Int) : List En := if y = 0 then putE es x else es
set_option maxRecDepth 100000 in
set_option maxHeartbeats 400000 in
theorem give_led (p r : Nat) (share room : Int) (es : List En) (gs : List Ling) (x : En) (now : Int) (w : World) (h : LedgerAt w p r share room es gs) (hF : Fine es gs) :
    Calls Try.prog 14 #[.pointer (some ⟨p, 0, none⟩), .agg #[.int .i64 x.i, .int .i64 x.r, .int .i64 x.m], .int .i64 now] w fun e w' => e = .returned (.int .i64 (firstQ (fitsQs share room es gs x now))) ∧ LedgerAt w' p r share room (giveE es x (firstQ (fitsQs share room es gs x now))) gs ∧ Mov p r w w' := by
  have hb1 := bl_alloc (Below.refl w.heap.size w) (.cells #[.int .i64 x.i, .int .i64 x.r, .int .i64 x.m] 30)
  have hfit := fits_led p r share room es gs x now _ (h.below hb1) hF
  have H := Lib.hid h
  have HB1 := Lib.hid hb1
  have HF := Lib.hid hF
  unfold giveE
  generalize firstQ (fitsQs share room es gs x now) = y at hfit ⊢
  clear h hF hb1
  go_enter Try.func14, Try.ntmps14
  go_wp2_with fail
  refine hfit.mono ?_
  rintro e w2 ⟨rfl, hb2⟩
  have hbw : Below w.heap.size w w2 := HB1.out.trans (hb2.mono (by simp))
  obtain ⟨v, c0, c1, c2, c3, hs, hm⟩ := (H.out.below hbw).cells
  have x0 : w2.cell? ⟨w.heap.size, 0, none⟩ = some (.int .i64 x.i) := bl_cell hb2 (by go_simp)
  have x1 : w2.cell? ⟨w.heap.size, 1, none⟩ = some (.int .i64 x.r) := bl_cell hb2 (by go_simp)
  have x2 : w2.cell? ⟨w.heap.size, 2, none⟩ = some (.int .i64 x.m) := bl_cell hb2 (by go_simp)
  have HBW := Lib.hid hbw
  have HM := Lib.hid hm
  clear hfit hb2 hbw hs hm c0 c1 c3
  by_cases hy : y = 0
  · subst hy
    go_wp2_with fail
    go_still_tail 7, (by kernel_rfl)
    change wpList _ _ _ _ _ w2.drew
    refine wpList_store rfl _ _ _ rfl klaw1 Try.underlying62 HM.out.drew x.i x.val rfl rfl rfl ?_
    intro w3 hm3 hg3 hz3
    have HM3 := Lib.hid hm3
    have HG3 := Lib.hid hg3
    clear hm3 hg3 x0 x1 x2 c2
    go_wp2_with fail
    go_ret
    obtain ⟨v', h1, h2, h3⟩ := (H.out.below HBW.out)
    obtain ⟨ees, cl, hh, _⟩ := h3
    have hne : p ≠ r := H.out.lt.2.2
    refine ⟨rfl, ⟨v', ?_, h2.kept (cellsKept_map (w := w2.drew) hh HG3.out), by first | (rw [← mput_en]; exact HM3.out) | (rw [if_pos rfl, ← mput_en]; exact HM3.out)⟩, ((Mov.ofBelow HBW.out).trans (Mov.ofBelow (bl_drew (Below.refl _ _)))).trans (Mov.ofGrown HG3.out)⟩
    exact (HG3.out.block p (Array.getElem?_eq_some_iff.1 h1).1 (fun e => hne (Option.some.inj e))).trans h1
  · go_wp2_with fail
    go_ret
    exact ⟨rfl, by first | exact H.out.below HBW.out | (rw [if_neg hy]; exact H.out.below HBW.out), Mov.ofBelow HBW.out⟩

def freeY (es : List En) (i till : Int) : Int := if (wi i 0 2147483647 && wi till 0 4611686018427387904) = false then 2 else if (getE es i).isSome then 0 else 5
theorem free_mid (p r : Nat) (share room : Int) (es : List En) (gs : List Ling) (i : Int) (old : En) (w w3 : World) (h : LedgerAt w p r share room es gs) (hF : Fine es gs) (hm3 : MapOf enc1 w3 r (mdel (enL es) i))
    (hg3 : (w.alloc (.cells #[.int .i64 old.i, .int .i64 old.r, .int .i64 old.m] 30)).grownBy w3 (some r)) :
    Hid (LedgerAt w3 p r share room (delE es i) gs) ∧ Hid (Mov p r w w3) ∧ Hid (Fine (delE es i) gs) ∧ w3.cell? ⟨w.heap.size, 1, none⟩ = some (.int .i64 old.r) := by
  have H := Lib.hid h
  have HF := Lib.hid hF
  have hp := h.lt
  have hs3 : LedgerAt w3 p r share room (delE es i) gs := by
    obtain ⟨v', h1, h2, h3⟩ := H.out.below (bl_alloc (Below.refl w.heap.size w) (.cells #[.int .i64 old.i, .int .i64 old.r, .int .i64 old.m] 30))
    obtain ⟨ees, cl, hh, _⟩ := h3
    refine ⟨v', ?_, h2.kept (cellsKept_map hh hg3), by rw [← mdel_en]; exact hm3⟩
    exact (hg3.block p (Array.getElem?_eq_some_iff.1 h1).1 (fun e => hp.2.2 (Option.some.inj e))).trans h1
  have hmv : Mov p r w w3 := (Mov.ofBelow (bl_alloc (Below.refl _ _) _)).trans (Mov.ofGrown hg3)
  have k1 : w3.cell? ⟨w.heap.size, 1, none⟩ = some (.int .i64 old.r) := (World.cell?_of_block (w := w.alloc (.cells #[.int .i64 old.i, .int .i64 old.r, .int .i64 old.m] 30)) (a := ⟨w.heap.size, 1, none⟩) (hg3.block w.heap.size (by simp) (fun e => by have := Option.some.inj e; omega))).trans (by go_simp)
  have hF3 : Fine (delE es i) gs := ⟨fun y hy => HF.out.e y (List.mem_filter.1 hy).1, HF.out.g, Nat.le_trans (List.length_filter_le _ _) HF.out.el, HF.out.gl⟩
  exact ⟨Lib.hid hs3, Lib.hid hmv, Lib.hid hF3, k1⟩
set_option maxRecDepth 100000 in
set_option maxHeartbeats 400000 in
theorem free_led (p r : Nat) (share room : Int) (es : List En) (gs : List Ling) (i till : Int) (w : World) (h : LedgerAt w p r share room es gs) (hF : Fine es gs) :
    Calls Try.prog 15 #[.pointer (some ⟨p, 0, none⟩), .int .i64 i, .int .i64 till] w fun e w' => e = .returned (.int .i64 (freeY es i till)) ∧ (if freeY es i till = 0 then LedgerAt w' p r share room (delE es i) (lingG gs (oldE es i).r till) else LedgerAt w' p r share room es gs) ∧ Mov p r w w' := by
  obtain ⟨v, c0, c1, c2, c3, hs, hm⟩ := h.cells
  have hlook := look_en hm i true
  have hp := h.lt
  have H := Lib.hid h
  have HF := Lib.hid hF
  have HM := Lib.hid hm
  have HC2 := Lib.hid c2
  unfold freeY
  generalize hold : oldE es i = old at hlook ⊢
  generalize hhas : (getE es i).isSome = has at hlook ⊢
  simp only [if_true] at hlook
  clear h hF hs hm c0 c1 c3 hold hhas
  cases hq1 : wi i 0 2147483647
  all_goals cases hq2 : wi till 0 4611686018427387904
  all_goals cases has
  all_goals
    have HQ1 := Lib.hid hq1
    have HQ2 := Lib.hid hq2
    clear hq1 hq2
    go_enter Try.func15, Try.ntmps15
    go_wp2_with (first | (go_at_call 32; refine (none_no p r _ HC2.out).mono ?_; rintro e w' ⟨rfl, rfl⟩) | (go_at_call 27; refine (within_any _ _ _ _).mono ?_; rintro e w' ⟨rfl, rfl⟩; first | rw [HQ1.out] | rw [HQ2.out]) | ((refine wpList_delete rfl _ _ rfl klaw1 Try.underlying62 (HM.out.below (bl_alloc (Below.refl _ _) _)) i rfl rfl ?_); intro w3 hm3 hg3 hz3; obtain ⟨HS3, HMV, HF3, k1⟩ := free_mid p r share room es gs i old w w3 H.out HF.out hm3 hg3; clear hm3 hg3 hlook c2))
  iterate 7
    · go_ret
      exact ⟨rfl, H.out.below (bl_alloc (Below.refl _ _) _), Mov.ofBelow (bl_alloc (Below.refl _ _) _)⟩
  go_wp2_with fail
  refine (linger_led p r share room (delE es i) gs old.r till _ HS3.out HF3.out).mono ?_
  rintro e w4 ⟨rfl, hl4, hv4⟩
  go_wp2_with fail
  go_ret
  exact ⟨rfl, hl4, HMV.out.trans hv4⟩
end Go.Proofs.Ytfnijjjfodpnnaa
