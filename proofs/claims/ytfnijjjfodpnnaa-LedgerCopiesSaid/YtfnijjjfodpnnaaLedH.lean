/- Ledger: Change. -/
import Derived.Test.YtfnijjjfodpnnaaLedG
namespace Go.Proofs.Ytfnijjjfodpnnaa
open Go.RowKit Go.Shelf

def changeQs (share room : Int) (es : List En) (gs : List Ling) (x : En) (now till : Int) : List (Int × Bool) := [(2, !mayB x [now, till]), (5, !(getE es x.i).isSome)] ++ roomQs share room es gs x (oldE es x.i) now
theorem en_c1 : ∀ args w, (callFunc 50 args).run Try.prog w = .ok (.enter 50 args) w := enters_of Try.func50 (by kernel_rfl) rfl
theorem en_c2 : ∀ args w, (callFunc 51 args).run Try.prog w = .ok (.enter 51 args) w := enters_of Try.func51 (by kernel_rfl) rfl
def changed (w' : World) (p r : Nat) (share room : Int) (es : List En) (gs : List Ling) (x : En) (till : Int) (y : Int) : Prop := if y = 0 then LedgerAt w' p r share room (putE es x) (lingG gs ((oldE es x.i).r - x.r) till) else LedgerAt w' p r share room es gs
theorem old_bd {es : List En} {gs : List Ling} (hF : Fine es gs) (i : Int) : 0 ≤ (oldE es i).r ∧ (oldE es i).r ≤ 1000000 ∧ 0 ≤ (oldE es i).m ∧ (oldE es i).m ≤ 1000000000 := by
  unfold oldE
  cases h : getE es i with
  | none => simp
  | some y => exact hF.e y (List.mem_of_find?_eq_some h)
theorem mayB_bd {x : En} {l : List Int} (h : mayB x l = true) : 0 ≤ x.i ∧ x.i ≤ 2147483647 ∧ 1 ≤ x.r ∧ x.r ≤ 1000000 ∧ 0 ≤ x.m ∧ x.m ≤ 1000000000 := by
  simp [mayB, wi] at h
  omega
theorem change_ok {share room : Int} {es : List En} {gs : List Ling} {x : En} {now till : Int} (h : firstQ (changeQs share room es gs x now till) = 0) : mayB x [now, till] = true ∧ (getE es x.i).isSome = true := by
  unfold changeQs at h
  cases h1 : mayB x [now, till] <;> cases h2 : (getE es x.i).isSome <;> simp [firstQ, h1, h2] at h ⊢
theorem putE_fine {es : List En} {gs : List Ling} (hF : Fine es gs) {x : En} (hx : 1 ≤ x.r ∧ x.r ≤ 1000000 ∧ 0 ≤ x.m ∧ x.m ≤ 1000000000) (hl : (getE es x.i).isSome = true ∨ es.length < 1000) : Fine (putE es x) gs := by
  refine ⟨fun y hy => ?_, hF.g, ?_, hF.gl⟩
  · unfold putE at hy
    split at hy
    · obtain ⟨z, hz, rfl⟩ := List.mem_map.1 hy
      split
      · omega
      · exact hF.e z hz
    · rcases List.mem_append.1 hy with hy | hy
      · exact hF.e y hy
      · simp at hy; subst hy; omega
  · unfold putE
    split
    · simpa using hF.el
    · rcases hl with hl | hl
      · contradiction
      · simp; omega
set_option maxRecDepth 100000 in
set_option maxHeartbeats 1000000 in
theorem change_led (p r : Nat) (share room : Int) (es : List En) (gs : List Ling) (x : En) (now till : Int) (w : World) (h : LedgerAt w p r share room es gs) (hF : Fine es gs) :
    Calls Try.prog 26 #[.pointer (some ⟨p, 0, none⟩), .agg #[.int .i64 x.i, .int .i64 x.r, .int .i64 x.m], .int .i64 now, .int .i64 till] w fun e w' => e = .returned (.int .i64 (firstQ (changeQs share room es gs x now till))) ∧ changed w' p r share room es gs x till (firstQ (changeQs share room es gs x now till)) ∧ Mov p r w w' := by
  obtain ⟨v, c0, c1, c2, c3, hs, hm⟩ := h.cells
  have hbz := bl_alloc (bl_alloc (bl_alloc (Below.refl w.heap.size w) (.cells #[.int .i64 x.i, .int .i64 x.r, .int .i64 x.m] 30)) (.cells #[.int .i64 now] 2)) (.cells #[.int .i64 till] 2)
  have hlook : ∀ W, Below w.heap.size w W → _ := fun W hW => look_en (hm.below hW) x.i true
  have hpl := h.lt.1
  have hob := old_bd hF x.i
  have H := Lib.hid h
  have HF := Lib.hid hF
  have HBZ := Lib.hid hbz
  have HOK := Lib.hid (change_ok (share := share) (room := room) (es := es) (gs := gs) (x := x) (now := now) (till := till))
  generalize hy : firstQ (changeQs share room es gs x now till) = y at HOK ⊢
  unfold changed
  unfold changeQs at hy
  generalize hold : oldE es x.i = old at hlook hy hob ⊢
  generalize hhas : (getE es x.i).isSome = has at hlook hy HOK
  simp only [if_true] at hlook
  obtain ⟨ob1, ob2, -, -⟩ := hob
  have HHAS := Lib.hid hhas
  have HY := Lib.hid hy
  have HS : Hid (∀ W, Below (w.heap.size + 3) (((w.alloc (.cells #[.int .i64 x.i, .int .i64 x.r, .int .i64 x.m] 30)).alloc (.cells #[.int .i64 now] 2)).alloc (.cells #[.int .i64 till] 2)) W → (fun w' => w'.cell? ⟨p, 2, none⟩ = some (.map (some r)) ∧ w'.cell? ⟨w.heap.size, 0, none⟩ = some (.int .i64 x.i) ∧ (Instr.lookup 62 (.map (some r)) (.int .i64 x.i) true).run Try.prog w' = .ok (.tuple #[.agg #[.int .i64 old.i, .int .i64 old.r, .int .i64 old.m], .bool has]) w') W) := Lib.hid fun W hW => by
    have hW' : Below ((((w.alloc (.cells #[.int .i64 x.i, .int .i64 x.r, .int .i64 x.m] 30)).alloc (.cells #[.int .i64 now] 2)).alloc (.cells #[.int .i64 till] 2))).heap.size (((w.alloc (.cells #[.int .i64 x.i, .int .i64 x.r, .int .i64 x.m] 30)).alloc (.cells #[.int .i64 now] 2)).alloc (.cells #[.int .i64 till] 2)) W := hW.mono (by simp)
    exact ⟨(bl_cell hW' (bl_cell hbz c2)), bl_cell hW' (by go_simp), hlook _ (bl_then hbz hW')⟩
  have HC2 := Lib.hid (bl_cell hbz c2)
  have HKX : Hid (EnAt (((w.alloc (.cells #[.int .i64 x.i, .int .i64 x.r, .int .i64 x.m] 30)).alloc (.cells #[.int .i64 now] 2)).alloc (.cells #[.int .i64 till] 2)) w.heap.size 0 x) := Lib.hid ⟨by go_simp, by go_simp, by go_simp⟩
  have HKN : Hid ((((w.alloc (.cells #[.int .i64 x.i, .int .i64 x.r, .int .i64 x.m] 30)).alloc (.cells #[.int .i64 now] 2)).alloc (.cells #[.int .i64 till] 2)).cell? ⟨w.heap.size + 1, 0, none⟩ = some (.int .i64 now)) := Lib.hid (by go_simp)
  have HKT : Hid ((((w.alloc (.cells #[.int .i64 x.i, .int .i64 x.r, .int .i64 x.m] 30)).alloc (.cells #[.int .i64 now] 2)).alloc (.cells #[.int .i64 till] 2)).cell? ⟨w.heap.size + 2, 0, none⟩ = some (.int .i64 till)) := Lib.hid (by go_simp)
  clear h hF hs hm hbz c0 c1 c3 hold hhas hlook hy
  go_enter Try.func26, Try.ntmps26
  go_wp2_with (go_at_call 32; refine (none_no p r _ HC2.out).mono ?_; rintro e w' ⟨rfl, rfl⟩)
  go_cut [9, 10] (fun s9 s10 wx => ∃ q7 q8, s9 = .pointer (some ⟨q7, 0, none⟩) ∧ s10 = .pointer (some ⟨q8, 0, none⟩) ∧ Aside (EnAt wx q7 0 old) ∧ Aside (wx.cell? ⟨q8, 0, none⟩ = some (.bool has)) ∧ Aside (Below (((w.alloc (.cells #[.int .i64 x.i, .int .i64 x.r, .int .i64 x.m] 30)).alloc (.cells #[.int .i64 now] 2)).alloc (.cells #[.int .i64 till] 2)).heap.size (((w.alloc (.cells #[.int .i64 x.i, .int .i64 x.r, .int .i64 x.m] 30)).alloc (.cells #[.int .i64 now] 2)).alloc (.cells #[.int .i64 till] 2)) wx))
  case first =>
    go_region_held3 (fun w' => w'.cell? ⟨p, 2, none⟩ = some (.map (some r)) ∧ w'.cell? ⟨w.heap.size, 0, none⟩ = some (.int .i64 x.i) ∧ (Instr.lookup 62 (.map (some r)) (.int .i64 x.i) true).run Try.prog w' = .ok (.tuple #[.agg #[.int .i64 old.i, .int .i64 old.r, .int .i64 old.m], .bool has]) w')
      (first
        | exact HS.out _ (by repeat (first | exact Below.refl _ _ | refine bl_alloc' ?_ (by simp <;> omega) _ | refine bl_set ?_ (by simp <;> omega) _ | refine bl_drewN ?_ _ | refine bl_drew ?_)))
      (fail)
    all_goals (go_wp2_with fail; go_meet)
    all_goals case rel =>
      refine ⟨_, _, rfl, rfl, ⟨by go_simp, by go_simp, by go_simp⟩, (show World.cell? _ _ = some (Value.bool has) by go_simp), ?_⟩
      repeat (first | exact Below.refl _ _ | refine bl_alloc' ?_ (by simp <;> omega) _ | refine bl_set ?_ (by simp <;> omega) _ | refine bl_drewN ?_ _ | refine bl_drew ?_)
  case rest =>
    obtain ⟨q7, q8, rfl, rfl, HQ7, HQ8, HBC⟩ := hcut
    obtain ⟨i0, hi, hz0, hz1, hz2⟩ := info_parts info_fl
    obtain ⟨fl3, hfl3⟩ : ∃ l : List Fl, l = [⟨50, #[.pointer (some ⟨w.heap.size, 0, none⟩), .pointer (some ⟨w.heap.size + 1, 0, none⟩), .pointer (some ⟨w.heap.size + 2, 0, none⟩)], 2, !mayB x [now, till]⟩, ⟨51, #[.pointer (some ⟨q8, 0, none⟩)], 5, !has⟩] := ⟨_, rfl⟩
    obtain ⟨o0, o1, o2⟩ := HQ7.out
    obtain ⟨x0, x1, x2⟩ := HKX.out.below HBC.out
    have hn0 := bl_cell HBC.out HKN.out
    have ht0 := bl_cell HBC.out HKT.out
    have hp1 : q7 < wc.heap.size := World.block_lt_of_cell? wc ⟨q7, 0, none⟩ o0
    have hp2 : w.heap.size + 2 < wc.heap.size := World.block_lt_of_cell? wc ⟨w.heap.size + 2, 0, none⟩ ht0
    have hp3 : w.heap.size < wc.heap.size := by omega
    have hp4 : w.heap.size + 1 < wc.heap.size := by omega
    have HFL := Lib.hid hfl3
    have hb4 := bl_alloc (Below.refl wc.heap.size wc) (.cells (fl3.flatMap Fl.cells).toArray 79)
    have hwb : Below w.heap.size w wc := (bl_alloc (bl_alloc (bl_alloc (Below.refl _ _) _) _) _).trans (HBC.out.mono (by simp <;> omega))
    have hfit := fits_any p r share room es gs x old now _ (H.out.below (bl_then hwb hb4)) HF.out
    have HWB := Lib.hid hwb
    have HB4 := Lib.hid hb4
    rw [hfl3] at hfit
    simp only [List.flatMap_cons, List.flatMap_nil, Fl.cells, List.cons_append, List.nil_append] at hfit
    clear hwb hb4 hfl3
    go_wp2_with fail
    refine hfit.mono ?_
    rintro e w5 ⟨v5, rfl, hfl5, hb5⟩
    have HB5 := Lib.hid hb5
    obtain ⟨fl2, hs2, hok2, hq2⟩ := hfl5
    have hl2 : fl2.length = 2 := by have := congrArg List.length hq2; simpa [roomQs] using this
    have hfok : Hid (∀ W, Below w5.heap.size w5 W → ∀ f ∈ fl3, FlOk W f) := Lib.hid fun W hW f hf => by
      have hb6 := bl_then (bl_then HB4.out (by rw [HFL.out]; exact HB5.out)) hW
      rw [HFL.out] at hf
      simp only [List.mem_cons, List.not_mem_nil, or_false] at hf
      have hbZ := bl_then HBC.out hb6
      rcases hf with rfl | rfl
      · exact ⟨en_c1, fun W' hW' => change1_any x now till _ _ _ W' (HKX.out.below (bl_then hbZ hW')) (bl_cell (bl_then hbZ hW') HKN.out) (bl_cell (bl_then hbZ hW') HKT.out)⟩
      · exact ⟨en_c2, fun W' hW' => (change2_any has _ W' (bl_cell (bl_then hb6 hW') HQ8.out)).mono fun e w' ⟨he, hw⟩ => ⟨he, hw ▸ Below.refl _ _⟩⟩
    rcases hs2 with ⟨_, h0⟩ | ⟨b2, o2', cc2, rfl, _, _, hrow2⟩
    · subst h0; simp at hl2
    · have HR2 := Lib.hid hrow2
      have HQ2 := Lib.hid hq2
      have HOK2 := Lib.hid hok2
      have hr3 : RowAt Fl.cells 2 w5 wc.heap.size 0 fl3 := (rowAt_new (enc := Fl.cells) (k := 2) (fun _ => rfl) wc 79 fl3 rfl rfl).below (by rw [HFL.out]; exact HB5.out)
      have HR3 := Lib.hid hr3
      have hl3 : fl3.length = 2 := by rw [HFL.out]; rfl
      clear hfit hb5 hrow2 hq2 hok2 hr3
      go_wp2_with (at_builtin; refine wpList_append_grows _ rfl _ _ 76 rfl 79 i0 _ 2 16 Try.underlying76 hi hz0 hz1 hz2 rfl (by decide) (some ⟨wc.heap.size, 0, none⟩) 2 2 (fl3.flatMap Fl.cells) rfl (fun h => by cases h) ?qa1 ?qa2 ⟨b2, o2', none⟩ fl2.length cc2 (fl2.flatMap Fl.cells) ?qb0 ?qb1 ?qb2 ?qb3 ?qc1 ?qc2 ?qc3 ?_)
      case qa1 => rw [flat_length (k := 2) (fun _ => rfl), hl3]
      case qa2 => exact fun b hb j u hj => by cases hb; rw [Addr.add_lit]; exact RowAt.flat (enc := Fl.cells) (k := 2) (fun _ => rfl) HR3.out j u hj
      case qb0 => first | rfl | go_simp
      case qb1 => exact flat_length (k := 2) (fun _ => rfl) fl2
      case qb2 => exact fun j u hj => by rw [Addr.add_lit]; exact RowAt.flat (enc := Fl.cells) (k := 2) (fun _ => rfl) HR2.out j u hj
      case qb3 =>
        intro u hu
        obtain ⟨f, _, hf⟩ := List.mem_flatMap.1 hu
        simp [Fl.cells] at hf
        rcases hf with rfl | rfl <;> rfl
      case qc1 => omega
      case qc2 => unfold maxLen; omega
      case qc3 => omega
      intro v6 w6 hown hgrow
      have hb6 : Below w5.heap.size w5 w6 := ⟨hgrow.os, hgrow.tape, hgrow.output, hgrow.size, fun k hk => hgrow.block k hk (by simp)⟩
      have hfl6 : Flaws w6 v6 ([(2, !mayB x [now, till]), (5, !has)] ++ roomQs share room es gs x old now) := by
        refine ⟨fl3 ++ fl2, SAt.ofOwn (fun _ => rfl) (n := 4) (by rw [List.length_append, hl3, hl2]) (by rw [List.flatMap_append]; exact hown), fun f hf => ?_, by rw [List.map_append, HQ2.out, HFL.out]; rfl⟩
        rcases List.mem_append.1 hf with hf | hf
        · exact hfok.out _ hb6 f hf
        · exact (HOK2.out f hf).below hb6
      have hbw6 : Hid (Below w.heap.size w w6) := Lib.hid (bl_then (bl_then (bl_then HWB.out HB4.out) (by rw [HFL.out]; exact HB5.out)) hb6)
      have hbc6 : Hid (Below (((w.alloc (.cells #[.int .i64 x.i, .int .i64 x.r, .int .i64 x.m] 30)).alloc (.cells #[.int .i64 now] 2)).alloc (.cells #[.int .i64 till] 2)).heap.size (((w.alloc (.cells #[.int .i64 x.i, .int .i64 x.r, .int .i64 x.m] 30)).alloc (.cells #[.int .i64 now] 2)).alloc (.cells #[.int .i64 till] 2)) w6) := Lib.hid (bl_then (bl_then (bl_then HBC.out HB4.out) (by rw [HFL.out]; exact HB5.out)) hb6)
      have hbq6 : Hid (Below wc.heap.size wc w6) := Lib.hid (bl_then (bl_then HB4.out (by rw [HFL.out]; exact HB5.out)) hb6)
      have hff := first_fl v6 _ _ hfl6
      rw [HY.out] at hff
      clear hown hgrow hfl6 hb6
      go_wp2_with fail
      refine hff.mono ?_
      rintro e w7 ⟨rfl, hb7⟩
      have HB7 := Lib.hid hb7
      have hw7 : Below w.heap.size w w7 := bl_then hbw6.out hb7
      have HW7 := Lib.hid hw7
      obtain ⟨v7, d0, d1, d2, d3, hs7, hm7⟩ := (H.out.below hw7).cells
      have HM7 := Lib.hid hm7
      have e0 : EnAt w7 w.heap.size 0 x := (HKX.out.below (bl_then hbc6.out hb7))
      have eo : EnAt w7 q7 0 old := HQ7.out.below (bl_then hbq6.out hb7)
      have et : w7.cell? ⟨w.heap.size + 2, 0, none⟩ = some (.int .i64 till) := bl_cell (bl_then hbc6.out hb7) HKT.out
      have HE0 := Lib.hid e0
      have HEO := Lib.hid eo
      have HET := Lib.hid et
      obtain ⟨y0, y1, y2⟩ := e0
      have hs : w7.heap.size ≥ w.heap.size := hw7.size
      clear hff hb7 hw7 hs7 hm7 d0 d1 d3 eo et x0 x1 x2 o0 o1 o2 hn0 ht0
      by_cases hy0 : y = 0
      · subst hy0
        obtain ⟨hmay, hhas⟩ := HOK.out rfl
        obtain ⟨m1, m2, m3, m4, m5, m6⟩ := mayB_bd hmay
        have HHA := Lib.hid hhas
        clear hhas
        go_wp2_with fail
        go_still_tail 7, (by kernel_rfl)
        change wpList _ _ _ _ _ w7.drew
        refine wpList_store rfl _ _ _ rfl klaw1 Try.underlying62 HM7.out.drew x.i x.val rfl rfl rfl ?_
        intro w8 hm8 hg8 hz8
        have h8 : LedgerAt w8 p r share room (putE es x) gs := by
          obtain ⟨v', h1, h2, h3⟩ := H.out.below HW7.out
          obtain ⟨ees, cl, hh, _⟩ := h3
          refine ⟨v', ?_, h2.kept (cellsKept_map (w := w7.drew) hh hg8), by rw [← mput_en]; exact hm8⟩
          exact (hg8.block p (Array.getElem?_eq_some_iff.1 h1).1 (fun e => H.out.lt.2.2 (Option.some.inj e))).trans h1
        have hck : CellsKept w7.drew w8 := by
          obtain ⟨v', h1, h2, h3⟩ := H.out.below HW7.out
          obtain ⟨ees, cl, hh, _⟩ := h3
          exact cellsKept_map (w := w7.drew) hh hg8
        have hmv8 : Mov p r w w8 := ((Mov.ofBelow HW7.out).trans (Mov.ofBelow (bl_drew (Below.refl _ _)))).trans (Mov.ofGrown hg8)
        have z1 : w8.cell? ⟨q7, 1, none⟩ = some (.int .i64 old.r) := hck _ _ _ HEO.out.2.1
        have z2 : w8.cell? ⟨w.heap.size, 1, none⟩ = some (.int .i64 x.r) := hck _ _ _ HE0.out.2.1
        have z3 : w8.cell? ⟨w.heap.size + 2, 0, none⟩ = some (.int .i64 till) := hck _ _ _ HET.out
        have hF8 : Fine (putE es x) gs := putE_fine HF.out ⟨m3, m4, m5, m6⟩ (Or.inl (HHAS.out.trans HHA.out))
        have H8 := Lib.hid h8
        have HMV8 := Lib.hid hmv8
        have HF8 := Lib.hid hF8
        have hwr : IntKind.i64.wrap (old.r - x.r) = old.r - x.r := IntWalk.i64_in _ (by omega)
        clear hm8 hg8 h8 hck hmv8 hF8 y0 y1 y2 c2
        go_wp2_with fail
        refine (linger_led p r share room (putE es x) gs (old.r - x.r) till _ H8.out HF8.out).mono ?_
        rintro e w9 ⟨rfl, hl9, hv9⟩
        go_wp2_with fail
        go_ret
        exact ⟨rfl, by first | exact hl9 | (rw [if_pos rfl]; exact hl9), HMV8.out.trans hv9⟩
      · go_wp2_with fail
        go_ret
        exact ⟨rfl, by first | exact H.out.below HW7.out | (rw [if_neg hy0]; exact H.out.below HW7.out), Mov.ofBelow HW7.out⟩
end Go.Proofs.Ytfnijjjfodpnnaa
