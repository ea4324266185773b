/- Ledger: Fits. -/
import Derived.Test.YtfnijjjfodpnnaaLedE
import Derived.Deep.RegionHeld3
import Derived.Deep.RegionWith
import Derived.Deep.DeepCutAuto
import Derived.Deep.CutBlock
import Derived.WalkMore
namespace Go.Proofs.Ytfnijjjfodpnnaa
open Go.RowKit Go.Shelf

theorem bl_alloc' {B : Nat} {w W : World} (h : Below B w W) (hB : B ≤ w.heap.size) (o : Obj) : Below B w (W.alloc o) := h.alloc (Nat.le_trans hB h.size) o
def getE (es : List En) (i : Int) : Option En := es.find? fun e => decide (e.i = i)
def oldE (es : List En) (i : Int) : En := (getE es i).getD ⟨0, 0, 0⟩
def putE (es : List En) (x : En) : List En := if (getE es x.i).isSome then es.map (fun e => if e.i = x.i then x else e) else es ++ [x]
def delE (es : List En) (i : Int) : List En := es.filter fun e => e.i ≠ i
theorem mget_en (es : List En) (i : Int) : mget (enL es) i = (getE es i).map En.val := by
  unfold mget enL getE
  rw [List.find?_map]
  cases h : es.find? ((fun p : Int × Value => decide (p.1 = i)) ∘ fun e : En => (e.i, e.val)) with
  | none =>
    have h2 : (es.find? fun e => decide (e.i = i)) = none := h
    rw [h2]; rfl
  | some y =>
    have h2 : (es.find? fun e => decide (e.i = i)) = some y := h
    rw [h2]; rfl
theorem mput_en (es : List En) (x : En) : mput (enL es) x.i x.val = enL (putE es x) := by
  unfold mput putE
  rw [mget_en]
  cases h : getE es x.i with
  | none => simp [enL]
  | some y =>
    simp only [Option.map_some, Option.isSome_some, if_true, enL, List.map_map]
    apply List.map_congr_left
    intro e _
    simp only [Function.comp]
    split
    · rename_i h; rw [h]
    · rfl
theorem mdel_en (es : List En) (i : Int) : mdel (enL es) i = enL (delE es i) := by
  unfold mdel delE enL
  rw [List.filter_map]
  rfl
theorem zero_en (w : World) : (zeroValue 30).run Try.prog w = .ok (.agg #[.int .i64 0, .int .i64 0, .int .i64 0]) w := by kernel_rfl
theorem look_en {w : World} {r : Nat} {es : List En} (h : MapOf enc1 w r (enL es)) (i : Int) (c : Bool) :
    (Instr.lookup 62 (.map (some r)) (.int .i64 i) c).run Try.prog w = .ok (if c then .tuple #[.agg #[.int .i64 (oldE es i).i, .int .i64 (oldE es i).r, .int .i64 (oldE es i).m], .bool (getE es i).isSome] else .agg #[.int .i64 (oldE es i).i, .int .i64 (oldE es i).r, .int .i64 (oldE es i).m]) w := by
  have h1 := run_look klaw1 Try.underlying62 (zero_en w) h i c
  rw [mget_en] at h1
  unfold oldE
  cases hg : getE es i with
  | none => rw [hg] at h1; exact h1
  | some y => rw [hg] at h1; exact h1

theorem info_fl : (Try.prog.info? 79).map (fun i => (i.zero, i.size, i.bytes)) = some (some (.agg #[.nilFunc, .int .i64 0]), 2, 16) := by kernel_rfl
def fitsQs (share room : Int) (es : List En) (gs : List Ling) (x : En) (now : Int) : List (Int × Bool) := [(2, !mayB x [now]), (210, (getE es x.i).isSome), (270, decide (32 ≤ es.length))] ++ roomQs share room es gs x ⟨0, 0, 0⟩ now
theorem en_f1 : ∀ args w, (callFunc 36 args).run Try.prog w = .ok (.enter 36 args) w := enters_of Try.func36 (by kernel_rfl) rfl
theorem en_f2 : ∀ args w, (callFunc 38 args).run Try.prog w = .ok (.enter 38 args) w := enters_of Try.func38 (by kernel_rfl) rfl
theorem en_f3 : ∀ args w, (callFunc 39 args).run Try.prog w = .ok (.enter 39 args) w := enters_of Try.func39 (by kernel_rfl) rfl
set_option maxRecDepth 100000 in
set_option maxHeartbeats 400000 in
theorem fits_led (p r : Nat) (share room : Int) (es : List En) (gs : List Ling) (x : En) (now : Int) (w : World) (h : LedgerAt w p r share room es gs) (hF : Fine es gs) :
    Calls Try.prog 16 #[.pointer (some ⟨p, 0, none⟩), .agg #[.int .i64 x.i, .int .i64 x.r, .int .i64 x.m], .int .i64 now] w fun e w' => e = .returned (.int .i64 (firstQ (fitsQs share room es gs x now))) ∧ Below w.heap.size w w' := by
  obtain ⟨v, c0, c1, c2, c3, hs, hm⟩ := h.cells
  have hbz := bl_alloc (bl_alloc (bl_alloc (Below.refl w.heap.size w) (.cells #[.pointer (some ⟨p, 0, none⟩)] 25)) (.cells #[.int .i64 x.i, .int .i64 x.r, .int .i64 x.m] 30)) (.cells #[.int .i64 now] 2)
  have hlook : ∀ W, Below w.heap.size w W → _ := fun W hW => look_en (hm.below hW) x.i true
  have hpl := h.lt.1
  have H := Lib.hid h
  have HF := Lib.hid hF
  have HBZ := Lib.hid hbz
  unfold fitsQs
  generalize hold : oldE es x.i = old at hlook
  generalize hhas : (getE es x.i).isSome = has at hlook
  simp only [if_true] at hlook
  have HOLD := Lib.hid hold
  have HHAS := Lib.hid hhas
  have HS : Hid (∀ W, Below (w.heap.size + 3) (((w.alloc (.cells #[.pointer (some ⟨p, 0, none⟩)] 25)).alloc (.cells #[.int .i64 x.i, .int .i64 x.r, .int .i64 x.m] 30)).alloc (.cells #[.int .i64 now] 2)) W → (fun w' => w'.cell? ⟨w.heap.size, 0, none⟩ = some (.pointer (some ⟨p, 0, none⟩)) ∧ w'.cell? ⟨p, 2, none⟩ = some (.map (some r)) ∧ w'.cell? ⟨w.heap.size + 1, 0, none⟩ = some (.int .i64 x.i) ∧ (Instr.lookup 62 (.map (some r)) (.int .i64 x.i) true).run Try.prog w' = .ok (.tuple #[.agg #[.int .i64 old.i, .int .i64 old.r, .int .i64 old.m], .bool has]) w') W) := Lib.hid fun W hW => by
    have hW' : Below ((((w.alloc (.cells #[.pointer (some ⟨p, 0, none⟩)] 25)).alloc (.cells #[.int .i64 x.i, .int .i64 x.r, .int .i64 x.m] 30)).alloc (.cells #[.int .i64 now] 2))).heap.size (((w.alloc (.cells #[.pointer (some ⟨p, 0, none⟩)] 25)).alloc (.cells #[.int .i64 x.i, .int .i64 x.r, .int .i64 x.m] 30)).alloc (.cells #[.int .i64 now] 2)) W := hW.mono (by simp)
    exact ⟨bl_cell hW' (by go_simp), (bl_cell hW' (bl_cell hbz c2)), bl_cell hW' (by go_simp), hlook _ (bl_then hbz hW')⟩
  have HC2 := Lib.hid (bl_cell hbz c2)
  have HK0 : Hid ((((w.alloc (.cells #[.pointer (some ⟨p, 0, none⟩)] 25)).alloc (.cells #[.int .i64 x.i, .int .i64 x.r, .int .i64 x.m] 30)).alloc (.cells #[.int .i64 now] 2)).cell? ⟨w.heap.size, 0, none⟩ = some (.pointer (some ⟨p, 0, none⟩))) := Lib.hid (by go_simp)
  have HKX : Hid (EnAt (((w.alloc (.cells #[.pointer (some ⟨p, 0, none⟩)] 25)).alloc (.cells #[.int .i64 x.i, .int .i64 x.r, .int .i64 x.m] 30)).alloc (.cells #[.int .i64 now] 2)) (w.heap.size + 1) 0 x) := Lib.hid ⟨by go_simp, by go_simp, by go_simp⟩
  have HKN : Hid ((((w.alloc (.cells #[.pointer (some ⟨p, 0, none⟩)] 25)).alloc (.cells #[.int .i64 x.i, .int .i64 x.r, .int .i64 x.m] 30)).alloc (.cells #[.int .i64 now] 2)).cell? ⟨w.heap.size + 2, 0, none⟩ = some (.int .i64 now)) := Lib.hid (by go_simp)
  clear h hF hs hm hbz c0 c1 c3 hold hhas hlook
  go_enter Try.func16, Try.ntmps16
  go_wp2_with (go_at_call 32; refine (none_no p r _ HC2.out).mono ?_; rintro e w' ⟨rfl, rfl⟩)
  go_cut [7, 8] (fun s7 s8 wx => ∃ q7 q8, s7 = .pointer (some ⟨q7, 0, none⟩) ∧ s8 = .pointer (some ⟨q8, 0, none⟩) ∧ Aside (EnAt wx q7 0 old) ∧ Aside (wx.cell? ⟨q8, 0, none⟩ = some (.bool has)) ∧ Aside (Below (((w.alloc (.cells #[.pointer (some ⟨p, 0, none⟩)] 25)).alloc (.cells #[.int .i64 x.i, .int .i64 x.r, .int .i64 x.m] 30)).alloc (.cells #[.int .i64 now] 2)).heap.size (((w.alloc (.cells #[.pointer (some ⟨p, 0, none⟩)] 25)).alloc (.cells #[.int .i64 x.i, .int .i64 x.r, .int .i64 x.m] 30)).alloc (.cells #[.int .i64 now] 2)) wx))
  case first =>
    go_region_held3 (fun w' => w'.cell? ⟨w.heap.size, 0, none⟩ = some (.pointer (some ⟨p, 0, none⟩)) ∧ w'.cell? ⟨p, 2, none⟩ = some (.map (some r)) ∧ w'.cell? ⟨w.heap.size + 1, 0, none⟩ = some (.int .i64 x.i) ∧ (Instr.lookup 62 (.map (some r)) (.int .i64 x.i) true).run Try.prog w' = .ok (.tuple #[.agg #[.int .i64 old.i, .int .i64 old.r, .int .i64 old.m], .bool has]) w')
      (first
        | exact HS.out _ (by repeat (first | exact Below.refl _ _ | refine bl_alloc' ?_ (by simp <;> omega) _ | refine bl_set ?_ (by simp <;> omega) _ | refine bl_drewN ?_ _ | refine bl_drew ?_)))
      (fail)

    all_goals (go_wp2_with fail; go_meet)
    all_goals case rel =>
      refine ⟨_, _, rfl, rfl, ⟨by go_simp, by go_simp, by go_simp⟩, (show World.cell? _ _ = some (Value.bool has) by go_simp), ?_⟩
      repeat (first | exact Below.refl _ _ | refine bl_alloc' ?_ (by simp <;> omega) _ | refine bl_set ?_ (by simp <;> omega) _ | refine bl_drewN ?_ _ | refine bl_drew ?_)
  case rest =>
    obtain ⟨q7, q8, rfl, rfl, HQ7, HQ8, HBC⟩ := hcut
    obtain ⟨i0, hi, hz0, hz1, hz2⟩ := info_parts info_fl
    obtain ⟨fl3, hfl3⟩ : ∃ l : List Fl, l = [⟨36, #[.pointer (some ⟨w.heap.size + 1, 0, none⟩), .pointer (some ⟨w.heap.size + 2, 0, none⟩)], 2, !mayB x [now]⟩, ⟨38, #[.pointer (some ⟨q8, 0, none⟩)], 210, has⟩, ⟨39, #[.pointer (some ⟨w.heap.size, 0, none⟩)], 270, decide (32 ≤ es.length)⟩] := ⟨_, rfl⟩
    obtain ⟨o0, o1, o2⟩ := HQ7.out
    obtain ⟨x0, x1, x2⟩ := HKX.out.below HBC.out
    have hn0 := bl_cell HBC.out HKN.out
    have hp0 := bl_cell HBC.out HK0.out
    have hp1 : q7 < wc.heap.size := World.block_lt_of_cell? wc ⟨q7, 0, none⟩ o0
    have hp2 : w.heap.size + 2 < wc.heap.size := World.block_lt_of_cell? wc ⟨w.heap.size + 2, 0, none⟩ hn0
    have hp3 : w.heap.size < wc.heap.size := by omega
    have hp4 : w.heap.size + 1 < wc.heap.size := by omega
    have HFL := Lib.hid hfl3
    have hb4 := bl_alloc (Below.refl wc.heap.size wc) (.cells (fl3.flatMap Fl.cells).toArray 79)
    have hwb : Below w.heap.size w wc := (bl_alloc (bl_alloc (bl_alloc (Below.refl _ _) _) _) _).trans (HBC.out.mono (by simp <;> omega))
    have hfit := fits_any p r share room es gs x ⟨0, 0, 0⟩ now _ (H.out.below (bl_then hwb hb4)) HF.out
    have HWB := Lib.hid hwb
    have HB4 := Lib.hid hb4
    rw [hfl3] at hfit
    simp only [List.flatMap_cons, List.flatMap_nil, Fl.cells, List.cons_append, List.nil_append] at hfit
    clear hwb hb4 hfl3
    go_wp2_with fail
    refine hfit.mono ?_
    rintro e w5 ⟨v5, rfl, hfl5, hb5⟩
    have HB5 := Lib.hid hb5
    have HFL5 := Lib.hid hfl5
    obtain ⟨fl2, hs2, hok2, hq2⟩ := hfl5
    have hl2 : fl2.length = 2 := by have := congrArg List.length hq2; simpa [roomQs] using this
    have hfok : Hid (∀ W, Below w5.heap.size w5 W → ∀ f ∈ fl3, FlOk W f) := Lib.hid fun W hW f hf => by
      have hb6 := bl_then (bl_then HB4.out (by rw [HFL.out]; exact HB5.out)) hW
      rw [HFL.out] at hf
      simp only [List.mem_cons, List.not_mem_nil, or_false] at hf
      have hbZ := bl_then HBC.out hb6
      rcases hf with rfl | rfl | rfl
      · exact ⟨en_f1, fun W' hW' => fits1_any x now _ _ W' (HKX.out.below (bl_then hbZ hW')) (bl_cell (bl_then hbZ hW') HKN.out)⟩
      · exact ⟨en_f2, fun W' hW' => (fits2_any has _ W' (bl_cell (bl_then hb6 hW') HQ8.out)).mono fun e w' ⟨he, hw⟩ => ⟨he, hw ▸ Below.refl _ _⟩⟩
      · exact ⟨en_f3, fun W' hW' => (fits3_any p r _ share room es gs W' (H.out.below (bl_then (bl_then HWB.out hb6) hW')) (bl_cell (bl_then hbZ hW') HK0.out) HF.out.el).mono fun e w' ⟨he, hw⟩ => ⟨he, hw ▸ Below.refl _ _⟩⟩
    rcases hs2 with ⟨_, h0⟩ | ⟨b2, o2', cc2, rfl, _, _, hrow2⟩
    · subst h0; simp at hl2
    · have HR2 := Lib.hid hrow2
      have HQ2 := Lib.hid hq2
      have HOK2 := Lib.hid hok2
      have hr3 : RowAt Fl.cells 2 w5 wc.heap.size 0 fl3 := (rowAt_new (enc := Fl.cells) (k := 2) (fun _ => rfl) wc 79 fl3 rfl rfl).below (by rw [HFL.out]; exact HB5.out)
      have HR3 := Lib.hid hr3
      have hl3 : fl3.length = 3 := by rw [HFL.out]; rfl
      clear hfit hb5 hrow2 hq2 hok2 hr3
      go_wp2_with (at_builtin; go_loud (refine wpList_append_grows _ rfl _ _ 76 rfl 79 i0 _ 2 16 Try.underlying76 hi hz0 hz1 hz2 rfl (by decide) (some ⟨wc.heap.size, 0, none⟩) 3 3 (fl3.flatMap Fl.cells) rfl (fun h => by cases h) ?qa1 ?qa2 ⟨b2, o2', none⟩ fl2.length cc2 (fl2.flatMap Fl.cells) ?qb0 ?qb1 ?qb2 ?qb3 ?qc1 ?qc2 ?qc3 ?_))
      case qa1 => rw [flat_length (k := 2) (fun _ => rfl), hl3]
      case qa2 => exact fun b hb j u hj => by cases hb; rw [Addr.add_lit]; exact RowAt.flat (enc := Fl.cells) (k := 2) (fun _ => rfl) HR3.out j u hj
      case qb0 => first | rfl | go_simp
      case qb1 => exact flat_length (k := 2) (fun _ => rfl) fl2
      case qb2 => exact fun j u hj => by rw [Addr.add_lit]; exact RowAt.flat (enc := Fl.cells) (k := 2) (fun _ => rfl) HR2.out j u hj
      case qb3 =>
        intro u hu
        obtain ⟨f, _, hf⟩ := List.mem_flatMap.1 hu
        simp [Fl.cells] at hf
        rcases hf with rfl | rfl <;> rfl
      case qc1 => omega
      case qc2 => unfold maxLen; omega
      case qc3 => omega
      intro v6 w6 hown hgrow
      have hb6 : Below w5.heap.size w5 w6 := ⟨hgrow.os, hgrow.tape, hgrow.output, hgrow.size, fun k hk => hgrow.block k hk (by simp)⟩
      have hfl6 : Flaws w6 v6 ([(2, !mayB x [now]), (210, has), (270, decide (32 ≤ es.length))] ++ roomQs share room es gs x ⟨0, 0, 0⟩ now) := by
        refine ⟨fl3 ++ fl2, SAt.ofOwn (fun _ => rfl) (n := 5) (by rw [List.length_append, hl3, hl2]) (by rw [List.flatMap_append]; exact hown), fun f hf => ?_, by rw [List.map_append, HQ2.out, HFL.out]; rfl⟩
        rcases List.mem_append.1 hf with hf | hf
        · exact hfok.out _ hb6 f hf
        · exact (HOK2.out f hf).below hb6
      have HFL6 := Lib.hid hfl6
      have HB6 := Lib.hid hb6
      clear hown hgrow hfl6 hb6
      go_wp2_with fail
      refine (first_fl v6 _ _ HFL6.out).mono ?_
      rintro e w7 ⟨rfl, hb7⟩
      go_wp2_with fail
      go_ret
      exact ⟨rfl, bl_then (bl_then (bl_then (bl_then HWB.out HB4.out) (by rw [HFL.out]; exact HB5.out)) HB6.out) hb7⟩
end Go.Proofs.Ytfnijjjfodpnnaa
