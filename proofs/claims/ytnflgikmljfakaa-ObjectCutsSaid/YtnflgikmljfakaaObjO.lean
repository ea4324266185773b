/- Object: AsSession, what is known. -/
import Derived.Test.YtnflgikmljfakaaObjN
import Derived.Laws.BytesArg
namespace Go.Proofs.Ytnflgikmljfakaa
open Go.RowKit Go.Shelf
set_option linter.unusedVariables false
set_option linter.unusedSimpArgs false
attribute [local go_sem] Oper.semAt_some
set_option maxRecDepth 100000 in
set_option maxHeartbeats 1000000 in
theorem asSession_yes (A : Option Addr) (c : Nat) (x y : Int) (hx : wiB x 0 15 = true) (hy : wiB y 1 65535 = true) (w : World) (h : WsAt w (.slice A 2 c) [x, 285212672 + y]) :
    Calls Try.prog 16 #[.agg #[.int .i64 1, .int .i64 1, .slice A 2 c]] w fun e w' => e = .returned (.tuple #[.agg #[.int .i64 x, .int .i64 y], .int .i64 0]) ∧ Below w.heap.size w w' := by
  have HAB := Lib.hid (And.intro hx hy)
  have HWS := Lib.hid h
  clear hx hy h
  go_enter Try.func16, Try.ntmps16
  go_upto_region 1 with fail
  obtain ⟨W0, hW0, hbs, hfz, hB0, hz0⟩ := two_new w #[.int .i64 1, .int .i64 1, .slice A 2 c] #[.int .i64 0, .int .i64 0] 32 45
  rw [hW0]
  clear hW0
  obtain ⟨⟨d0, d1, d2⟩, -⟩ := cells3 hbs
  have HS0 := Lib.hid (show ∀ X, Below W0.heap.size W0 X → (fun W' : World => W'.cell? ⟨w.heap.size, 0, none⟩ = some (.int .i64 1) ∧ W'.cell? ⟨w.heap.size, 1, none⟩ = some (.int .i64 1) ∧ W'.cell? ⟨w.heap.size, 2, none⟩ = some (.slice A 2 c)) X from fun X hX => ⟨bl_cell hX d0, bl_cell hX d1, bl_cell hX d2⟩)
  have HFZ := Lib.hid hfz
  have HB0 := Lib.hid hB0
  have HZ0 := Lib.hid hz0
  clear hbs hfz hB0 hz0 d0 d1 d2
  refine wp_region_till 5 (S := (fun W' : World => W'.cell? ⟨w.heap.size, 0, none⟩ = some (.int .i64 1) ∧ W'.cell? ⟨w.heap.size, 1, none⟩ = some (.int .i64 1) ∧ W'.cell? ⟨w.heap.size, 2, none⟩ = some (.slice A 2 c))) (by kernel_rfl) (HS0.out _ (bl_drew (Below.refl _ _))) (fun hHeld => ?_)
  refine till_yes (i := 1) (v := ?_) rfl (by kernel_rfl) (by kernel_rfl) (by kernel_rfl) (by kernel_rfl) (by kernel_rfl) (fun _ _ _ h => h) (by kernel_rfl) (by assumption) ?_ ?_
  rotate_left 1
  · (intro w hSw; (try dsimp only at hSw); go_simp; try with_reducible rfl)
  try simp only [Act.put, List.setIfInBounds_toArray, List.set_cons_zero, List.set_cons_succ]

  refine till_one (i := 0) rfl (by kernel_rfl) (fun K' hK => ?_)
  go_simp
  refine (sessions_any _).mono ?_
  rintro e w1 ⟨rfl, hb1⟩
  go_simp
  have hb1' : Below W0.heap.size W0 w1 := bl_then (bl_drew (Below.refl _ _)) hb1
  refine hK.out _ _ (HS0.out _ hb1') (fun hHeld2 => ?_)
  clear hK K' hHeld hb1
  try simp only [Act.put, List.setIfInBounds_toArray, List.set_cons_zero, List.set_cons_succ]
  refine till_one (i := 2) rfl (by kernel_rfl) (fun K' hK => ?_)
  go_simp
  refine (asS_yes A c x y HAB.out.1 HAB.out.2 _ (ws_below HWS.out (HB0.out.trans (hb1'.mono (by have := HZ0.out; omega))))).mono ?_
  rintro e w4 ⟨rfl, hb4⟩
  go_simp
  have hb4' : Below W0.heap.size W0 w4 := bl_then hb1' hb4
  refine hK.out _ _ (HS0.out _ hb4') (fun hHeld3 => ?_)
  clear hK K' hHeld2
  try simp only [Act.put, List.setIfInBounds_toArray, List.set_cons_zero, List.set_cons_succ]
  refine till_yes (i := 3) (v := ?_) rfl (by kernel_rfl) (by kernel_rfl) (by kernel_rfl) (by kernel_rfl) (by kernel_rfl) (fun _ _ _ h => h) (by kernel_rfl) (by assumption) ?_ ?_
  rotate_left 1
  · (intro w hSw; (try dsimp only at hSw); go_simp; try with_reducible rfl)
  try simp only [Act.put, List.setIfInBounds_toArray, List.set_cons_zero, List.set_cons_succ]

  refine till_yes (i := 4) (v := ?_) rfl (by kernel_rfl) (by kernel_rfl) (by kernel_rfl) (by kernel_rfl) (by kernel_rfl) (fun _ _ _ h => h) (by kernel_rfl) (by assumption) ?_ ?_
  rotate_left 1
  · (intro w hSw; (try dsimp only at hSw); go_simp; try with_reducible rfl)
  try simp only [Act.put, List.setIfInBounds_toArray, List.set_cons_zero, List.set_cons_succ]

  have hz0 := HZ0.out
  have hz1 := hb1'.size
  have hf4 := (hb4'.block (w.heap.size + 1) (by omega)).trans HFZ.out
  obtain ⟨⟨y0, y1⟩, z0, z1⟩ := cells2 hf4
  refine till_late (i := 5) rfl (by decide) (by kernel_rfl) (fun K' hK => ?_)
  go_simp
  refine hK.out _ _ ?_
  clear hK K'
  try simp only [Act.put, List.setIfInBounds_toArray, List.set_cons_zero, List.set_cons_succ]
  refine till_late (i := 6) rfl (by decide) (by kernel_rfl) (fun K' hK => ?_)
  go_simp
  refine hK.out _ _ ?_
  clear hK K'
  refine till_done (by kernel_rfl) ?_ _
  rename_i Q' K hKK
  obtain ⟨w5, hw5, ⟨s0, s1⟩, ho, hb5, -⟩ := twow (.int .i64 x) (.int .i64 y) (show w.heap.size ≤ w.heap.size + 1 by omega) hf4
  rw [hw5]
  refine hKK _ _ ?_
  clear hKK K
  go_wp2
  exact bodyPost_ret (v := .tuple #[.agg #[.int .i64 x, .int .i64 y], .int .i64 0]) (by simp [results, Try.results16, go_sem, s0, s1]) rfl ⟨rfl, ((HB0.out.trans (hb4'.mono (by omega))).trans hb5)⟩
theorem obs_one (w : World) (q : Ob) {b : Nat} (hb : b = w.heap.size) (h : WsAt w q.v q.ws) : ObsAt (w.alloc (.cells #[.int .i64 q.c, .int .i64 q.t, q.v] 32)) (.slice (some ⟨b, 0, none⟩) 1 1) [q] := by
  subst hb
  refine ⟨Or.inr ⟨_, 0, 1, rfl, Nat.le_refl _, by simp [maxLen], rowAt_new (enc := Ob.cells) (k := 3) (fun _ => rfl) w 32 [q] rfl rfl⟩, fun x hx => ?_⟩
  simp only [List.mem_singleton] at hx
  subst hx
  exact ws_below h (bl_alloc (Below.refl _ _) _)
/-- Bytes as a string. -/
theorem conv_sat {w : World} {v : Value} {xs : List Int} (h : SAt yC 1 w v xs) : (convert 25 9 v).run Try.prog w = .ok (.string (strOfNums xs)) w := by
  rcases h with ⟨rfl, rfl⟩ | ⟨b, o, c, rfl, _, _, hrow⟩
  · exact run_convert_bytes_nil w 25 5 Try.underlying25 Try.underlying5 0 0 9 Try.underlying9
  · refine run_convert_bytes_arg w 25 5 Try.underlying25 Try.underlying5 b o xs.length c xs rfl (fun i hi => ?_) 9 Try.underlying9
    have := hrow i xs[i] (List.getElem?_eq_getElem hi) 0 _ rfl
    rw [Nat.mul_one, Nat.add_zero] at this
    rw [this, List.getD_eq_getElem?_getD, List.getElem?_eq_getElem hi]
    rfl
set_option maxRecDepth 100000 in
set_option maxHeartbeats 2000000 in
theorem known_any (w : World) : Calls Try.prog 7 #[] w fun e w' => e = .returned (.bool true) ∧ Below w.heap.size w w' := by
  go_enter Try.func7, Try.ntmps7
  go_upto_region 1 with fail
  go_upto_region 2 with (go_at_call 14; refine (period_any 30 (by decide) _).mono ?_; rintro e w1 ⟨p1, rfl, hs1, hb1⟩)
  obtain ⟨wa, hwa⟩ : ∃ wa, (w1.alloc (.cells #[.int .i64 5, .int .i64 1, .slice (some ⟨p1, 0, none⟩) 1 1] 32)) = wa := ⟨_, rfl⟩
  have hca : wa.heap[w1.heap.size]? = some (.cells #[.int .i64 5, .int .i64 1, .slice (some ⟨p1, 0, none⟩) 1 1] 32 (0, 0)) := by rw [← hwa]; exact new_block _ _
  have hba : Below w1.heap.size w1 wa := by rw [← hwa]; exact bl_alloc (Below.refl _ _) _
  rw [hwa]
  clear hwa
  obtain ⟨⟨a0, a1, a2⟩, -⟩ := cells3 hca
  have HOB := Lib.hid (obs_one wa ⟨.slice (some ⟨p1, 0, none⟩) 1 1, 5, 1, [30]⟩ rfl (ws_below (Or.inl hs1) hba))
  have HRAW := Lib.hid (raw_yes _ _ _ HOB.out (fun q hq => by simp only [List.mem_singleton] at hq; subst hq; rfl) (Nat.le_of_ble_eq_true rfl))
  have HBA := Lib.hid (hb1.trans (hba.mono hb1.size))
  clear hs1 hb1 hba hca
  go_upto_region 3 with (go_at_call 8; refine HRAW.out.mono ?_; rintro e w2 ⟨u, rfl, ho2, hb2⟩)
  have hr : rawL [⟨.slice (some ⟨p1, 0, none⟩) 1 1, 5, 1, [30]⟩] = [0, 8, 5, 1, 0, 0, 0, 30] := by simp [rawL, rawO, numB]
  rw [hr] at ho2
  have hs2 : SAt yC 1 w2 u [0, 8, 5, 1, 0, 0, 0, 30] := SAt.ofOwn (enc := yC) (k := 1) (fun _ => rfl) rfl ho2
  clear hr
  obtain ⟨A2, c2, rfl⟩ := hs2.slice
  have HS2 := Lib.hid hs2
  have HB2 := Lib.hid (HBA.out.trans ((bl_then (bl_alloc (Below.refl wa.heap.size wa) _) hb2).mono HBA.out.size))
  clear hs2 hb2 ho2 a0 a1 a2 HOB HRAW HBA
  go_upto_region 4 with (go_at_call 15; refine (session_any 2 5 (by decide) (by decide) _).mono ?_; rintro e w3 ⟨p3, rfl, hs3, hb3, hp3⟩)
  obtain ⟨wb, hwb⟩ : ∃ wb, (w3.alloc (.cells #[.int .i64 1, .int .i64 1, .slice (some ⟨p3, 0, none⟩) 2 2] 32)) = wb := ⟨_, rfl⟩
  have hcb : wb.heap[w3.heap.size]? = some (.cells #[.int .i64 1, .int .i64 1, .slice (some ⟨p3, 0, none⟩) 2 2] 32 (0, 0)) := by rw [← hwb]; exact new_block _ _
  have hbb : Below w3.heap.size w3 wb := by rw [← hwb]; exact bl_alloc (Below.refl _ _) _
  rw [hwb]
  clear hwb
  obtain ⟨⟨a0, a1, a2⟩, -⟩ := cells3 hcb
  have HCB := Lib.hid hcb
  have HW3 := Lib.hid (ws_below (Or.inl hs3) hbb)
  have HBB := Lib.hid (bl_then hb3 hbb)
  clear hs3 hb3 hbb hcb
  go_upto_region 5 with (go_at_call 16; refine (asSession_yes (some ⟨p3, 0, none⟩) 2 2 5 (by decide) (by decide) _ HW3.out).mono ?_; rintro e w4 ⟨rfl, hb4⟩)
  obtain ⟨wc, hwc⟩ : ∃ wc, (w4.alloc (.cells #[.int .i64 2, .int .i64 5] 45)) = wc := ⟨_, rfl⟩
  have hcc : wc.heap[w4.heap.size]? = some (.cells #[.int .i64 2, .int .i64 5] 45 (0, 0)) := by rw [← hwc]; exact new_block _ _
  have hbc : Below wb.heap.size wb wc := by rw [← hwc]; exact bl_alloc hb4 _
  rw [hwc]
  clear hwc
  obtain ⟨⟨y0, y1⟩, -⟩ := cells2 hcc
  obtain ⟨⟨x0, x1, x2⟩, -⟩ := cells3 ((hbc.block w3.heap.size (by have := (Array.getElem?_eq_some_iff.1 HCB.out).1; omega)).trans HCB.out)
  obtain ⟨b9, o9, c9, hv9, hg9⟩ := ws_get (ws_below HW3.out hbc) (j := 1) rfl
  simp only [Value.slice.injEq, Option.some.injEq, Addr.mk.injEq] at hv9
  obtain ⟨⟨rfl, rfl, -⟩, -, -⟩ := hv9
  have hcv : (convert 25 9 (.slice A2 8 c2)).run Try.prog wc = .ok (.string { data := #[0, 8, 5, 1, 0, 0, 0, 30] }) wc := conv_sat (HS2.out.below (bl_then HBB.out hbc))
  have HB9 : Hid (Below w.heap.size w wc) := Lib.hid (HB2.out.trans ((bl_then HBB.out hbc).mono HB2.out.size))
  clear hcc hbc hb4 a0 a1 a2
  rw [Nat.zero_add] at hg9
  go_wp2
  go_ret
  exact ⟨rfl, HB9.out⟩
end Go.Proofs.Ytnflgikmljfakaa
