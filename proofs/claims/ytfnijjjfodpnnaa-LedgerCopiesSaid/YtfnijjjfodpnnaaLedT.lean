/- Ledger: Copy, Same. -/
import Derived.Test.YtfnijjjfodpnnaaLedS
import Derived.Test.YtfnijjjfodpnnaaTake
import Derived.Deep.RegionHeld3
import Derived.Deep.RegionLaw
import Derived.StillTailTactics
namespace Go.Proofs.Ytfnijjjfodpnnaa
open Go.RowKit Go.Shelf

/-- A ledger all of whose memory lies at or above B. -/
def FarAt (B : Nat) (w : World) (p r : Nat) (share room : Int) (es : List En) (gs : List Ling) : Prop :=
  ∃ v, w.heap[p]? = some (.cells #[.int .i64 share, .int .i64 room, .map (some r), v] 65 (0, 0)) ∧ SAt Ling.cells 2 w v gs ∧ MapOf enc1 w r (enL es) ∧ B ≤ p ∧ B ≤ r ∧ ∀ b o n c, v = .slice (some ⟨b, o, none⟩) n c → B ≤ b
theorem FarAt.led {B : Nat} {w : World} {p r : Nat} {share room : Int} {es : List En} {gs : List Ling} (h : FarAt B w p r share room es gs) : LedgerAt w p r share room es gs := by
  obtain ⟨v, h1, h2, h3, -⟩ := h
  exact ⟨v, h1, h2, h3⟩
theorem FarAt.below {B : Nat} {w W : World} {p r : Nat} {share room : Int} {es : List En} {gs : List Ling} (h : FarAt B w p r share room es gs) (hb : Below w.heap.size w W) : FarAt B W p r share room es gs := by
  obtain ⟨v, h1, h2, h3, h4⟩ := h
  exact ⟨v, (hb.block p (Array.getElem?_eq_some_iff.1 h1).1).trans h1, h2.below hb, h3.below hb, h4⟩
theorem FarAt.mov {B : Nat} {w W : World} {p r p2 r2 : Nat} {share room : Int} {es : List En} {gs : List Ling} (h : FarAt B w p r share room es gs) (hm : Mov p2 r2 w W) (hp : p2 < B) (hr : r2 < B) : FarAt B W p r share room es gs := by
  obtain ⟨v, h1, h2, h3, h4, h5, h6⟩ := h
  refine ⟨v, (hm.block p (Array.getElem?_eq_some_iff.1 h1).1 (by omega) (by omega)).trans h1, ?_, h3.step (hm.block r h3.lt (by omega) (by omega)), h4, h5, h6⟩
  rcases h2 with h2 | ⟨b, o, c, g1, g2, g3, g4⟩
  · exact Or.inl h2
  · have := h6 _ _ _ _ g1
    exact Or.inr ⟨b, o, c, g1, g2, g3, fun j x hj i u hi => hm.cell (g4 j x hj i u hi) (by omega) (by omega)⟩
def CopyOf (w w' : World) (share room : Int) (es : List En) (gs : List Ling) (e : Ending) : Prop :=
  ∃ p' r', e = .returned (.pointer (some ⟨p', 0, none⟩)) ∧ FarAt w.heap.size w' p' r' share room es gs ∧ Below w.heap.size w w'
set_option maxRecDepth 100000 in
set_option maxHeartbeats 1000000 in
theorem copy_led (p r : Nat) (share room : Int) (es : List En) (gs : List Ling) (w : World) (h : LedgerAt w p r share room es gs) (hgl : gs.length ≤ 1000000) :
    Calls Try.prog 17 #[.pointer (some ⟨p, 0, none⟩)] w fun e w' => CopyOf w w' share room es gs e := by
  obtain ⟨v, c0, c1, c2, c3, hs, hm⟩ := h.cells
  have hps : p < w.heap.size := h.lt.1
  obtain ⟨A, c, rfl⟩ := hs.slice
  have HS := Lib.hid hs
  have HM := Lib.hid hm
  have HC2 := Lib.hid c2
  have HX : Hid (∀ W, Below w.heap.size w W → (fun w' => w'.cell? ⟨p, 0, none⟩ = some (.int .i64 share) ∧ w'.cell? ⟨p, 1, none⟩ = some (.int .i64 room) ∧ w'.cell? ⟨p, 2, none⟩ = some (.map (some r)) ∧ w'.cell? ⟨p, 3, none⟩ = some (.slice A gs.length c)) W) := Lib.hid fun W hW => ⟨bl_cell hW c0, bl_cell hW c1, bl_cell hW c2, bl_cell hW c3⟩
  clear h hs hm
  go_enter Try.func17, Try.ntmps17
  go_upto_region 3 with (go_at_call 32; refine (none_no p r _ HC2.out).mono ?_; rintro e w' ⟨rfl, rfl⟩)
  go_region_held3 (fun w' => w'.cell? ⟨p, 0, none⟩ = some (.int .i64 share) ∧ w'.cell? ⟨p, 1, none⟩ = some (.int .i64 room) ∧ w'.cell? ⟨p, 2, none⟩ = some (.map (some r)) ∧ w'.cell? ⟨p, 3, none⟩ = some (.slice A gs.length c))
    (first
      | exact HX.out _ (by repeat (first | exact Below.refl _ _ | refine bl_drew ?_ | refine bl_drewN ?_ _ | refine bl_alloc ?_ _ | (refine bl_then ?_ hb; clear hb) | (refine bl_then ?_ hb'; clear hb'))))
    (first
      | (go_at_call 41; refine (cloneMap_any r es _ (HM.out.below (by repeat (first | exact Below.refl _ _ | refine bl_drew ?_ | refine bl_drewN ?_ _ | (refine bl_then ?_ hb; clear hb) | (refine bl_then ?_ hb'; clear hb'))))).mono ?_; rintro e w' ⟨rfl, hm, hb⟩)
      | (go_at_call 42; refine (clone_li _ gs _ (HS.out.below (by repeat (first | exact Below.refl _ _ | refine bl_drew ?_ | refine bl_drewN ?_ _ | (refine bl_then ?_ hb; clear hb) | (refine bl_then ?_ hb'; clear hb')))) (by omega)).mono ?_; rintro e w' ⟨v', rfl, hs, ho, -, hb'⟩; obtain ⟨A', c', rfl⟩ := hs.slice; have HO := Lib.hid ho; clear ho))
  all_goals
    go_wp2_with fail
    go_ret
    have z1 := hb.size
    have z2 := hb'.size
    refine ⟨_, _, rfl, ⟨_, at_alloc rfl, hs.below ?_, hm.below ?_, ?_, ?_, fun b o n c hv => ?qf⟩, ?_⟩
    case qf =>
      have hx := (HO.out.lt b (by injection hv with hv; rw [hv]; rfl)).1
      have z0 : w.drew.heap.size = w.heap.size := rfl
      first | omega | (simp at z1 z2 hx ⊢; omega)
    all_goals repeat (first | exact Below.refl _ _ | refine bl_alloc ?_ _ | refine bl_drew ?_ | refine bl_drewN ?_ _ | (refine bl_then ?_ hb'; clear hb') | (refine bl_then ?_ hb; clear hb))
    all_goals (have z0 : w.drew.heap.size = w.heap.size := rfl)
    all_goals first | omega | (simp; omega) | (simp at z1 z2 ⊢; omega)
theorem run_eql_bd (a b : Int) (w : World) : (binOp .eql 61 (.agg #[.int .i64 a, .int .i64 b]) (.agg #[.int .i64 a, .int .i64 b])).run Try.prog w = .ok (.bool true) w := by
  simp [go_sem]
set_option linter.unusedSimpArgs false in
set_option maxRecDepth 100000 in
set_option maxHeartbeats 2000000 in
theorem same_no (p r p2 r2 : Nat) (share room : Int) (es e2 : List En) (gs g2 : List Ling) (w : World) (h : LedgerAt w p r share room es gs) (h2 : LedgerAt w p2 r2 share room e2 g2) (hq : eqE es e2 = false) :
    Calls Try.prog 18 #[.pointer (some ⟨p, 0, none⟩), .pointer (some ⟨p2, 0, none⟩)] w fun e w' => e = .returned (.bool false) ∧ Below w.heap.size w w' := by
  obtain ⟨v, c0, c1, c2, c3, hs, hm⟩ := h.cells
  obtain ⟨v', d0, d1, d2, d3, hs', hm'⟩ := h2.cells
  have HM := Lib.hid hm
  have HM2 := Lib.hid hm'
  have HC2 := Lib.hid c2
  have HD2 := Lib.hid d2
  have HQ := Lib.hid hq
  have hbe := fun w => run_eql_bd share room w
  have HX : Hid (∀ W, Below w.heap.size w W → (fun w' => w'.cell? ⟨p, 0, none⟩ = some (.int .i64 share) ∧ w'.cell? ⟨p, 1, none⟩ = some (.int .i64 room) ∧ w'.cell? ⟨p, 2, none⟩ = some (.map (some r)) ∧ w'.cell? ⟨p2, 0, none⟩ = some (.int .i64 share) ∧ w'.cell? ⟨p2, 1, none⟩ = some (.int .i64 room) ∧ w'.cell? ⟨p2, 2, none⟩ = some (.map (some r2))) W) := Lib.hid fun W hW => ⟨bl_cell hW c0, bl_cell hW c1, bl_cell hW c2, bl_cell hW d0, bl_cell hW d1, bl_cell hW d2⟩
  clear h h2 hs hm hs' hm' c3 d3 hq
  go_enter Try.func18, Try.ntmps18
  go_upto_region 3 with (go_at_call 32; first | ((with_reducible refine (none_no p r _ HC2.out).mono ?_); rintro e w' ⟨rfl, rfl⟩) | ((with_reducible refine (none_no p2 r2 _ HD2.out).mono ?_); rintro e w' ⟨rfl, rfl⟩))
  refine wp_region_held_drew (S := (fun w' => w'.cell? ⟨p, 0, none⟩ = some (.int .i64 share) ∧ w'.cell? ⟨p, 1, none⟩ = some (.int .i64 room) ∧ w'.cell? ⟨p, 2, none⟩ = some (.map (some r)) ∧ w'.cell? ⟨p2, 0, none⟩ = some (.int .i64 share) ∧ w'.cell? ⟨p2, 1, none⟩ = some (.int .i64 room) ∧ w'.cell? ⟨p2, 2, none⟩ = some (.map (some r2)))) (by kernel_rfl) (HX.out _ (bl_drew (Below.refl _ _))) (fun hHeld => ?_)
  refine take_yes (i := 0) (v := ?_) rfl (by kernel_rfl) (by kernel_rfl) (by kernel_rfl) (fun _ _ _ h => h) (by kernel_rfl) (by assumption) ?_ ?_
  rotate_left 1
  · (intro w hSw; (try dsimp only at hSw); go_simp; try with_reducible rfl)
  try simp only [Act.put, List.setIfInBounds_toArray, List.set_cons_zero, List.set_cons_succ]

  refine take_yes (i := 1) (v := ?_) rfl (by kernel_rfl) (by kernel_rfl) (by kernel_rfl) (fun _ _ _ h => h) (by kernel_rfl) (by assumption) ?_ ?_
  rotate_left 1
  · (intro w hSw; (try dsimp only at hSw); go_simp; try with_reducible rfl)
  try simp only [Act.put, List.setIfInBounds_toArray, List.set_cons_zero, List.set_cons_succ]

  refine take_yes (i := 2) (v := ?_) rfl (by kernel_rfl) (by kernel_rfl) (by kernel_rfl) (fun _ _ _ h => h) (by kernel_rfl) (by assumption) ?_ ?_
  rotate_left 1
  · (intro w hSw; (try dsimp only at hSw); go_simp; try with_reducible rfl)
  try simp only [Act.put, List.setIfInBounds_toArray, List.set_cons_zero, List.set_cons_succ]

  refine take_yes (i := 3) (v := ?_) rfl (by kernel_rfl) (by kernel_rfl) (by kernel_rfl) (fun _ _ _ h => h) (by kernel_rfl) (by assumption) ?_ ?_
  rotate_left 1
  · (intro w hSw; (try dsimp only at hSw); go_simp; try with_reducible rfl)
  try simp only [Act.put, List.setIfInBounds_toArray, List.set_cons_zero, List.set_cons_succ]

  refine take_yes (i := 4) (v := ?_) rfl (by kernel_rfl) (by kernel_rfl) (by kernel_rfl) (fun _ _ _ h => h) (by kernel_rfl) (by assumption) ?_ ?_
  rotate_left 1
  · (intro w hSw; (try dsimp only at hSw); go_simp; try with_reducible rfl)
  try simp only [Act.put, List.setIfInBounds_toArray, List.set_cons_zero, List.set_cons_succ]

  refine take_yes (i := 5) (v := ?_) rfl (by kernel_rfl) (by kernel_rfl) (by kernel_rfl) (fun _ _ _ h => h) (by kernel_rfl) (by assumption) ?_ ?_
  rotate_left 1
  · (intro w hSw; (try dsimp only at hSw); go_simp; try with_reducible rfl)
  try simp only [Act.put, List.setIfInBounds_toArray, List.set_cons_zero, List.set_cons_succ]

  refine take_yes (i := 6) (v := ?_) rfl (by kernel_rfl) (by kernel_rfl) (by kernel_rfl) (fun _ _ _ h => h) (by kernel_rfl) (by assumption) ?_ ?_
  rotate_left 1
  · (intro w hSw; (try dsimp only at hSw); go_simp; try with_reducible rfl)
  try simp only [Act.put, List.setIfInBounds_toArray, List.set_cons_zero, List.set_cons_succ]

  refine take_yes (i := 7) (v := ?_) rfl (by kernel_rfl) (by kernel_rfl) (by kernel_rfl) (fun _ _ _ h => h) (by kernel_rfl) (by assumption) ?_ ?_
  rotate_left 1
  · (intro w hSw; (try dsimp only at hSw); go_simp; try with_reducible rfl)
  try simp only [Act.put, List.setIfInBounds_toArray, List.set_cons_zero, List.set_cons_succ]

  refine take_yes (i := 8) (v := ?_) rfl (by kernel_rfl) (by kernel_rfl) (by kernel_rfl) (fun _ _ _ h => h) (by kernel_rfl) (by assumption) ?_ ?_
  rotate_left 1
  · (intro w hSw; (try dsimp only at hSw); go_simp; try with_reducible rfl)
  try simp only [Act.put, List.setIfInBounds_toArray, List.set_cons_zero, List.set_cons_succ]

  refine take_yes (i := 9) (v := ?_) rfl (by kernel_rfl) (by kernel_rfl) (by kernel_rfl) (fun _ _ _ h => h) (by kernel_rfl) (by assumption) ?_ ?_
  rotate_left 1
  · (intro w hSw; (try dsimp only at hSw); go_simp; try with_reducible rfl)
  try simp only [Act.put, List.setIfInBounds_toArray, List.set_cons_zero, List.set_cons_succ]

  refine take_yes (i := 10) (v := ?_) rfl (by kernel_rfl) (by kernel_rfl) (by kernel_rfl) (fun _ _ _ h => h) (by kernel_rfl) (by assumption) ?_ ?_
  rotate_left 1
  · (intro w hSw; (try dsimp only at hSw); go_simp; try with_reducible rfl)
  try simp only [Act.put, List.setIfInBounds_toArray, List.set_cons_zero, List.set_cons_succ]

  refine take_yes (i := 11) (v := ?_) rfl (by kernel_rfl) (by kernel_rfl) (by kernel_rfl) (fun _ _ _ h => h) (by kernel_rfl) (by assumption) ?_ ?_
  rotate_left 1
  · (intro w hSw; (try dsimp only at hSw); go_simp; try with_reducible rfl)
  try simp only [Act.put, List.setIfInBounds_toArray, List.set_cons_zero, List.set_cons_succ]

  refine take_yes (i := 12) (v := ?_) rfl (by kernel_rfl) (by kernel_rfl) (by kernel_rfl) (fun _ _ _ h => h) (by kernel_rfl) (by assumption) ?_ ?_
  rotate_left 1
  · (intro w hSw; (try dsimp only at hSw); go_simp; try with_reducible rfl)
  try simp only [Act.put, List.setIfInBounds_toArray, List.set_cons_zero, List.set_cons_succ]

  refine take_yes (i := 13) (v := ?_) rfl (by kernel_rfl) (by kernel_rfl) (by kernel_rfl) (fun _ _ _ h => h) (by kernel_rfl) (by assumption) ?_ ?_
  rotate_left 1
  · (intro w hSw; (try dsimp only at hSw); go_simp; try with_reducible rfl)
  try simp only [Act.put, List.setIfInBounds_toArray, List.set_cons_zero, List.set_cons_succ]

  refine take_yes (i := 14) (v := ?_) rfl (by kernel_rfl) (by kernel_rfl) (by kernel_rfl) (fun _ _ _ h => h) (by kernel_rfl) (by assumption) ?_ ?_
  rotate_left 1
  · (intro w hSw; (try dsimp only at hSw); go_simp; try with_reducible rfl)
  try simp only [Act.put, List.setIfInBounds_toArray, List.set_cons_zero, List.set_cons_succ]

  refine take_yes (i := 15) (v := ?_) rfl (by kernel_rfl) (by kernel_rfl) (by kernel_rfl) (fun _ _ _ h => h) (by kernel_rfl) (by assumption) ?_ ?_
  rotate_left 1
  · (intro w hSw; (try dsimp only at hSw); go_simp; try with_reducible rfl)
  try simp only [Act.put, List.setIfInBounds_toArray, List.set_cons_zero, List.set_cons_succ]

  refine take_yes (i := 16) (v := ?_) rfl (by kernel_rfl) (by kernel_rfl) (by kernel_rfl) (fun _ _ _ h => h) (by kernel_rfl) (by assumption) ?_ ?_
  rotate_left 1
  · (intro w hSw; (try dsimp only at hSw); go_simp; try with_reducible rfl)
  try simp only [Act.put, List.setIfInBounds_toArray, List.set_cons_zero, List.set_cons_succ]

  refine take_yes (i := 17) (v := ?_) rfl (by kernel_rfl) (by kernel_rfl) (by kernel_rfl) (fun _ _ _ h => h) (by kernel_rfl) (by assumption) ?_ ?_
  rotate_left 1
  · (intro w hSw; (try dsimp only at hSw); go_simp; try with_reducible rfl)
  try simp only [Act.put, List.setIfInBounds_toArray, List.set_cons_zero, List.set_cons_succ]

  refine wpAnyH_ready (rs := [18]) (by kernel_rfl) (by simp) ?_
  refine cons_drop (i := 18) rfl (fun K hK => ?_) AllReadyH.nil
  go_simp
  refine (equalMap_any r r2 es e2 _ (HM.out.below (bl_drew (Below.refl _ _))) (HM2.out.below (bl_drew (Below.refl _ _)))).mono ?_
  rintro e w' ⟨rfl, hb⟩
  rw [HQ.out]
  go_simp
  refine hK.out _ _ ?_ (fun hHeld2 => ?_)
  · exact HX.out _ (bl_then (bl_drew (Below.refl _ _)) hb)
  clear hK K hHeld
  try simp only [Act.put, List.setIfInBounds_toArray, List.set_cons_zero, List.set_cons_succ]
  refine take_yes (i := 19) (v := ?_) rfl (by kernel_rfl) (by kernel_rfl) (by kernel_rfl) (fun _ _ _ h => h) (by kernel_rfl) (by assumption) ?_ ?_
  rotate_left 1
  · (intro w hSw; (try dsimp only at hSw); go_simp; try with_reducible rfl)
  try simp only [Act.put, List.setIfInBounds_toArray, List.set_cons_zero, List.set_cons_succ]

  refine take_yes (i := 20) (v := ?_) rfl (by kernel_rfl) (by kernel_rfl) (by kernel_rfl) (fun _ _ _ h => h) (by kernel_rfl) (by assumption) ?_ ?_
  rotate_left 1
  · (intro w hSw; (try dsimp only at hSw); go_simp; try with_reducible rfl)
  try simp only [Act.put, List.setIfInBounds_toArray, List.set_cons_zero, List.set_cons_succ]

  refine take_no (i := 21) rfl (by kernel_rfl) (by kernel_rfl) (by kernel_rfl) (fun _ _ _ h => h) (by rfl) (by assumption) ?_
  try simp only [Act.put, List.setIfInBounds_toArray, List.set_cons_zero, List.set_cons_succ]

  refine take_no (i := 22) rfl (by kernel_rfl) (by kernel_rfl) (by kernel_rfl) (fun _ _ _ h => h) (by rfl) (by assumption) ?_
  try simp only [Act.put, List.setIfInBounds_toArray, List.set_cons_zero, List.set_cons_succ]

  refine take_no (i := 23) rfl (by kernel_rfl) (by kernel_rfl) (by kernel_rfl) (fun _ _ _ h => h) (by rfl) (by assumption) ?_
  try simp only [Act.put, List.setIfInBounds_toArray, List.set_cons_zero, List.set_cons_succ]

  refine take_no (i := 24) rfl (by kernel_rfl) (by kernel_rfl) (by kernel_rfl) (fun _ _ _ h => h) (by rfl) (by assumption) ?_
  try simp only [Act.put, List.setIfInBounds_toArray, List.set_cons_zero, List.set_cons_succ]

  refine take_no (i := 25) rfl (by kernel_rfl) (by kernel_rfl) (by kernel_rfl) (fun _ _ _ h => h) (by rfl) (by assumption) ?_
  try simp only [Act.put, List.setIfInBounds_toArray, List.set_cons_zero, List.set_cons_succ]

  refine take_yes (i := 26) (v := ?_) rfl (by kernel_rfl) (by kernel_rfl) (by kernel_rfl) (fun _ _ _ h => h) (by kernel_rfl) (by assumption) ?_ ?_
  rotate_left 1
  · (intro w hSw; (try dsimp only at hSw); go_simp; try with_reducible rfl)
  try simp only [Act.put, List.setIfInBounds_toArray, List.set_cons_zero, List.set_cons_succ]

  refine take_yes (i := 27) (v := ?_) rfl (by kernel_rfl) (by kernel_rfl) (by kernel_rfl) (fun _ _ _ h => h) (by kernel_rfl) (by assumption) ?_ ?_
  rotate_left 1
  · (intro w hSw; (try dsimp only at hSw); go_simp; try with_reducible rfl)
  try simp only [Act.put, List.setIfInBounds_toArray, List.set_cons_zero, List.set_cons_succ]

  refine wpAnyH_done (by kernel_rfl) ?_ _
  all_goals
    go_wp2_with fail
    go_ret
    exact ⟨rfl, by repeat (first | exact Below.refl _ _ | refine bl_drew ?_ | refine bl_drewN ?_ _ | (refine bl_then ?_ hb; clear hb))⟩
set_option maxRecDepth 100000 in
set_option maxHeartbeats 1000000 in
theorem same_yes (p r p2 r2 : Nat) (share room : Int) (es e2 : List En) (gs g2 : List Ling) (w : World) (h : LedgerAt w p r share room es gs) (h2 : LedgerAt w p2 r2 share room e2 g2) (hq : eqE es e2 = true) :
    Calls Try.prog 18 #[.pointer (some ⟨p, 0, none⟩), .pointer (some ⟨p2, 0, none⟩)] w fun e w' => e = .returned (.bool (eqS (stepsOf gs) (stepsOf g2))) ∧ Below w.heap.size w w' := by
  obtain ⟨v, c0, c1, c2, c3, hs, hm⟩ := h.cells
  obtain ⟨v', d0, d1, d2, d3, hs', hm'⟩ := h2.cells
  have HM := Lib.hid hm
  have H := Lib.hid h
  have H2 := Lib.hid h2
  have HM2 := Lib.hid hm'
  have HC2 := Lib.hid c2
  have HD2 := Lib.hid d2
  have HQ := Lib.hid hq
  have hbe := fun w => run_eql_bd share room w
  have HX : Hid (∀ W, Below w.heap.size w W → (fun w' => w'.cell? ⟨p, 0, none⟩ = some (.int .i64 share) ∧ w'.cell? ⟨p, 1, none⟩ = some (.int .i64 room) ∧ w'.cell? ⟨p, 2, none⟩ = some (.map (some r)) ∧ w'.cell? ⟨p2, 0, none⟩ = some (.int .i64 share) ∧ w'.cell? ⟨p2, 1, none⟩ = some (.int .i64 room) ∧ w'.cell? ⟨p2, 2, none⟩ = some (.map (some r2))) W) := Lib.hid fun W hW => ⟨bl_cell hW c0, bl_cell hW c1, bl_cell hW c2, bl_cell hW d0, bl_cell hW d1, bl_cell hW d2⟩
  clear h h2 hs hm hs' hm' c3 d3 hq
  go_enter Try.func18, Try.ntmps18
  go_upto_region 3 with (go_at_call 32; first | ((with_reducible refine (none_no p r _ HC2.out).mono ?_); rintro e w' ⟨rfl, rfl⟩) | ((with_reducible refine (none_no p2 r2 _ HD2.out).mono ?_); rintro e w' ⟨rfl, rfl⟩))
  first
  | go_region_held3 (fun w' => w'.cell? ⟨p, 0, none⟩ = some (.int .i64 share) ∧ w'.cell? ⟨p, 1, none⟩ = some (.int .i64 room) ∧ w'.cell? ⟨p, 2, none⟩ = some (.map (some r)) ∧ w'.cell? ⟨p2, 0, none⟩ = some (.int .i64 share) ∧ w'.cell? ⟨p2, 1, none⟩ = some (.int .i64 room) ∧ w'.cell? ⟨p2, 2, none⟩ = some (.map (some r2)))
      (exact HX.out _ (by repeat (first | exact Below.refl _ _ | refine bl_drew ?_ | refine bl_drewN ?_ _ | refine bl_alloc ?_ _ | (refine bl_then ?_ hb4; clear hb4) | (refine bl_then ?_ hb3; clear hb3) | (refine bl_then ?_ hb2; clear hb2) | (refine bl_then ?_ hb; clear hb))))
      (first
        | (go_at_call 43; refine (equalMap_any r r2 es e2 _ (HM.out.below (by repeat (first | exact Below.refl _ _ | refine bl_drew ?_ | refine bl_drewN ?_ _))) (HM2.out.below (by repeat (first | exact Below.refl _ _ | refine bl_drew ?_ | refine bl_drewN ?_ _)))).mono ?_; rintro e w' ⟨rfl, hb⟩; rw [HQ.out])
        | (go_at_call 45; (with_reducible refine (steps_any p r share room es gs _ (H.out.below (by repeat (first | exact Below.refl _ _ | refine bl_drew ?_ | refine bl_drewN ?_ _ | refine bl_alloc ?_ _ | (refine bl_then ?_ hb4; clear hb4) | (refine bl_then ?_ hb3; clear hb3) | (refine bl_then ?_ hb2; clear hb2) | (refine bl_then ?_ hb; clear hb))))).mono ?_); rintro e w' ⟨⟨r', rfl, hms⟩, hb2⟩)
        | (go_at_call 45; (with_reducible refine (steps_any p2 r2 share room e2 g2 _ (H2.out.below (by repeat (first | exact Below.refl _ _ | refine bl_drew ?_ | refine bl_drewN ?_ _ | refine bl_alloc ?_ _ | (refine bl_then ?_ hb4; clear hb4) | (refine bl_then ?_ hb3; clear hb3) | (refine bl_then ?_ hb2; clear hb2) | (refine bl_then ?_ hb; clear hb))))).mono ?_); rintro e w' ⟨⟨r'', rfl, hms'⟩, hb3⟩)
        | (go_at_call 44; refine (equalS_any _ _ _ _ _ (hms.below hb3) hms').mono ?_; rintro e w' ⟨rfl, hb4⟩))
  | fail "held3"
  all_goals
    go_wp2_with fail
    go_ret
    exact ⟨rfl, by repeat (first | exact Below.refl _ _ | refine bl_drew ?_ | refine bl_drewN ?_ _ | (refine bl_then ?_ hb4; clear hb4) | (refine bl_then ?_ hb3; clear hb3) | (refine bl_then ?_ hb2; clear hb2) | (refine bl_then ?_ hb; clear hb))⟩
end Go.Proofs.Ytfnijjjfodpnnaa
