/- The document's ledger: with. -/
import Derived.Test.YtfnijjjfodpnnaaLedAA
namespace Go.Proofs.Ytfnijjjfodpnnaa
open Go.RowKit Go.Shelf
set_option linter.unusedVariables false
set_option linter.unusedSimpArgs false
def insE (x : En) : List En → List En
  | [] => [x]
  | y :: l => if y.i < x.i then y :: insE x l else x :: y :: l
theorem insE_at : ∀ (es : List En) (x : En) (k : Nat), k ≤ es.length → (∀ j y, j < k → es[j]? = some y → y.i < x.i) → (∀ y, es[k]? = some y → ¬ y.i < x.i) → es.take k ++ [x] ++ es.drop k = insE x es
  | [], x, k, hk, _, _ => by
    obtain rfl : k = 0 := by simpa using hk
    simp [insE]
  | y :: l, x, 0, hk, _, h2 => by
    have := h2 y (by simp)
    simp [insE, this]
  | y :: l, x, k + 1, hk, h1, h2 => by
    have hy := h1 0 y (by omega) (by simp)
    have ih := insE_at l x k (by simpa using hk) (fun j z hj hz => h1 (j + 1) z (by omega) (by simpa using hz)) (fun z hz => h2 z (by simpa using hz))
    simp only [insE, hy, if_true, List.take_succ_cons, List.drop_succ_cons, List.cons_append]
    rw [← ih]
theorem insE_len (x : En) : ∀ es : List En, (insE x es).length = es.length + 1
  | [] => rfl
  | y :: l => by
    unfold insE
    split
    · simp [insE_len x l]
    · simp
theorem bl_undrew {B : Nat} {w W : World} (h : Below B w.drew W) : Below B w W := ⟨h.os, h.tape, h.output, h.size, h.block⟩
theorem own_mono {w : World} {b b' e k n : Nat} {v : Value} {cs : List Value} (h : w.ownsRow b e k v n cs) (hb : b' ≤ b) : w.ownsRow b' e k v n cs := by
  obtain ⟨h1, h2⟩ := h
  refine ⟨h1, ?_⟩
  rcases h2 with h2 | ⟨g, cap, cur, h3, h4, h5⟩
  · exact Or.inl h2
  · exact Or.inr ⟨g, cap, cur, h3, by omega, h5⟩
theorem sat_one (W : World) (x : En) {b : Nat} (hb : b = W.heap.size) : SAt En.cells 3 (W.alloc (.cells #[.int .i64 x.i, .int .i64 x.r, .int .i64 x.m] 30)) (.slice (some ⟨b, 0, none⟩) 1 1) [x] :=
  Or.inr ⟨b, 0, 1, rfl, by simp, by simp [maxLen], rowAt_new (enc := En.cells) (k := 3) (fun _ => rfl) W 30 [x] hb rfl⟩
/-- What the appends leave. -/
def WithAt (w w0 wx : World) (share room : Int) (vl : Value) (xs : List En) : Prop :=
  ∃ A n c, wx.ownsRow w0.heap.size 30 3 (.slice A n c) n (xs.flatMap En.cells) ∧ xs.length = n ∧ wx.heap[w.heap.size]? = some (.cells #[.int .i64 share, .int .i64 room, .slice A n c, vl] 36 (0, 0)) ∧
    wx.heap[w.heap.size + 2]? = some (.cells #[.int .i64 0, .int .i64 0, .slice none 0 0, .slice none 0 0] 36 (0, 0)) ∧ Below w.heap.size w wx
theorem with_end {w w0 w3 : World} {share room : Int} {ve vl : Value} {xs : List En} {A3 : Option Addr} {n3 c3 : Nat} (hb0 : Below w.heap.size w w0) (hz : w0.heap.size = w.heap.size + 3)
    (hk4 : w0.heap[w.heap.size]? = some (.cells #[.int .i64 share, .int .i64 room, ve, vl] 36 (0, 0))) (hk6 : w0.heap[w.heap.size + 2]? = some (.cells #[.int .i64 0, .int .i64 0, .slice none 0 0, .slice none 0 0] 36 (0, 0)))
    (hb : Below w0.heap.size w0 w3) (hown : w3.ownsRow w0.heap.size 30 3 (.slice A3 n3 c3) n3 (xs.flatMap En.cells)) (hn : xs.length = n3) : WithAt w w0 (w3.setCell ⟨w.heap.size, 2, none⟩ (.slice A3 n3 c3)) share room vl xs := by
  refine ⟨A3, n3, c3, ownsRow_setCell_below hown (a := ⟨w.heap.size, 2, none⟩) (by show w.heap.size < _; omega) _, hn, ?_, ?_, ?_⟩
  · have := (hb.block w.heap.size (by omega)).trans hk4
    simp [World.setCell, Array.getElem?_modify, this]
  · exact (Below.heap_setCell _ _ _ _ (by show w.heap.size + 2 ≠ w.heap.size; omega)).trans ((hb.block (w.heap.size + 2) (by omega)).trans hk6)
  · exact bl_set (hb0.trans (hb.mono (by omega))) (by simp) _
set_option maxRecDepth 100000 in
set_option maxHeartbeats 4000000 in
theorem with_ref (share room : Int) (ve vl : Value) (es : List En) (gs : List Ling) (x : En) (w : World) (h : RefAt w ve vl es gs) (hl : es.length ≤ 1000) :
    Calls Try.prog 55 #[refV share room ve vl, .agg #[.int .i64 x.i, .int .i64 x.r, .int .i64 x.m]] w fun e w' => (∃ v', e = .returned (refV share room v' vl) ∧ SAt En.cells 3 w' v' (insE x es) ∧ FarS w.heap.size v') ∧ Below w.heap.size w w' := by
  obtain ⟨A, c, rfl⟩ := h.e.slice
  obtain ⟨A', c', rfl⟩ := h.g.slice
  have HE := Lib.hid h.e
  have HGE : Hid (∀ j, j < es.length → es[j]? = some (es.getD j En0)) := Lib.hid fun j hj => by simp [List.getD, hj]
  have hB0 := bl_alloc (bl_alloc (bl_alloc (Below.refl w.heap.size w) (.cells #[.int .i64 share, .int .i64 room, .slice A es.length c, .slice A' gs.length c'] 36)) (.cells #[.int .i64 x.i, .int .i64 x.r, .int .i64 x.m] 30)) (.cells #[.int .i64 0, .int .i64 0, .slice none 0 0, .slice none 0 0] 36)
  have hk4 : (((w.alloc (.cells #[.int .i64 share, .int .i64 room, .slice A es.length c, .slice A' gs.length c'] 36)).alloc (.cells #[.int .i64 x.i, .int .i64 x.r, .int .i64 x.m] 30)).alloc (.cells #[.int .i64 0, .int .i64 0, .slice none 0 0, .slice none 0 0] 36)).heap[w.heap.size]? = some (.cells #[.int .i64 share, .int .i64 room, .slice A es.length c, .slice A' gs.length c'] 36 (0, 0)) := ((bl_alloc (bl_alloc (Below.refl _ _) _) _).block w.heap.size (by simp)).trans (at_alloc rfl)
  have hk5 : (((w.alloc (.cells #[.int .i64 share, .int .i64 room, .slice A es.length c, .slice A' gs.length c'] 36)).alloc (.cells #[.int .i64 x.i, .int .i64 x.r, .int .i64 x.m] 30)).alloc (.cells #[.int .i64 0, .int .i64 0, .slice none 0 0, .slice none 0 0] 36)).heap[w.heap.size + 1]? = some (.cells #[.int .i64 x.i, .int .i64 x.r, .int .i64 x.m] 30 (0, 0)) := ((bl_alloc (Below.refl _ _) _).block (w.heap.size + 1) (by simp)).trans (at_alloc (by simp))
  have hk6 : (((w.alloc (.cells #[.int .i64 share, .int .i64 room, .slice A es.length c, .slice A' gs.length c'] 36)).alloc (.cells #[.int .i64 x.i, .int .i64 x.r, .int .i64 x.m] 30)).alloc (.cells #[.int .i64 0, .int .i64 0, .slice none 0 0, .slice none 0 0] 36)).heap[w.heap.size + 2]? = some (.cells #[.int .i64 0, .int .i64 0, .slice none 0 0, .slice none 0 0] 36 (0, 0)) := at_alloc (by simp)
  have HB0 := Lib.hid hB0
  have HK4 := Lib.hid hk4
  have HK5 := Lib.hid hk5
  have HK6 := Lib.hid hk6
  have HW0S : Hid ((((w.alloc (.cells #[.int .i64 share, .int .i64 room, .slice A es.length c, .slice A' gs.length c'] 36)).alloc (.cells #[.int .i64 x.i, .int .i64 x.r, .int .i64 x.m] 30)).alloc (.cells #[.int .i64 0, .int .i64 0, .slice none 0 0, .slice none 0 0] 36)).heap.size = w.heap.size + 3) := Lib.hid (by simp)
  clear h hB0 hk4 hk5 hk6
  go_enter Try.func55, Try.ntmps55
  go_upto_region 1 with fail
  generalize (((w.alloc (.cells #[.int .i64 share, .int .i64 room, .slice A es.length c, .slice A' gs.length c'] 36)).alloc (.cells #[.int .i64 x.i, .int .i64 x.r, .int .i64 x.m] 30)).alloc (.cells #[.int .i64 0, .int .i64 0, .slice none 0 0, .slice none 0 0] 36)) = w0 at HB0 HK4 HK5 HK6 HW0S ⊢
  have HX : Hid (∀ W, Below w0.heap.size w0 W → W.cell? ⟨w.heap.size, 2, none⟩ = some (.slice A es.length c) ∧ W.frozen? ⟨w.heap.size, 2, none⟩ = false ∧ W.cell? ⟨w.heap.size + 1, 0, none⟩ = some (.int .i64 x.i) ∧ W.cell? ⟨w.heap.size + 1, 1, none⟩ = some (.int .i64 x.r) ∧ W.cell? ⟨w.heap.size + 1, 2, none⟩ = some (.int .i64 x.m)) := Lib.hid fun W hW =>
    ⟨bl_cell hW (by rw [cell_blk HK4.out]; rfl), (hW.frozen (p := ⟨w.heap.size, 2, none⟩) (by have := HW0S.out; show w.heap.size < _; omega)).trans (by simp [World.frozen?, HK4.out]),
      bl_cell hW (by rw [cell_blk HK5.out]; rfl), bl_cell hW (by rw [cell_blk HK5.out]; rfl), bl_cell hW (by rw [cell_blk HK5.out]; rfl)⟩
  go_upto_block 0 with fail
  go_cut [5] (fun s5 wx => ∃ kk : Nat, s5 = .int .i64 kk ∧ kk ≤ es.length ∧ Aside (es.take kk ++ [x] ++ es.drop kk = insE x es) ∧ Aside (Below w0.heap.size w0 wx))
  case first =>
    go_wp2_with fail
    go_loopg [5] es.length (fun gg s5 wr => ∃ kk : Nat, kk ≤ es.length ∧ es.length - kk ≤ gg ∧ s5 = .int .i64 kk ∧ Aside (Below w0.heap.size w0 wr) ∧ Aside (∀ (k : Nat) (y : En), k < kk → es[k]? = some y → y.i < x.i))
    case atStart => exact ⟨0, Nat.zero_le _, by omega, rfl, Below.refl _ _, fun k y hk => absurd hk (Nat.not_lt_zero _)⟩
    case round =>
      obtain ⟨kk, hkk, hgg, rfl, HB, HN⟩ := hrel
      obtain ⟨hc2, hf2, x0, x1, x2⟩ := HX.out wr HB.out
      by_cases hin : kk < es.length ∧ (es.getD kk En0).i < x.i
      · obtain ⟨hlt, hlti⟩ := hin
        have hltz : (kk : Int) < (es.length : Int) := by omega
        have hgj := HGE.out kk hlt
        generalize es.getD kk En0 = y at hgj hlti
        rcases HE.out.below (bl_then HB0.out HB.out) with ⟨h1, h2⟩ | ⟨b, o, c2, h1, _, _, hrow⟩
        · subst h2; simp at hlt
        · have hA : A = some ⟨b, o, none⟩ := by injection h1
          obtain ⟨e0, e1, e2⟩ := EnAt.ofRow hrow hgj
          subst hA
          have HGJ := Lib.hid hgj
          clear hgj hrow h1
          have hkz : (0 : Int) ≤ (kk : Int) := by omega
          go_wp2_with fail
          go_quiet (fail)
          go_wp2_with fail
          go_roundg (es.length - (kk + 1))
          case measure => omega
          case rel =>
            refine ⟨kk + 1, by omega, by omega, by go_num, HB.out.trans ?_, (show Aside _ from fun k z hk hz => ?_)⟩
            · exact (by repeat (first | exact Below.refl _ _ | refine bl_drew ?_ | refine bl_drewN ?_ _))
            · by_cases e : k = kk
              · subst e
                rw [HGJ.out] at hz
                cases hz
                exact hlti
              · exact HN.out k z (by omega) hz
      · have hpos : es.take kk ++ [x] ++ es.drop kk = insE x es := insE_at es x kk hkk HN.out (fun y hy hyi => by
          obtain ⟨hlt, hye⟩ := List.getElem?_eq_some_iff.1 hy
          exact hin ⟨hlt, by simpa [List.getD, hy] using hyi⟩)
        have HP := Lib.hid hpos
        have HIN := Lib.hid hin
        clear hpos hin
        have hkz : (0 : Int) ≤ (kk : Int) := by omega
        by_cases hlt : kk < es.length
        all_goals
          first
          | (have hltz : (kk : Int) < (es.length : Int) := by omega
             have hgj := HGE.out kk hlt
             have hge : ¬ (es.getD kk En0).i < x.i := fun hh => HIN.out ⟨hlt, hh⟩
             generalize es.getD kk En0 = y at hgj hge
             rcases HE.out.below (bl_then HB0.out HB.out) with ⟨h1, h2⟩ | ⟨b, o, c2, h1, _, _, hrow⟩
             · subst h2; simp at hlt
             have hA : A = some ⟨b, o, none⟩ := by injection h1
             obtain ⟨e0, e1, e2⟩ := EnAt.ofRow hrow hgj
             subst hA
             clear hgj hrow h1
             go_wp2_with fail
             go_quiet (fail)
             go_wp2_with fail)
          | (have hltz : decide ((kk : Int) < (es.length : Int)) = false := decide_eq_false (by omega)
             go_wp2_with fail
             go_quiet (fail)
             go_wp2_with fail)
          go_meet
          case rel => exact ⟨kk, rfl, hkk, HP.out, HB.out.trans (by repeat (first | exact Below.refl _ _ | refine bl_drew ?_ | refine bl_drewN ?_ _))⟩
  case rest =>
    obtain ⟨kk, rfl, hkk, HP, HB⟩ := hcut
    obtain ⟨v1, hr1, hs1⟩ := run_slice_to elEn HE.out kk hkk
    obtain ⟨v2, hr2, hs2⟩ := run_slice_from elEn HE.out kk hkk
    have HS1 := Lib.hid hs1
    have HS2 := Lib.hid hs2
    clear hs1 hs2
    obtain ⟨hc2, hf2, x0, x1, x2⟩ := HX.out wc HB.out
    have hzc := HB.out.size
    have hz0 := HW0S.out
    have hq0 : w.heap.size + 1 < wc.heap.size := by omega
    have hq00 : w.heap.size < wc.heap.size := by omega
    go_upto_region 4 with fail
    go_cut [24] (fun s24 wx => Aside (WithAt w w0 wx share room (.slice A' gs.length c') (insE x es)))
    case first =>
      go_region_law (first
        | (refine step_app rfl _ (.tmp 27) rfl elEn (fun _ => rfl) oneEn (n := 0) (xs := ([] : List En)) (ys := es.take kk) rfl rfl rfl (World.ownsRow_nil _ _ _ _) ?_ (Nat.le_refl _) (by simp [maxLen]; omega) (by simp; omega) ?_; (· exact HS1.out.below (bl_then HB0.out (bl_then HB.out (by repeat (first | exact Below.refl _ _ | refine bl_alloc ?_ _ | refine bl_drew ?_ | refine bl_drewN ?_ _))))); intro v' w' hown1 hb1; generalize hn1 : ([] ++ es.take kk).length = n1 at hown1; have HN1 := Lib.hid hn1; clear hn1; obtain ⟨A1, c1, rfl⟩ := own_form hown1; have hz1 := hb1.size; have hbw1 : Below w0.heap.size w0 w' := HB.out.trans (((show Below wc.heap.size wc _ from by repeat (first | exact Below.refl _ _ | refine bl_alloc ?_ _ | refine bl_drew ?_ | refine bl_drewN ?_ _)).trans (hb1.mono (by simp))).mono hzc); obtain ⟨hc1', hf1', y0, y1, y2⟩ := HX.out w' hbw1; have hq1 : w.heap.size + 1 < w'.heap.size := (by have := hbw1.size; omega); have hq2 : w.heap.size < w'.heap.size := (by omega))
        | (refine step_app rfl (.tmp 28) (.tmp 30) rfl elEn (fun _ => rfl) oneEn (base := w0.heap.size) (xs := [] ++ es.take kk) (ys := [x]) rfl rfl HN1.out.symm ?_ ?_ ?_ (by simp [maxLen]; omega) (by simp; omega) ?_; (· first | exact own_mono hown1 (by simp; omega) | exact own_mono (hown1.alloc _) (by simp; omega)); (· first | exact (sat_one wc x rfl).below (bl_undrew hb1) | exact sat_one w' x rfl); (· have := hbw1.size; simp <;> omega); intro v' w2 hown2 hb2; generalize hn2 : ([] ++ es.take kk ++ [x]).length = n2 at hown2; have HN2 := Lib.hid hn2; clear hn2; obtain ⟨A2, c2, rfl⟩ := own_form hown2; have hbw2 : Below w0.heap.size w0 w2 := Below.trans (by first | exact hbw1 | exact hbw1.alloc hbw1.size _) hb2; obtain ⟨hc2', hf2', z0, z1, z2⟩ := HX.out w2 hbw2; have hq3 : w.heap.size < w2.heap.size := (by have := hbw2.size; omega))
        | (refine step_app rfl (.tmp 31) (.tmp 35) rfl elEn (fun _ => rfl) oneEn (base := w0.heap.size) (xs := [] ++ es.take kk ++ [x]) (ys := es.drop kk) rfl rfl HN2.out.symm hown2 ?_ hbw2.size (by simp [maxLen]; omega) (by simp; omega) ?_; (· exact HS2.out.below (bl_then HB0.out hbw2)); intro v' w3 hown3 hb3; generalize hn3 : ([] ++ es.take kk ++ [x] ++ es.drop kk).length = n3 at hown3; have HN3 := Lib.hid hn3; clear hn3; obtain ⟨A3, c3, rfl⟩ := own_form hown3; have hbw3 : Below w0.heap.size w0 w3 := hbw2.trans hb3; obtain ⟨hc3', hf3', u0, u1, u2⟩ := HX.out w3 hbw3))
      all_goals
        have hfin : w3.ownsRow w0.heap.size 30 3 (.slice A3 n3 c3) n3 ((insE x es).flatMap En.cells) := by
          have := hown3
          rw [List.nil_append, HP.out] at this
          exact this
        have hln : (insE x es).length = n3 := by
          have := HN3.out
          rw [List.nil_append, HP.out] at this
          exact this
        have hend := with_end HB0.out HW0S.out HK4.out HK6.out hbw3 hfin hln
        have HEND := Lib.hid hend
        clear hend hfin hln hown3 hown2 hown1 hb1 hb2 hb3 hbw1 hbw2 hbw3
        go_wp2_with fail
        go_meet
        case rel => exact HEND.out
    case rest =>
      obtain ⟨A3, n3, c3, hown, hn3, hk4, hk6, hbf⟩ := hcut
      obtain ⟨o0, o1, o2, o3, f0, f1, f2, f3⟩ := ref_cells hk6
      have l0 : wc.cell? ⟨w.heap.size, 0, none⟩ = some (.int .i64 share) := by rw [cell_blk hk4]; rfl
      have l1 : wc.cell? ⟨w.heap.size, 1, none⟩ = some (.int .i64 room) := by rw [cell_blk hk4]; rfl
      have l2 : wc.cell? ⟨w.heap.size, 2, none⟩ = some (.slice A3 n3 c3) := by rw [cell_blk hk4]; rfl
      have l3 : wc.cell? ⟨w.heap.size, 3, none⟩ = some (.slice A' gs.length c') := by rw [cell_blk hk4]; rfl
      have hz3 := hbf.size
      have hzl : w.heap.size + 2 < wc.heap.size := (Array.getElem?_eq_some_iff.1 hk6).1
      have HOWN := Lib.hid hown
      have HN3 := Lib.hid hn3
      have HBF := Lib.hid hbf
      have HK6' := Lib.hid hk6
      clear hown hn3 hk4 hk6 hbf hc2 hf2 x0 x1 x2 hr1 hr2
      go_wp2_with fail
      have S4 := set4 (a0 := .int .i64 share) (a1 := .int .i64 room) (a2 := .slice A3 n3 c3) (a3 := .slice A' gs.length c') HK6'.out
      have s0 := S4 0 _ rfl
      have s1 := S4 1 _ rfl
      have s2 := S4 2 _ rfl
      have s3 := S4 3 _ rfl
      refine bodyPost_ret (v := refV share room (.slice A3 n3 c3) (.slice A' gs.length c')) (by simp [results, Try.results55, go_sem, s0, s1, s2, s3]) rfl ⟨⟨_, rfl, ?_, FarS.own HOWN.out (by omega)⟩, ?_⟩
      · have hfin := ownsRow_setCell_below (ownsRow_setCell_below (ownsRow_setCell_below (ownsRow_setCell_below HOWN.out (a := ⟨w.heap.size + 2, 0, none⟩) (by show w.heap.size + 2 < _; omega) (.int .i64 share)) (a := ⟨w.heap.size + 2, 1, none⟩) (by show w.heap.size + 2 < _; omega) (.int .i64 room)) (a := ⟨w.heap.size + 2, 2, none⟩) (by show w.heap.size + 2 < _; omega) (.slice A3 n3 c3)) (a := ⟨w.heap.size + 2, 3, none⟩) (by show w.heap.size + 2 < _; omega) (.slice A' gs.length c')
        exact SAt.ofOwn (enc := En.cells) (k := 3) (fun _ => rfl) HN3.out hfin
      · repeat (first | exact HBF.out | refine bl_set ?_ (by simp <;> omega) _)
end Go.Proofs.Ytfnijjjfodpnnaa
