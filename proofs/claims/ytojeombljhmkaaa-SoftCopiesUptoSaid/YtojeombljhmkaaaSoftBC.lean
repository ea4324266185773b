/- Soft: the document's with. -/
import Derived.Test.YtojeombljhmkaaaSoftBB
import Derived.Deep.RegionLaw
namespace Go.Proofs.Ytojeombljhmkaaa
open Go.RowKit Go.Shelf Go.Sort
set_option linter.unusedVariables false
set_option linter.unusedSimpArgs false
attribute [local go_sem] Oper.semAt_some
theorem insL_cut {x : Th} : ∀ {l : List Th} {k : Nat}, k ≤ l.length → (∀ j y, j < k → l[j]? = some y → ltS y.name x.name = true) → (∀ y, l[k]? = some y → ltS y.name x.name = false) → insL x l = l.take k ++ x :: l.drop k
  | [], k, h, _, _ => by simp [insL]
  | y :: l, 0, _, _, h2 => by
    have := h2 y rfl
    unfold insL
    rw [if_neg (by simp [this])]
    rfl
  | y :: l, k + 1, h, h1, h2 => by
    have hy := h1 0 y (by omega) rfl
    unfold insL
    rw [if_pos hy, insL_cut (k := k) (by simpa using h) (fun j z hj hz => h1 (j + 1) z (by omega) (by simpa using hz)) (fun z hz => h2 z (by simpa using hz))]
    rfl
theorem fld_L (now : Int) (A : Option Addr) (k c : Nat) (W : World) : (Instr.field 47 (.agg #[.int .i64 now, .slice A k c]) 1).run Try.prog W = .ok (.slice A k c) W := by kernel_rfl
theorem bl_undrew {B : Nat} {w W : World} (h : Below B w.drew W) : Below B w W := ⟨h.os, h.tape, h.output, h.size, h.block⟩
theorem undrew {w W : World} (h : Below w.drew.heap.size w.drew W) : Below w.heap.size w W := ⟨h.os, h.tape, h.output, h.size, h.block⟩
set_option maxRecDepth 100000 in
set_option maxHeartbeats 4000000 in
theorem rwith_any (now : Int) (v : Value) (L : List Th) (x : Th) (w : World) (h : SAt Th.cells 4 w v L) (hlen : L.length ≤ 100000) :
    Calls Try.prog 52 #[.agg #[.int .i64 now, v], .agg #[.string x.name, .int .i64 x.period, .int .i64 x.next, .int .i64 x.forgot]] w fun e w' => (∃ u, e = .returned (.agg #[.int .i64 now, u]) ∧ w'.ownsRow w.heap.size 35 4 u (withL L x).length ((withL L x).flatMap Th.cells)) ∧ Below w.heap.size w w' := by
  obtain ⟨A, c, rfl⟩ := h.slice
  obtain ⟨Q, hQ⟩ : ∃ Q : Ending → World → Prop, Q = fun e w' => (∃ u, e = .returned (.agg #[.int .i64 now, u]) ∧ w'.ownsRow w.heap.size 35 4 u (withL L x).length ((withL L x).flatMap Th.cells)) ∧ Below w.heap.size w w' := ⟨_, rfl⟩
  rw [← hQ]
  have HQ := Lib.hid hQ
  obtain ⟨wz, hwz⟩ : ∃ wz, wz = ((w.alloc (.cells #[.int .i64 now, .slice A L.length c] 47)).alloc (.cells #[.string x.name, .int .i64 x.period, .int .i64 x.next, .int .i64 x.forgot] 35)).alloc (.cells #[.int .i64 0, .slice none 0 0] 47) := ⟨_, rfl⟩
  have hbz : Below w.heap.size w wz := hwz ▸ bl_alloc (bl_alloc (bl_alloc (Below.refl _ _) _) _) _
  have hk0 : wz.heap[w.heap.size]? = some (.cells #[.int .i64 now, .slice A L.length c] 47 (0, 0)) := by
    rw [hwz]
    exact (((bl_alloc (bl_alloc (Below.refl _ _) _) _)).block w.heap.size (by simp)).trans (at_alloc rfl)
  have hk1 : wz.heap[w.heap.size + 1]? = some (.cells #[.string x.name, .int .i64 x.period, .int .i64 x.next, .int .i64 x.forgot] 35 (0, 0)) := by
    rw [hwz]
    exact ((bl_alloc (Below.refl _ _) _).block (w.heap.size + 1) (by simp)).trans (at_alloc (by simp))
  have hk2 : wz.heap[w.heap.size + 2]? = some (.cells #[.int .i64 0, .slice none 0 0] 47 (0, 0)) := by
    rw [hwz]
    exact at_alloc (by simp)
  have hzz : wz.heap.size = w.heap.size + 3 := by rw [hwz]; simp
  have hwo := rwithout_any now (.slice A L.length c) L x.name wz (h.below hbz) (by omega)
  have HWO := Lib.hid hwo
  have HK := Lib.hid (And.intro hk0 (And.intro hk1 (And.intro hk2 hzz)))
  have HBZ := Lib.hid hbz
  have HWZ := Lib.hid hwz
  have hdl : (delL L x.name).length ≤ 100000 := Nat.le_trans (List.length_filter_le _ _) hlen
  have hfl := fld_L
  clear hQ h hwo hk0 hk1 hk2 hbz hwz hlen hzz
  go_enter Try.func52, Try.ntmps52
  go_upto_region 1 with fail
  rw [← HWZ.out]
  obtain ⟨x0, x1, x2, x3, -, -, -, -⟩ := cells4 HK.out.2.1
  obtain ⟨t0, t1, -, -⟩ := cells2 HK.out.1
  obtain ⟨l, hl⟩ : ∃ l, l = delL L x.name := ⟨_, rfl⟩
  rw [← hl] at HWO hdl
  have HL := Lib.hid hl
  clear hl
  go_wp2_with (go_at_call 53; refine HWO.out.mono ?_; rintro e w1 ⟨⟨u, rfl, ho⟩, hb⟩; obtain ⟨A5, c5, rfl⟩ := own_form ho; have HO := Lib.hid ho; have HB1 := Lib.hid hb; clear ho hb x0 x1 x2 x3 t0 t1)
  go_loopg [6] (l.length + 1) (fun gg s6 wr => ∃ k : Nat, k ≤ l.length ∧ l.length - k ≤ gg ∧ s6 = .int .i64 (k : Int) ∧ Aside (Below w1.heap.size w1 wr) ∧ Aside (∀ j y, j < k → l[j]? = some y → ltS y.name x.name = true))
  case atStart => exact ⟨0, by omega, by omega, rfl, Below.refl _ _, fun j y hj => absurd hj (by omega)⟩
  case round =>
    obtain ⟨k, hk, hgg, rfl, HB, HLT⟩ := hrel
    have hkk := HK.out
    have hz1 : wz.heap.size ≤ w1.heap.size := HB1.out.size
    have hzr : w1.heap.size ≤ wr.heap.size := HB.out.size
    have HBW := Lib.hid (bl_then HB1.out HB.out)
    have hbk0 := (HBW.out.block w.heap.size (by omega)).trans hkk.1
    have hbk1 := (HBW.out.block (w.heap.size + 1) (by omega)).trans hkk.2.1
    have hbk2 := (HBW.out.block (w.heap.size + 2) (by omega)).trans hkk.2.2.1
    obtain ⟨x0, x1, x2, x3, -, -, -, -⟩ := cells4 hbk1
    have hout : (∀ y, l[k]? = some y → ltS y.name x.name = false) → insL x l = l.take k ++ x :: l.drop k := fun h => insL_cut hk HLT.out h
    have HOUT := Lib.hid hout
    have HBK := Lib.hid (And.intro hbk0 (And.intro hbk1 hbk2))
    clear hkk hbk0 hbk1 hbk2 hout
    by_cases hlt : k < l.length
    · have hltz : (k : Int) < (l.length : Int) := by omega
      have hgk : l[k]? = some l[k] := List.getElem?_eq_getElem hlt
      generalize l[k] = y at hgk
      rcases own_sat (own_lies HO.out HB.out) with ⟨-, q2⟩ | ⟨b, o, c', q1, _, _, hrow⟩
      · subst q2; simp at hlt
      · simp only [Value.slice.injEq] at q1
        obtain ⟨rfl, -, rfl⟩ := q1
        obtain ⟨c0, -, -, -⟩ := th_row hrow hgk
        have hc0 : wr.drew.cell? ⟨b, o + k * 4, none⟩ = some (.string y.name) := c0
        have hx0 : wr.drew.cell? ⟨w.heap.size + 1, 0, none⟩ = some (.string x.name) := x0
        have HGK := Lib.hid hgk
        clear hrow hgk
        cases hls : ltS y.name x.name with
        | true =>
          have hbl : Op.bytesLess y.name.toList x.name.toList = true := (less_eq _ _).trans hls
          have HLS := Lib.hid hls
          clear hls
          go_upto_region 3 with fail
          go_quiet (fail)
          go_wp2_with fail
          go_roundg (l.length - (k + 1))
          case measure => omega
          case rel =>
            refine ⟨k + 1, by omega, by omega, by go_num, (show Below _ _ _ from by repeat (first | exact HB.out | refine bl_drew ?_ | refine bl_drewN ?_ _)), (show ∀ j z, j < k + 1 → l[j]? = some z → ltS z.name x.name = true from fun j z hj hz => ?_)⟩
            by_cases he : j = k
            · subst he; rw [HGK.out] at hz; cases hz; exact HLS.out
            · exact HLT.out j z (by omega) hz
        | false =>
          have hbl : Op.bytesLess y.name.toList x.name.toList = false := (less_eq _ _).trans hls
          have HINS := Lib.hid (HOUT.out fun z hz => by rw [HGK.out] at hz; cases hz; exact hls)
          clear hls
          go_upto_region 3 with fail
          go_quiet (fail)
          go_upto_region 5 with fail
          generalize hwc : wr.drewN nq = wc
          have hBC : Below w1.heap.size w1 wc := by rw [← hwc]; exact bl_drewN HB.out nq
          have HBC := Lib.hid hBC
          obtain ⟨v1, hr1, hs1⟩ := run_slice_to elTh (own_sat HO.out) k hk
          obtain ⟨v2, hr2, hs2⟩ := run_slice_from elTh (own_sat HO.out) k hk
          have HS1 := Lib.hid hs1
          have HS2 := Lib.hid hs2
          have HX : Hid (∀ W, Below w1.heap.size w1 W → W.cell? ⟨w.heap.size + 1, 0, none⟩ = some (.string x.name) ∧ W.cell? ⟨w.heap.size + 1, 1, none⟩ = some (.int .i64 x.period) ∧ W.cell? ⟨w.heap.size + 1, 2, none⟩ = some (.int .i64 x.next) ∧ W.cell? ⟨w.heap.size + 1, 3, none⟩ = some (.int .i64 x.forgot) ∧ W.cell? ⟨w.heap.size, 1, none⟩ = some (.slice A L.length c) ∧ W.frozen? ⟨w.heap.size, 1, none⟩ = false) := Lib.hid fun W hW => by
            have hbw := bl_then HB1.out hW
            have hk' := HK.out
            have q1 := cells4 ((hbw.block (w.heap.size + 1) (by omega)).trans hk'.2.1)
            have q2 := cells2 ((hbw.block w.heap.size (by omega)).trans hk'.1)
            exact ⟨q1.1, q1.2.1, q1.2.2.1, q1.2.2.2.1, q2.2.1, q2.2.2.2⟩
          obtain ⟨x0', x1', x2', x3', x4', x5'⟩ := HX.out wc hBC
          have hzc := hBC.size
          have hq00 : w.heap.size + 1 < wc.heap.size := by have := HK.out.2.2.2; omega
          clear hs1 hs2 hBC hwc x0 x1 x2 x3
          first
          | go_region_law (first       | (refine step_app rfl _ (.tmp 30) rfl elTh (fun _ => rfl) th_one (n := 0) (xs := ([] : List Th)) (ys := l.take k) rfl rfl rfl (World.ownsRow_nil _ _ _ _) ?_ (Nat.le_refl _) (by simp [maxLen]; omega) (by simp; omega) ?_; (· exact HS1.out.below (bl_then HBC.out (by repeat (first | exact Below.refl _ _ | refine bl_alloc ?_ _ | refine bl_drew ?_ | refine bl_drewN ?_ _)))); intro v' w' hown1 hb1; generalize hn1 : ([] ++ l.take k).length = n1 at hown1; have HN1 := Lib.hid hn1; clear hn1; obtain ⟨A1, c1, rfl⟩ := own_form hown1; have hz1' := hb1.size; have hbw1 : Below w1.heap.size w1 w' := HBC.out.trans (((show Below wc.heap.size wc _ from by repeat (first | exact Below.refl _ _ | refine bl_alloc ?_ _ | refine bl_drew ?_ | refine bl_drewN ?_ _)).trans (hb1.mono (by simp))).mono hzc); obtain ⟨y0, y1, y2, y3, y4, y5⟩ := HX.out w' hbw1; have hq2 : w.heap.size + 1 < w'.heap.size := (by have := hbw1.size; have := HK.out.2.2.2; omega))       | (refine step_app rfl (.tmp 31) (.tmp 33) rfl elTh (fun _ => rfl) th_one (base := w1.heap.size) (xs := [] ++ l.take k) (ys := [x]) rfl rfl HN1.out.symm ?_ ?_ ?_ (by simp [maxLen]; omega) (by simp; omega) ?_; (· first | exact own_mono hown1 (by simp; omega) | exact own_mono (hown1.alloc _) (by simp; omega)); (· first | exact (sat_oneT wc x rfl).below (bl_undrew hb1) | exact sat_oneT w' x rfl); (· have := hbw1.size; simp <;> omega); intro v' w2 hown2 hb2; generalize hn2 : ([] ++ l.take k ++ [x]).length = n2 at hown2; have HN2 := Lib.hid hn2; clear hn2; obtain ⟨A2, c2, rfl⟩ := own_form hown2; have hbw2 : Below w1.heap.size w1 w2 := Below.trans (by first | exact hbw1 | exact hbw1.alloc hbw1.size _) hb2; obtain ⟨z0, z1, z2, z3, z4, z5⟩ := HX.out w2 hbw2; have hq3 : w.heap.size + 1 < w2.heap.size := (by have := hbw2.size; have := HK.out.2.2.2; omega))       | (refine step_app rfl (.tmp 34) (.tmp 37) rfl elTh (fun _ => rfl) th_one (base := w1.heap.size) (xs := [] ++ l.take k ++ [x]) (ys := l.drop k) rfl rfl HN2.out.symm hown2 ?_ hbw2.size (by simp [maxLen]; omega) (by simp; omega) ?_; (· exact HS2.out.below hbw2); intro v' w3 hown3 hb3; generalize hn3 : ([] ++ l.take k ++ [x] ++ l.drop k).length = n3 at hown3; have HN3 := Lib.hid hn3; clear hn3; obtain ⟨A3, c3, rfl⟩ := own_form hown3; have hbw3 : Below w1.heap.size w1 w3 := hbw2.trans hb3; obtain ⟨u0, u1, u2, u3, u4, u5⟩ := HX.out w3 hbw3; have hq4 : w.heap.size + 1 < w3.heap.size := (by have := hbw3.size; have := HK.out.2.2.2; omega)))
          | fail "law"
          all_goals
            have hfin : w3.ownsRow w1.heap.size 35 4 (.slice A3 n3 c3) (withL L x).length ((withL L x).flatMap Th.cells) := by
              have := hown3
              rw [List.nil_append] at this
              have h3 := HN3.out
              rw [List.nil_append] at h3
              rw [← h3] at this
              have he : l.take k ++ [x] ++ l.drop k = withL L x := by
                unfold withL
                show _ = insL x (delL L x.name)
                rw [← HL.out, HINS.out]
                simp
              rw [he] at this
              rw [← h3, he]
              exact this
            have hbz3 := bl_then HB1.out hbw3
            have hbk2 := (hbz3.block (w.heap.size + 2) (by have := HK.out.2.2.2; omega)).trans HK.out.2.2.1
            have hbk0 := (hbz3.block w.heap.size (by have := HK.out.2.2.2; omega)).trans HK.out.1
            have HF := Lib.hid (And.intro hfin (And.intro (HBZ.out.trans (hbz3.mono HBZ.out.size)) (And.intro hbk2 hbk0)))
            have hne : w.heap.size ≠ w.heap.size + 2 := by omega
            obtain ⟨p0, p1, p2, p3⟩ := cells2 hbk2
            obtain ⟨m0, m1, m2, m3⟩ := cells2 hbk0
            clear hfin hbk2 hbk0 hbz3 hown3 hown2 hown1 hb1 hb2 hb3 hbw1 hbw2 hbw3
            go_wp2_with fail
            have hne : w.heap.size + 1 + 1 ≠ w.heap.size := by omega
            have hfin := heap_set (o := 1) (v := .slice A3 n3 c3) (heap_set (o := 0) (v := .int .i64 now) ((heap_set_other (w := w3) (i := w.heap.size + 1 + 1) (q := ⟨w.heap.size, 1, none⟩) (v := .slice A3 n3 c3) hne).trans HF.out.2.2.1))
            have s0 := (cell_blk (o := 0) hfin)
            have s1 := (cell_blk (o := 1) hfin)
            simp at s0 s1
            refine bodyPost_ret (v := .agg #[.int .i64 now, .slice A3 n3 c3]) (by simp [results, Try.results52, go_sem, s0, s1]) rfl ?_
            rw [HQ.out]
            have hbf : Below w.heap.size w (((w3.setCell ⟨w.heap.size, 1, none⟩ (.slice A3 n3 c3)).setCell ⟨w.heap.size + 1 + 1, 0, none⟩ (.int .i64 now)).setCell ⟨w.heap.size + 1 + 1, 1, none⟩ (.slice A3 n3 c3)) :=
              bl_set (bl_set (bl_set HF.out.2.1 (Nat.le_refl _) _) (by simp <;> omega) _) (by simp <;> omega) _
            refine ⟨⟨_, rfl, ?_⟩, hbf⟩
            have hz := HK.out.2.2.2
            refine own_mono (b0 := w.heap.size) (base := w1.heap.size) ?_ (by omega)
            have hA : w.heap.size < w1.heap.size := by omega
            have hB : w.heap.size + 1 + 1 < w1.heap.size := by omega
            exact own_set (own_set (own_set HF.out.1 hA _) hB _) hB _
    · obtain rfl : k = l.length := by omega
      have hltz : ¬ (l.length : Int) < (l.length : Int) := by omega
      have HINS := Lib.hid (HOUT.out fun z hz => absurd (List.getElem?_eq_some_iff.1 hz).1 (by omega))
      go_upto_region 3 with fail
      go_quiet (fail)
      go_upto_region 5 with fail
      have hk : l.length ≤ l.length := Nat.le_refl _
      generalize hwc : wr.drewN nq = wc
      have hBC : Below w1.heap.size w1 wc := by rw [← hwc]; exact bl_drewN HB.out nq
      have HBC := Lib.hid hBC
      obtain ⟨v1, hr1, hs1⟩ := run_slice_to elTh (own_sat HO.out) l.length hk
      obtain ⟨v2, hr2, hs2⟩ := run_slice_from elTh (own_sat HO.out) l.length hk
      have HS1 := Lib.hid hs1
      have HS2 := Lib.hid hs2
      have HX : Hid (∀ W, Below w1.heap.size w1 W → W.cell? ⟨w.heap.size + 1, 0, none⟩ = some (.string x.name) ∧ W.cell? ⟨w.heap.size + 1, 1, none⟩ = some (.int .i64 x.period) ∧ W.cell? ⟨w.heap.size + 1, 2, none⟩ = some (.int .i64 x.next) ∧ W.cell? ⟨w.heap.size + 1, 3, none⟩ = some (.int .i64 x.forgot) ∧ W.cell? ⟨w.heap.size, 1, none⟩ = some (.slice A L.length c) ∧ W.frozen? ⟨w.heap.size, 1, none⟩ = false) := Lib.hid fun W hW => by
        have hbw := bl_then HB1.out hW
        have hk' := HK.out
        have q1 := cells4 ((hbw.block (w.heap.size + 1) (by omega)).trans hk'.2.1)
        have q2 := cells2 ((hbw.block w.heap.size (by omega)).trans hk'.1)
        exact ⟨q1.1, q1.2.1, q1.2.2.1, q1.2.2.2.1, q2.2.1, q2.2.2.2⟩
      obtain ⟨x0', x1', x2', x3', x4', x5'⟩ := HX.out wc hBC
      have hzc := hBC.size
      have hq00 : w.heap.size + 1 < wc.heap.size := by have := HK.out.2.2.2; omega
      clear hs1 hs2 hBC hwc x0 x1 x2 x3
      first
      | go_region_law (first       | (refine step_app rfl _ (.tmp 30) rfl elTh (fun _ => rfl) th_one (n := 0) (xs := ([] : List Th)) (ys := l.take l.length) rfl rfl rfl (World.ownsRow_nil _ _ _ _) ?_ (Nat.le_refl _) (by simp [maxLen]; omega) (by simp; omega) ?_; (· exact HS1.out.below (bl_then HBC.out (by repeat (first | exact Below.refl _ _ | refine bl_alloc ?_ _ | refine bl_drew ?_ | refine bl_drewN ?_ _)))); intro v' w' hown1 hb1; generalize hn1 : ([] ++ l.take l.length).length = n1 at hown1; have HN1 := Lib.hid hn1; clear hn1; obtain ⟨A1, c1, rfl⟩ := own_form hown1; have hz1' := hb1.size; have hbw1 : Below w1.heap.size w1 w' := HBC.out.trans (((show Below wc.heap.size wc _ from by repeat (first | exact Below.refl _ _ | refine bl_alloc ?_ _ | refine bl_drew ?_ | refine bl_drewN ?_ _)).trans (hb1.mono (by simp))).mono hzc); obtain ⟨y0, y1, y2, y3, y4, y5⟩ := HX.out w' hbw1; have hq2 : w.heap.size + 1 < w'.heap.size := (by have := hbw1.size; have := HK.out.2.2.2; omega))       | (refine step_app rfl (.tmp 31) (.tmp 33) rfl elTh (fun _ => rfl) th_one (base := w1.heap.size) (xs := [] ++ l.take l.length) (ys := [x]) rfl rfl HN1.out.symm ?_ ?_ ?_ (by simp [maxLen]; omega) (by simp; omega) ?_; (· first | exact own_mono hown1 (by simp; omega) | exact own_mono (hown1.alloc _) (by simp; omega)); (· first | exact (sat_oneT wc x rfl).below (bl_undrew hb1) | exact sat_oneT w' x rfl); (· have := hbw1.size; simp <;> omega); intro v' w2 hown2 hb2; generalize hn2 : ([] ++ l.take l.length ++ [x]).length = n2 at hown2; have HN2 := Lib.hid hn2; clear hn2; obtain ⟨A2, c2, rfl⟩ := own_form hown2; have hbw2 : Below w1.heap.size w1 w2 := Below.trans (by first | exact hbw1 | exact hbw1.alloc hbw1.size _) hb2; obtain ⟨z0, z1, z2, z3, z4, z5⟩ := HX.out w2 hbw2; have hq3 : w.heap.size + 1 < w2.heap.size := (by have := hbw2.size; have := HK.out.2.2.2; omega))       | (refine step_app rfl (.tmp 34) (.tmp 37) rfl elTh (fun _ => rfl) th_one (base := w1.heap.size) (xs := [] ++ l.take l.length ++ [x]) (ys := l.drop l.length) rfl rfl HN2.out.symm hown2 ?_ hbw2.size (by simp [maxLen]; omega) (by simp; omega) ?_; (· exact HS2.out.below hbw2); intro v' w3 hown3 hb3; generalize hn3 : ([] ++ l.take l.length ++ [x] ++ l.drop l.length).length = n3 at hown3; have HN3 := Lib.hid hn3; clear hn3; obtain ⟨A3, c3, rfl⟩ := own_form hown3; have hbw3 : Below w1.heap.size w1 w3 := hbw2.trans hb3; obtain ⟨u0, u1, u2, u3, u4, u5⟩ := HX.out w3 hbw3; have hq4 : w.heap.size + 1 < w3.heap.size := (by have := hbw3.size; have := HK.out.2.2.2; omega)))
      | fail "law"
      all_goals
        have hfin : w3.ownsRow w1.heap.size 35 4 (.slice A3 n3 c3) (withL L x).length ((withL L x).flatMap Th.cells) := by
          have := hown3
          rw [List.nil_append] at this
          have h3 := HN3.out
          rw [List.nil_append] at h3
          rw [← h3] at this
          have he : l.take l.length ++ [x] ++ l.drop l.length = withL L x := by
            unfold withL
            show _ = insL x (delL L x.name)
            rw [← HL.out, HINS.out]
            simp
          rw [he] at this
          rw [← h3, he]
          exact this
        have hbz3 := bl_then HB1.out hbw3
        have hbk2 := (hbz3.block (w.heap.size + 2) (by have := HK.out.2.2.2; omega)).trans HK.out.2.2.1
        have hbk0 := (hbz3.block w.heap.size (by have := HK.out.2.2.2; omega)).trans HK.out.1
        have HF := Lib.hid (And.intro hfin (And.intro (HBZ.out.trans (hbz3.mono HBZ.out.size)) (And.intro hbk2 hbk0)))
        have hne : w.heap.size ≠ w.heap.size + 2 := by omega
        obtain ⟨p0, p1, p2, p3⟩ := cells2 hbk2
        obtain ⟨m0, m1, m2, m3⟩ := cells2 hbk0
        clear hfin hbk2 hbk0 hbz3 hown3 hown2 hown1 hb1 hb2 hb3 hbw1 hbw2 hbw3
        go_wp2_with fail
        have hne : w.heap.size + 1 + 1 ≠ w.heap.size := by omega
        have hfin := heap_set (o := 1) (v := .slice A3 n3 c3) (heap_set (o := 0) (v := .int .i64 now) ((heap_set_other (w := w3) (i := w.heap.size + 1 + 1) (q := ⟨w.heap.size, 1, none⟩) (v := .slice A3 n3 c3) hne).trans HF.out.2.2.1))
        have s0 := (cell_blk (o := 0) hfin)
        have s1 := (cell_blk (o := 1) hfin)
        simp at s0 s1
        refine bodyPost_ret (v := .agg #[.int .i64 now, .slice A3 n3 c3]) (by simp [results, Try.results52, go_sem, s0, s1]) rfl ?_
        rw [HQ.out]
        have hbf : Below w.heap.size w (((w3.setCell ⟨w.heap.size, 1, none⟩ (.slice A3 n3 c3)).setCell ⟨w.heap.size + 1 + 1, 0, none⟩ (.int .i64 now)).setCell ⟨w.heap.size + 1 + 1, 1, none⟩ (.slice A3 n3 c3)) :=
          bl_set (bl_set (bl_set HF.out.2.1 (Nat.le_refl _) _) (by simp <;> omega) _) (by simp <;> omega) _
        refine ⟨⟨_, rfl, ?_⟩, hbf⟩
        have hz := HK.out.2.2.2
        refine own_mono (b0 := w.heap.size) (base := w1.heap.size) ?_ (by omega)
        have hA : w.heap.size < w1.heap.size := by omega
        have hB : w.heap.size + 1 + 1 < w1.heap.size := by omega
        exact own_set (own_set (own_set HF.out.1 hA _) hB _) hB _
end Go.Proofs.Ytojeombljhmkaaa
