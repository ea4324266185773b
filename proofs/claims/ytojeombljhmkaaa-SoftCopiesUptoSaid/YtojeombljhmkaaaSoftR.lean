/- Soft: Go's walk. -/
import Derived.Test.YtojeombljhmkaaaSoftQ
namespace Go.Proofs.Ytojeombljhmkaaa
open Go.RowKit Go.Shelf
set_option linter.unusedVariables false
set_option linter.unusedSimpArgs false
attribute [local go_sem] Oper.semAt_some
theorem set_next {w : World} {p r : Nat} {now : Int} {es : List (Nat × Th)} (h : TAt w p r now es) {b : Nat} {x : Th} (hb : (b, x) ∈ es) (n : Int) :
    TAt (w.setCell ⟨b, 2, none⟩ (.int .i64 n)) p r now (updT es b ⟨x.name, x.period, n, x.forgot⟩) :=
  h.upd hb rfl (heap_set (h.each _ hb)) fun i hi hib => heap_set_other hib
/-- What Go hands back. -/
def GoPost (p r : Nat) (n : Int) (L : List Th) (es : List (Nat × Th)) (w : World) (e : Ending) (w' : World) : Prop :=
  ∃ G u v, GoneL n L G ∧ e = .returned (.tuple #[u, v, .int .i64 0]) ∧ w'.ownsRow w.heap.size 9 1 u G.length ((G.map (·.name)).flatMap sCells) ∧ w'.ownsRow w.heap.size 9 1 v (dueL n L).length (((dueL n L).map (·.name)).flatMap sCells) ∧
    TAt w' p r n (goT n L es) ∧ MovS (TSet p r es) w w'
set_option maxRecDepth 100000 in
set_option maxHeartbeats 2000000 in
theorem go_any (N : Nat) (hN : N ≤ 1000000) (HS : Stable N) (p r : Nat) (now : Int) (es : List (Nat × Th)) (L : List Th) (n : Int) (w : World) (h : TAt w p r now es) (hL : IsL L es) (hlen : es.length ≤ N) (hper : ∀ e ∈ es, 0 ≤ e.2.period ∧ e.2.period ≤ 1000000) (hn1 : now ≤ n) (hn2 : n ≤ 2147483647) (hn0 : 0 ≤ n) :
    Calls Try.prog 13 #[.pointer (some ⟨p, 0, none⟩), .int .i64 n] w (GoPost p r n L es w) := by
  have hb := bl_alloc (Below.refl w.heap.size w) (.cells #[.int .i64 n] 2)
  obtain ⟨c0, c1⟩ := (h.below hb).cells
  have HN := Lib.hid (none_no p r _ c1)
  have H1 := Lib.hid (h.below hb)
  have f0 : (w.alloc (.cells #[.int .i64 n] 2)).frozen? ⟨p, 0, none⟩ = false := by simp [World.frozen?, H1.out.own]
  have HMP : Hid (p < w.heap.size ∧ r < w.heap.size ∧ ∀ i, TSet p r es i → i < w.heap.size) := Lib.hid ⟨h.lt p (.inl rfl), h.lt r (.inr (.inl rfl)), h.lt⟩
  have HLL := Lib.hid hL
  have HLEN := Lib.hid hlen
  have HPER := Lib.hid hper
  have HNN := Lib.hid hN
  have HST := Lib.hid HS
  have HNM := Lib.hid h.names
  have hd1 : decide (n < now) = false := by simp; omega
  have hd2 : decide (2147483647 < n) = false := by simp; omega
  obtain ⟨R, hR⟩ : ∃ R : Ending → World → Prop, R = GoPost p r n L es w := ⟨_, rfl⟩
  rw [← hR]
  have HR := Lib.hid hR
  clear h hb c1 hL hlen hper hN HS hR
  go_enter Try.func13, Try.ntmps13
  go_upto_region 3 with (go_at_call 30; refine HN.out.mono ?_; rintro e w' ⟨rfl, rfl⟩)
  go_quiet (fail)
  go_upto_region 6 with fail
  have hT2 : TAt (((w.alloc (.cells #[.int .i64 n] 2)).drewN nq).setCell ⟨p, 0, none⟩ (.int .i64 n)) p r n es := (H1.out.below (bl_drewN (Below.refl _ _) nq)).at (heap_set (H1.out.below (bl_drewN (Below.refl _ _) nq)).own) fun i _ hi => heap_set_other hi
  have hM2 : MovS (TSet p r es) w (((w.alloc (.cells #[.int .i64 n] 2)).drewN nq).setCell ⟨p, 0, none⟩ (.int .i64 n)) := ((MovS.ofBelow (bl_alloc (Below.refl _ _) _)).then (bl_drewN (Below.refl _ _) nq)).set (.inr (.inl rfl))
  have hC2 : (((w.alloc (.cells #[.int .i64 n] 2)).drewN nq).setCell ⟨p, 0, none⟩ (.int .i64 n)).cell? ⟨w.heap.size, 0, none⟩ = some (.int .i64 n) := by
    have hp := HMP.out.1
    have h1 : ((w.alloc (.cells #[.int .i64 n] 2)).drewN nq).heap[w.heap.size]? = some (.cells #[.int .i64 n] 2 (0, 0)) := at_alloc rfl
    have h2 : w.heap.size ≠ p := by omega
    exact (cell_blk ((heap_set_other h2).trans h1)).trans rfl
  generalize (((w.alloc (.cells #[.int .i64 n] 2)).drewN nq).setCell ⟨p, 0, none⟩ (.int .i64 n)) = w2 at hT2 hM2 hC2 ⊢
  have HT2 := Lib.hid hT2
  have HM2 := Lib.hid hM2
  have HC2 := Lib.hid hC2
  have HALL := Lib.hid (allf_any p r n es L w2 hT2 HLL.out (by have := HNN.out; have := HLEN.out; omega))
  have eg := en_gone
  clear hT2 hM2 hC2 c0 f0 hd1 hd2
  go_upto_region 7 with (first | (go_at_call 23; refine HALL.out.mono ?_; rintro e w3 ⟨bs, u, rfl, hA⟩; have HA := Lib.hid hA; clear hA; have HSV := Lib.hid (sieved_any w2 w3 bs u L (by have := HLL.out.1.length_eq; have := HNN.out; have := HLEN.out; simp at *; omega) HA.out 33 #[.pointer (some ⟨w.heap.size, 0, none⟩)] en_gone (fun x => decide (x.forgot ≤ n)) (fun W hW x => gone_pred n _ x W (bl_cell (HA.out.2.2.2.trans (hW.mono HA.out.2.2.2.size)) HC2.out)))) | (go_at_call 32; refine HSV.out.mono ?_; rintro e w4 ⟨⟨v4, rfl, hown4⟩, hb4⟩; have HO4 := Lib.hid hown4; have HB4 := Lib.hid hb4; clear hown4 hb4))
  have hlf : (L.filter fun x => decide (x.forgot ≤ n)).length ≤ N := by have h1 := List.length_filter_le (fun x : Th => decide (x.forgot ≤ n)) L; have h2 := HLL.out.1.length_eq; have := HLEN.out; simp at h2; omega
  have HSO := Lib.hid (HST.out w3.heap.size v4 _ w4 HO4.out HB4.out.size hlf (HLL.out.2.filter _))
  clear hlf
  go_upto_region 8 with (go_at_call 34; refine HSO.out.mono ?_; rintro e w5 ⟨rfl, ⟨G, hG, hown5⟩, hb5⟩; have HG := Lib.hid hG; have HO5 := Lib.hid hown5; have HB5 := Lib.hid hb5; clear hG hown5 hb5)
  have hW5 : Below w2.heap.size w2 w5 := (HA.out.2.2.2.trans (HB4.out.mono HA.out.2.2.2.size)).trans (HB5.out.mono HA.out.2.2.2.size)
  have HW5 := Lib.hid hW5
  have HT5 := Lib.hid (HT2.out.below hW5)
  have HC5 := Lib.hid (bl_cell hW5 HC2.out)
  have hz : w.heap.size ≤ w3.heap.size := Nat.le_trans HM2.out.size HA.out.2.2.2.size
  have HZ3 := Lib.hid hz
  have hnd : (G.map (·.name)).Nodup := List.pairwise_map.2 (name_ne (HLL.out.2.filter _) HG.out.1)
  have HND := Lib.hid hnd
  have hGl : G.length ≤ N := by have h1 := HG.out.1.length_eq; have h3 := List.length_filter_le (fun x : Th => decide (x.forgot ≤ n)) L; have h2 := HLL.out.1.length_eq; have := HLEN.out; simp at h2; omega
  have HGL := Lib.hid hGl
  obtain ⟨A5, k5, rfl⟩ := own_form HO5.out
  clear hW5 hz hnd hGl eg
  go_wp2_with fail
  go_loopg [41] (G.length + 1) (fun gg s41 wr => ∃ k : Nat, k ≤ G.length ∧ G.length - k ≤ gg ∧ s41 = .int .i64 k ∧ Aside (TAt wr p r n (delT es (G.take k))) ∧ Aside (MovS (TSet p r es) w5 wr))
  case atStart => exact ⟨0, by omega, by omega, rfl, by rw [List.take_zero, delT_nil]; exact HT5.out, MovS.refl _ _⟩
  case round =>
    obtain ⟨k, hk, hgg, rfl, HT, HM⟩ := hrel
    have hown := HM.out.own HO5.out (fun i hi => by have := HMP.out.2.2 i hi; have := HZ3.out; omega)
    have HOW := Lib.hid hown
    by_cases hlt : k < G.length
    · have hltz : (k : Int) < (G.length : Int) := by omega
      have hlm : (G.length : Int) < 9223372036854775807 := by have := HGL.out; have := HNN.out; omega
      have hgk : G[k]? = some G[k] := List.getElem?_eq_getElem hlt
      generalize G[k] = x at hgk
      rcases own_sat hown with ⟨h1, h2⟩ | ⟨b, o, c', h1, _, _, hrow⟩
      · subst h2; simp at hlt
      · simp only [Value.slice.injEq] at h1
        obtain ⟨rfl, -, rfl⟩ := h1
        obtain ⟨c0, c1, c2, c3⟩ := th_row hrow hgk
        have HK := Lib.hid hgk
        have hba := bl_alloc (Below.refl wr.heap.size wr) (.cells #[.string x.name, .int .i64 x.period, .int .i64 x.next, .int .i64 x.forgot] 35)
        obtain ⟨e0, e1⟩ := (HT.out.below hba).cells
        have HT1 := Lib.hid (HT.out.below hba)
        have HM1 := Lib.hid (HM.out.then hba)
        obtain ⟨x0, x1, x2, x3, -, -, -, -⟩ := cells4 (at_alloc (w := wr) (o := .cells #[.string x.name, .int .i64 x.period, .int .i64 x.next, .int .i64 x.forgot] 35) rfl)
        clear hrow hgk hown hba
        go_upto_region 11 with fail
        generalize wr.alloc (.cells #[.string x.name, .int .i64 x.period, .int .i64 x.next, .int .i64 x.forgot] 35) = w1 at e0 e1 HT1 HM1 x0 x1 x2 x3 ⊢
        go_still_tail 6, (by kernel_rfl)
        change wpList _ _ _ _ _ w1.drew
        refine wpList_delete rfl _ _ rfl klawS Try.underlying63 HT1.out.drew.map x.name (by go_simp) (by go_simp) ?_
        intro w8 hm8 hg8 hz8
        obtain ⟨t8, m8⟩ := HT1.out.drew.deleted hm8 hg8
        rw [delT_snoc, take_snoc' HK.out] at t8
        have HT8 := Lib.hid t8
        have HM8 := Lib.hid ((HM1.out.then (bl_drew (Below.refl _ _))).trans m8 (fun i _ hi => by
          rcases hi with h | h | h
          · exact .inl h
          · exact .inr (.inl h)
          · exact .inr (.inr ((List.Sublist.map _ List.filter_sublist).mem h))))
        clear t8 m8 hm8 hg8 hz8
        go_wp2_with fail
        go_roundg (G.length - (k + 1))
        case measure => omega
        case rel => exact ⟨k + 1, by omega, by omega, by go_num, HT8.out, HM8.out⟩
    · obtain rfl : k = G.length := by omega
      have hltz : ¬ ((G.length : Nat) : Int) < ((G.length : Nat) : Int) := by omega
      have hgone := delT_gone HNM.out HLL.out HG.out
      have hT := HT.out
      rw [List.take_length, hgone] at hT
      have HTA := Lib.hid hT
      have HMA := Lib.hid (HM2.out.then HW5.out |>.trans HM.out (fun _ _ h => h))
      have HCA := Lib.hid (HM.out.cell HC5.out (fun hi => by have := HMP.out.2.2 _ hi; omega))
      have hL1 := isL_filter HLL.out (fun x => !decide (x.forgot ≤ n))
      have HL1 := Lib.hid hL1
      have hes1 : (es.filter fun e => !decide (e.2.forgot ≤ n)).length ≤ N := by have h1 := List.length_filter_le (fun e : Nat × Th => !decide (e.2.forgot ≤ n)) es; have := HLEN.out; omega
      have HES1 := Lib.hid hes1
      have HALL2 := Lib.hid (allf_any p r n _ _ wr hT hL1 (by have := HNN.out; omega))
      have eg2 := en_due
      have HZA : Hid (w3.heap.size ≤ wr.heap.size) := Lib.hid (Nat.le_trans HB4.out.size (Nat.le_trans HB5.out.size HM.out.size))
      obtain ⟨wa, hwa⟩ : ∃ wa, wa = wr := ⟨_, rfl⟩
      subst hwa
      clear hgone hT hL1 hes1 hown HALL HSV HSO HN HT HM H1 HT2 HT5
      go_upto_region 14 with (first | (go_at_call 23; refine HALL2.out.mono ?_; rintro e wb ⟨bs2, u2, rfl, hA⟩; have HA2 := Lib.hid hA; clear hA; have HSV2 := Lib.hid (sieved_any _ wb bs2 u2 _ (by have := HL1.out.1.length_eq; have := HES1.out; have := HNN.out; simp at *; omega) HA2.out 37 #[.pointer (some ⟨w.heap.size, 0, none⟩)] en_due (fun x => decide (x.next ≤ n)) (fun W hW x => due_pred n _ x W (bl_cell (HA2.out.2.2.2.trans (hW.mono HA2.out.2.2.2.size)) HCA.out)))) | (go_at_call 32; refine HSV2.out.mono ?_; rintro e wc ⟨⟨vc, rfl, hownc⟩, hbc⟩; have HOC := Lib.hid hownc; have HBC := Lib.hid hbc; clear hownc hbc))
      have hWC : Below wa.heap.size wa wc := HA2.out.2.2.2.trans (HBC.out.mono HA2.out.2.2.2.size)
      have HTC := Lib.hid (HTA.out.below hWC)
      have HMC := Lib.hid (HMA.out.then hWC)
      have HCC := Lib.hid (bl_cell hWC HCA.out)
      have HOG := Lib.hid (own_lies HOW.out hWC)
      have hzb : w.heap.size ≤ wb.heap.size := by have := HA2.out.2.2.2.size; have := HZA.out; have := HZ3.out; omega
      have HZB := Lib.hid hzb
      obtain ⟨es1, hes1⟩ : ∃ es1, es1 = es.filter fun e => !decide (e.2.forgot ≤ n) := ⟨_, rfl⟩
      obtain ⟨D, hD⟩ : ∃ D, D = dueL n L := ⟨_, rfl⟩
      have hDe : (L.filter fun x => !decide (x.forgot ≤ n)).filter (fun x => decide (x.next ≤ n)) = D := hD.symm
      rw [hDe] at HOC
      rw [← hes1] at HTC HL1 HES1
      have hsub1 : ∀ e ∈ es1, e ∈ es := fun e he => by rw [hes1] at he; exact (List.mem_filter.1 he).1
      have hDm : ∀ x ∈ D, ∃ b, (b, x) ∈ es1 := fun x hx => by
        rw [← hDe] at hx
        exact (isL_mem HL1.out).1 (List.mem_filter.1 hx).1
      have hDn : D.Pairwise fun a b => a.name ≠ b.name := by
        rw [← hDe]
        exact name_ne ((HL1.out.2).filter _) (List.Perm.refl _)
      have hDl : D.length ≤ N := by
        have h1 := List.length_filter_le (fun x : Th => decide (x.next ≤ n)) (L.filter fun x => !decide (x.forgot ≤ n))
        rw [hDe] at h1
        have h2 := HL1.out.1.length_eq
        have := HES1.out
        simp only [List.length_map] at h2
        omega
      have HDM := Lib.hid hDm
      have HDN := Lib.hid hDn
      have HDL := Lib.hid hDl
      have HDD := Lib.hid hD
      have HE1 := Lib.hid hes1
      have HSUB := Lib.hid hsub1
      obtain ⟨A6, k6, rfl⟩ := own_form HOC.out
      clear hWC hzb hDe hD hes1 hsub1 hDm hDn hDl HALL2 HSV2 eg2 HOW HTA HMA HCA
      go_wp2_with fail
      go_loopg [58] (D.length + 1) (fun gg s58 wr => ∃ k : Nat, k ≤ D.length ∧ D.length - k ≤ gg ∧ s58 = .int .i64 k ∧ Aside (TAt wr p r n (dueT n (D.take k) es1)) ∧ Aside (MovS (TSet p r es) wc wr))
      case atStart => exact ⟨0, by omega, by omega, rfl, by rw [List.take_zero, dueT_nil]; exact HTC.out, MovS.refl _ _⟩
      case round =>
        obtain ⟨k, hk, hgg, rfl, HT, HM⟩ := hrel
        have hown := HM.out.own HOC.out (fun i hi => by have := HMP.out.2.2 i hi; have := HZB.out; omega)
        have HOW := Lib.hid hown
        by_cases hlt : k < D.length
        · have hltz : (k : Int) < (D.length : Int) := by omega
          have hlm : (D.length : Int) < 9223372036854775807 := by have := HDL.out; have := HNN.out; omega
          have hgk : D[k]? = some D[k] := List.getElem?_eq_getElem hlt
          generalize D[k] = x at hgk
          rcases own_sat hown with ⟨h1, h2⟩ | ⟨b, o, c', h1, _, _, hrow⟩
          · subst h2; simp at hlt
          · simp only [Value.slice.injEq] at h1
            obtain ⟨rfl, -, rfl⟩ := h1
            obtain ⟨c0, c1, c2, c3⟩ := th_row hrow hgk
            have HK := Lib.hid hgk
            have hba := bl_alloc (Below.refl wr.heap.size wr) (.cells #[.string x.name, .int .i64 x.period, .int .i64 x.next, .int .i64 x.forgot] 35)
            obtain ⟨e0, e1⟩ := (HT.out.below hba).cells
            have HT1 := Lib.hid (HT.out.below hba)
            have HM1 := Lib.hid (HM.out.then hba)
            obtain ⟨x0, x1, x2, x3, -, -, -, -⟩ := cells4 (at_alloc (w := wr) (o := .cells #[.string x.name, .int .i64 x.period, .int .i64 x.next, .int .i64 x.forgot] 35) rfl)
            have hcn := bl_cell hba (HM.out.cell HCC.out (fun hi => by have := HMP.out.2.2 _ hi; omega))
            obtain ⟨bx, hbx⟩ := HDM.out x (List.mem_of_getElem? hgk)
            have hne : ∀ y ∈ D.take k, y.name ≠ x.name := fun y hy => by
              obtain ⟨j, hj⟩ := List.getElem?_of_mem hy
              have hjk : j < k := by have := (List.getElem?_eq_some_iff.1 hj).1; simp at this; omega
              rw [List.getElem?_take_of_lt hjk] at hj
              obtain ⟨hjl, rfl⟩ := List.getElem?_eq_some_iff.1 hj
              obtain ⟨hkl, rfl⟩ := List.getElem?_eq_some_iff.1 hgk
              exact (List.pairwise_iff_getElem.1 HDN.out) j k hjl hkl hjk
            have hn1 : (es1.map (·.2.name)).Nodup := by
              rw [HE1.out]
              exact (List.Sublist.map _ List.filter_sublist).nodup HNM.out
            have hget := dueT_get (n := n) hn1 hbx hne
            have hlk := look_T HT1.out.drew x.name
            rw [hget] at hlk
            simp only [Option.map_some, Option.getD_some] at hlk
            have hmem := (getT_mem hget).1
            obtain ⟨⟨d0, d1, d2, d3⟩, hfz⟩ := at_thing HT1.out hmem
            have f2 := hfz 2
            have hper := HPER.out _ (HSUB.out _ hbx)
            have hw1 : wrap64 (n + x.period) = n + x.period := wrap_in (by simp only at hper; omega)
            have HW : Hid (IntKind.i64.wrap (n + x.period) = n + x.period) := Lib.hid (by rw [IntKind.wrap_i64]; simp only at hper; omega)
            have HME := Lib.hid hmem
            have HBX := Lib.hid (And.intro hbx (And.intro hne hn1))
            have HIN : Hid (TSet p r es bx) := Lib.hid (.inr (.inr (List.mem_map.2 ⟨_, HSUB.out _ hbx, rfl⟩)))
            clear hrow hgk hown hba hne hn1 hget hmem hfz hper hbx
            go_upto_region 17 with fail
            generalize wr.alloc (.cells #[.string x.name, .int .i64 x.period, .int .i64 x.next, .int .i64 x.forgot] 35) = w1 at e0 e1 HT1 HM1 x0 x1 x2 x3 hcn hlk d0 d1 d2 d3 f2 HME ⊢
            go_still_tail 13, (by kernel_rfl)
            change wpList _ _ _ _ _ w1.drew
            have ht7 := set_next HT1.out.drew HME.out (n + x.period)
            rw [dueT_snoc HBX.out.2.2 (by have := HTC.out.nodup; exact this) HBX.out.1 HBX.out.2.1, take_snoc' HK.out] at ht7
            have hm7 := (HM1.out.then (bl_drew (Below.refl _ _))).set (q := ⟨bx, 2, none⟩) (v := .int .i64 (n + x.period)) (.inr HIN.out)
            have HT7 := Lib.hid ht7
            have HM7 := Lib.hid hm7
            clear ht7 hm7
            try rw [HW.out]
            go_wp2_with fail
            go_roundg (D.length - (k + 1))
            case measure => omega
            case rel => exact ⟨k + 1, by omega, by omega, by go_num, HT7.out, HM7.out⟩
        · obtain rfl : k = D.length := by omega
          have hltz : ¬ ((D.length : Nat) : Int) < ((D.length : Nat) : Int) := by omega
          have hTf := HT.out
          rw [List.take_length, HE1.out, HDD.out] at hTf
          have HTF := Lib.hid hTf
          have HMF := Lib.hid (HMC.out.trans HM.out (fun _ _ h => h))
          have hG := HM.out.own HOG.out (fun i hi => by have := HMP.out.2.2 i hi; have := HZ3.out; omega)
          have hn1 := Lib.hid (names_any _ G wr (own_sat hG) (by have := HGL.out; have := HNN.out; omega))
          have hn2 := Lib.hid (fun wd (hwd : Below wr.heap.size wr wd) => names_any _ D wd (own_sat (own_lies HOW.out hwd)) (by have := HDL.out; have := HNN.out; omega))
          have hzr : w.heap.size ≤ wr.heap.size := HMF.out.size
          have HZR := Lib.hid hzr
          clear hTf hG hzr hown
          go_wp2_with (first | (go_at_call 38; refine hn1.out.mono ?_; rintro e wd ⟨⟨u1, rfl, ho1⟩, hb1⟩; have HO1 := Lib.hid ho1; have HB1 := Lib.hid hb1; clear ho1 hb1 hn1) | (go_at_call 38; refine (hn2.out _ HB1.out).mono ?_; rintro e we ⟨⟨u2, rfl, ho2⟩, hb2⟩; have HO2 := Lib.hid ho2; have HB2 := Lib.hid hb2; clear ho2 hb2))
          refine bodyPost_ret (v := .tuple #[u1, u2, .int .i64 0]) (by simp [results, Try.results13, go_sem]) rfl ?_
          rw [HR.out]
          refine ⟨G, u1, u2, HG.out, rfl, own_mono (own_lies HO1.out HB2.out) HZR.out, ?_, (HTF.out.below HB1.out).below HB2.out, (HMF.out.then HB1.out).then HB2.out⟩
          rw [← HDD.out]
          exact own_mono HO2.out (Nat.le_trans HZR.out HB1.out.size)
end Go.Proofs.Ytojeombljhmkaaa
