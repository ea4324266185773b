/- Topo: the statement TopoOrder's walk. -/
import Derived.Test.YtfifmkjidljeeaaTopoG
import Derived.Test.YtfifmkjidljeeaaTopoP
namespace Go.Proofs.Ytfifmkjidljeeaa
open Go.RowKit Go.Shelf

theorem rev_get {ls : List Lk} {m : Nat} {l : Lk} (hl : ls[m]? = some l) : ls.reverse[ls.length - 1 - m]? = some l := by
  have hm : m < ls.length := (List.getElem?_eq_some_iff.1 hl).1
  rw [List.getElem?_reverse (by omega), show ls.length - 1 - (ls.length - 1 - m) = m by omega]
  exact hl
theorem take_rev_snoc {ls : List Lk} {m : Nat} {l : Lk} (hl : ls[m]? = some l) : (ls.reverse.take (ls.length - (m + 1))).flatMap Lk.cells ++ l.cells = (ls.reverse.take (ls.length - m)).flatMap Lk.cells := by
  obtain ⟨hm, rfl⟩ := List.getElem?_eq_some_iff.1 hl
  rw [show ls.length - m = (ls.length - (m + 1)) + 1 by omega, List.take_succ_eq_append_getElem (by simp; omega), List.flatMap_append, List.getElem_reverse]
  simp only [List.flatMap_cons, List.flatMap_nil, List.append_nil]
  congr 3
  omega

set_option maxRecDepth 100000 in
set_option maxHeartbeats 2000000 in
theorem topoOrder_any (nodes : Int) (v : Value) (ls : List Lk) (x y : Int) (w : World) (h : SAt Lk.cells 8 w v ls) :
    Calls Try.prog 4 #[.int .i64 nodes, v, .agg #[.int .i64 x, .int .i64 y]] w fun e w' => e = .returned (.bool true) ∧ Below w.heap.size w w' := by
  obtain ⟨A, c, rfl⟩ := h.slice
  have hlen0 := h.len
  unfold maxLen at hlen0
  obtain ⟨i0, hi, hz0, hz1, hz2⟩ := info_parts info_lk
  by_cases hlen : 60 < ls.length
  · clear h
    go_enter Try.func4, Try.ntmps4
    go_wp2_with (go_at_call 10; refine (known_any _).mono ?_; rintro e w3 ⟨rfl, hb3⟩)
    go_ret
    exact ⟨rfl, (bl_alloc (Below.refl _ _) _).trans (hb3.mono (by simp))⟩
  · have hlz : (ls.length : Int) ≤ 60 := by omega
    have hlB : decide (60 < (ls.length : Int)) = false := decide_eq_false (by omega)
    have H := Lib.hid h
    clear h hlen hlen0
    go_enter Try.func4, Try.ntmps4
    go_wp2_with fail
    have ga0 : (w.alloc (.cells #[.int .i64 x, .int .i64 y] 29)).cell? ⟨w.heap.size, 0, none⟩ = some (.int .i64 x) := by go_simp
    have ga1 : (w.alloc (.cells #[.int .i64 x, .int .i64 y] 29)).cell? ⟨w.heap.size, 1, none⟩ = some (.int .i64 y) := by go_simp
    generalize hW0 : w.alloc (.cells #[.int .i64 x, .int .i64 y] 29) = W0 at ga0 ga1 ⊢
    have hW0s : W0.heap.size = w.heap.size + 1 := by rw [← hW0]; simp
    have hW0b : Below w.heap.size w W0 := hW0 ▸ bl_alloc (Below.refl _ _) _
    have HS0 := Lib.hid hW0s
    have HB0 := Lib.hid hW0b
    have GA0 := Lib.hid ga0
    have GA1 := Lib.hid ga1
    clear hW0 hW0s hW0b ga0 ga1
    go_loopg [7, 8] (ls.length + 1) (fun gg s7 s8 wr => ∃ j : Int, -1 ≤ j ∧ j < ls.length ∧ (j + 1).toNat ≤ gg ∧ s8 = .int .i64 j ∧ Aside (wr.ownsRow (w.heap.size + 1) 23 8 s7 (ls.length - (j + 1).toNat) ((ls.reverse.take (ls.length - (j + 1).toNat)).flatMap Lk.cells)) ∧ Aside (Below W0.heap.size W0 wr))
    case atStart => exact ⟨(ls.length : Int) - 1, by omega, by omega, by omega, rfl, ⟨by simp, Or.inl ⟨rfl, by omega⟩⟩, Below.refl _ _⟩
    case round =>
      obtain ⟨j, hj1, hj2, hgg, rfl, HO, HB⟩ := hrel
      by_cases hj0 : 0 ≤ j
      · obtain ⟨m, rfl⟩ := Int.eq_ofNat_of_zero_le hj0
        have hm : m < ls.length := by omega
        have hgk : ls[m]? = some ls[m] := List.getElem?_eq_getElem hm
        generalize ls[m] = l at hgk
        have HK := Lib.hid hgk
        have hbW : Below w.heap.size w wr := HB0.out.trans (HB.out.mono (by rw [HS0.out]; omega))
        rcases H.out.below hbW with ⟨h1, h2⟩ | ⟨b, o, c', h1, _, _, hrow⟩
        · subst h2; simp at hm
        · have hA : A = some ⟨b, o, none⟩ := by injection h1
          obtain ⟨e0, e1, e2, e3, e4, e5, e6, e7⟩ := LkAt.ofRow hrow hgk
          have hbs : b < wr.heap.size := World.block_lt_of_cell? wr ⟨b, o + m * 8, none⟩ e0
          subst hA
          have hsz := HB.out.size
          rw [HS0.out] at hsz
          have HSZ := Lib.hid hsz
          clear h1 hrow hgk hsz
          have hmz : (m : Int) < (ls.length : Int) := by omega
          go_wp2_with (at_builtin; refine wpList_append_own _ rfl _ _ 28 rfl (w.heap.size + 1) 23 i0 _ 8 64 Try.underlying28 hi hz0 hz1 hz2 rfl (by decide) _ _ _ rfl (HO.out.alloc _) ⟨wr.heap.size, 0, none⟩ 1 1 l.cells rfl rfl ?qc2 ?qc3 ?qc4 ?qc5 ?qc6 ?_)
          case qc2 => exact fun j' u hj' => by rw [Addr.add_lit]; exact RowAt.flat (enc := Lk.cells) (k := 8) (fun _ => rfl) (rowAt_new (enc := Lk.cells) (k := 8) (fun _ => rfl) wr 23 [l] (b := wr.heap.size) rfl rfl) j' u (by simpa using hj')
          case qc3 => exact fun u hu => by simp [Lk.cells] at hu; rcases hu with rfl | rfl | rfl | rfl | rfl | rfl | rfl | rfl <;> rfl
          case qc4 => unfold maxLen; omega
          case qc5 => omega
          case qc6 => have := HSZ.out; simp; omega
          intro v' w1 hown' hgrow _
          have HO2 := Lib.hid hown'
          have HG2 := Lib.hid hgrow
          clear hown' hgrow
          go_wp2_with fail
          go_roundg m
          case measure => omega
          case rel =>
            have h1 := HO2.out
            refine ⟨(m : Int) - 1, by omega, by omega, by omega, rfl, ?_, ?_⟩
            · show Aside _
              rw [show ((m : Int) - 1 + 1).toNat = m by omega, ← take_rev_snoc HK.out]
              have : ls.length - m = ls.length - ((m : Int) + 1).toNat + 1 := by omega
              rw [this, show ls.length - (m + 1) = ls.length - ((m : Int) + 1).toNat by omega]
              exact h1
            · exact (HB.out.alloc HB.out.size _).grown HG2.out (Nat.le_trans HB.out.size (by simp)) (by intro k hk; rw [HS0.out]; exact (HO.out.lt k hk).1)
      · have hjm : j = -1 := by omega
        subst hjm
        have hown := HO.out
        rw [show ls.length - ((-1 : Int) + 1).toNat = ls.length by simp, show ls.reverse.take ls.length = ls.reverse from by rw [← List.length_reverse, List.take_length]] at hown
        have hrev : SAt Lk.cells 8 wr _ ls.reverse := SAt.ofOwn (n := ls.length) (base := w.heap.size + 1) (e := 23) (fun _ => rfl) (by simp) hown
        have hbW : Below w.heap.size w wr := HB0.out.trans (HB.out.mono (by rw [HS0.out]; omega))
        have hv := H.out.below hbW
        have hbw0 : w.heap.size < W0.heap.size := by rw [HS0.out]; omega
        have ga0 : wr.cell? ⟨w.heap.size, 0, none⟩ = some (.int .i64 x) := (HB.out.cell (p := ⟨w.heap.size, 0, none⟩) hbw0).trans GA0.out
        have ga1 : wr.cell? ⟨w.heap.size, 1, none⟩ = some (.int .i64 y) := (HB.out.cell (p := ⟨w.heap.size, 1, none⟩) hbw0).trans GA1.out
        clear hown
        have HREV := Lib.hid hrev
        have HV := Lib.hid hv
        have HBW := Lib.hid hbW
        clear hrev hv hbW hbw0 HO HB
        obtain ⟨A7, c7, rfl⟩ := HREV.out.slice
        rw [List.length_reverse] at HREV
        go_wp2_with fail
        refine (new_any nodes _ ls _ HV.out (by omega)).mono ?_
        rintro e w1 hp1
        by_cases he : newErr nodes ls = 0
        · rcases hp1 with ⟨_, q1, rfl, hT1, hb1⟩ | ⟨h, _⟩
          · have HE := Lib.hid he
            have hr1 := HREV.out.below hb1
            clear he
            go_wp2_with fail
            refine (new_any nodes _ ls.reverse _ hr1 (by simp; omega)).mono ?_
            rintro e w2 hp2
            rcases hp2 with ⟨_, q2, rfl, hT2, hb2⟩ | ⟨h, _⟩
            · clear hr1
              have g0 := bl_cell hb2 (bl_cell hb1 ga0)
              have g1 := bl_cell hb2 (bl_cell hb1 ga1)
              have hq1 := hT1.below hb2
              clear ga0 ga1 hT1
              have HB2 := Lib.hid (bl_then (bl_then HBW.out hb1) hb2)
              have HV2 := Lib.hid ((HV.out.below hb1).below hb2)
              clear hb1 hb2
              obtain ⟨z1, z2, z3, ha, z5⟩ := newErr_zero HE.out
              have hn16 : 1 ≤ nodes ∧ nodes ≤ 16 := by simpa [wi] using z1
              obtain ⟨hn1, hn2⟩ := hn16
              clear z1 z2 z5
              have hbet1 := between_any q1 nodes ls x y _ hq1
              have hbet2 := between_any q2 nodes ls.reverse x y _ hT2
              cases hp : pos ls x y with
              | none =>
                have e1 : btw ls x y = none := by rw [btw_pos, hp]; rfl
                have e2 : btw ls.reverse x y = none := by rw [btw_pos, pos_reverse_none hp]; rfl
                rw [e1] at hbet1
                rw [e2] at hbet2
                have E1 := Lib.hid e1
                clear e1 e2 hp
                go_wp2_with fail
                refine hbet1.mono ?_
                rintro e w' ⟨rfl, rfl⟩
                go_wp2_with fail
                refine hbet2.mono ?_
                rintro e w' ⟨rfl, rfl⟩
                clear hbet1 hbet2
                go_wp2_with fail
                refine (new_any (nodes + 1) _ ls _ HV2.out (by omega)).mono ?_
                rintro e w3 hp3
                rcases newErr_more HE.out with hm | ⟨hm, hn⟩
                · rcases hp3 with ⟨_, q3, rfl, hT3, hb3⟩ | ⟨h, _⟩
                  · have g0 := bl_cell hb3 g0
                    have g1 := bl_cell hb3 g1
                    have hbet3 := between_any q3 (nodes + 1) ls x y _ hT3
                    rw [E1.out] at hbet3
                    go_wp2_with fail
                    refine hbet3.mono ?_
                    rintro e w' ⟨rfl, rfl⟩
                    go_wp2_with (first | (go_at_call 10; refine (known_any _).mono ?_; rintro e w4 ⟨rfl, hb4⟩) | (go_at_call 14; refine (len_any q3 (nodes + 1) ls _ hT3).mono ?_; rintro e w' ⟨rfl, rfl⟩))
                    go_ret
                    exact ⟨rfl, bl_then (bl_then HB2.out hb3) hb4⟩
                  · exact absurd hm h
                · rcases hp3 with ⟨h, _⟩ | ⟨_, rfl, hb3⟩
                  · exact absurd h hm
                  · have hz : (newErr (nodes + 1) ls != 0) = true := by simpa using hm
                    generalize newErr (nodes + 1) ls = er at hz
                    subst hn
                    clear hm
                    go_wp2_with (go_at_call 10; refine (known_any _).mono ?_; rintro e w4 ⟨rfl, hb4⟩)
                    go_ret
                    exact ⟨rfl, bl_then (bl_then HB2.out hb3) hb4⟩
              | some m =>
                obtain ⟨hml, hpr⟩ := pos_reverse ha hp
                obtain ⟨l, hl, rfl, rfl⟩ := pos_some hp
                have hlr := rev_get hl
                obtain ⟨k, hk⟩ : ∃ k, k = ls.length - 1 - m := ⟨_, rfl⟩
                rw [← hk] at hlr hpr
                have hk2 : m + k + 1 = ls.length := by omega
                have hbz : ((m : Int) + (k : Int) != (ls.length : Int) - 1) = false := by simp; omega
                have hm48 : (m : Int) ≤ 48 := by omega
                have hk48 : (k : Int) ≤ 48 := by omega
                have e1 : btw ls l.a l.b = some (.int .i64 m) := by rw [btw_pos, hp]; rfl
                have e2 : btw ls.reverse l.a l.b = some (.int .i64 k) := by rw [btw_pos, hpr]; rfl
                rw [e1] at hbet1
                rw [e2] at hbet2
                have E1 := Lib.hid e1
                have HL := Lib.hid hl
                have HLR := Lib.hid hlr
                clear e1 e2 hp hpr hl hlr hk hk2
                go_wp2_with fail
                refine hbet1.mono ?_
                rintro e w' ⟨rfl, rfl⟩
                go_wp2_with fail
                refine hbet2.mono ?_
                rintro e w' ⟨rfl, rfl⟩
                clear hbet1 hbet2
                go_wp2_with fail
                refine (link_yes q1 nodes ls m l _ hq1 HL.out).mono ?_
                rintro e w3 ⟨rfl, hb3⟩
                have hT2 := hT2.below hb3
                have g0 := bl_cell hb3 g0
                have g1 := bl_cell hb3 g1
                have hws : w.heap.size < w3.heap.size := World.block_lt_of_cell? w3 ⟨w.heap.size, 0, none⟩ g0
                clear hq1
                go_wp2_with fail
                refine (link_yes q2 nodes ls.reverse k l _ (hT2.below (bl_alloc (Below.refl _ _) _)) HLR.out).mono ?_
                rintro e w4 ⟨rfl, hb4⟩
                have hs4 := hb4.size
                simp at hs4
                have g0 := bl_cell ((bl_alloc (Below.refl w3.heap.size w3) _).trans (hb4.mono (by simp))) g0
                have g1 := bl_cell ((bl_alloc (Below.refl w3.heap.size w3) _).trans (hb4.mono (by simp))) g1
                have hL : LkAt w4 w3.heap.size 0 l := LkAt.below (by unfold LkAt; go_simp) hb4
                obtain ⟨c0, c1, c2, c3, c4, c5, c6, c7⟩ := hL
                have hw3 : w3.heap.size < w4.heap.size := by omega
                have hw4 : w.heap.size < w4.heap.size := by omega
                clear hT2
                have hB4 := bl_then hb3 ((bl_alloc (Below.refl w3.heap.size w3) _).trans (hb4.mono (by simp)))
                have HB4 := Lib.hid hB4
                have HV4 := Lib.hid (HV2.out.below hB4)
                clear hB4 hb3 hb4 hs4
                go_wp2_with fail
                clear c0 c1 c2 c3 c4 c5 c6 c7 hbz
                have hwa := bl_alloc (Below.refl w4.heap.size w4) (.cells #[.int .i64 l.a, .int .i64 l.b, .int .i64 l.c, .int .i64 l.d, .int .i64 l.e, .int .i64 l.f, .int .i64 l.g, .int .i64 l.h] 23)
                refine (new_any (nodes + 1) _ ls _ (HV4.out.below hwa) (by omega)).mono ?_
                rintro e w5 hp3
                rcases newErr_more HE.out with hm | ⟨hm, hn⟩
                · rcases hp3 with ⟨_, q3, rfl, hT3, hb5⟩ | ⟨h, _⟩
                  · have g0 := bl_cell hb5 (bl_cell hwa g0)
                    have g1 := bl_cell hb5 (bl_cell hwa g1)
                    have hbet3 := between_any q3 (nodes + 1) ls l.a l.b _ hT3
                    rw [E1.out] at hbet3
                    have HWA := Lib.hid (bl_then (bl_then (bl_then HB2.out HB4.out) hwa) hb5)
                    clear hwa hb5
                    go_wp2_with fail
                    refine hbet3.mono ?_
                    rintro e w' ⟨rfl, rfl⟩
                    go_wp2_with (first | (go_at_call 10; refine (known_any _).mono ?_; rintro e w6 ⟨rfl, hb6⟩) | (go_at_call 14; refine (len_any q3 (nodes + 1) ls _ hT3).mono ?_; rintro e w' ⟨rfl, rfl⟩))
                    go_ret
                    exact ⟨rfl, bl_then HWA.out hb6⟩
                  · exact absurd hm h
                · rcases hp3 with ⟨h, _⟩ | ⟨_, rfl, hb5⟩
                  · exact absurd h hm
                  · have hz : (newErr (nodes + 1) ls != 0) = true := by simpa using hm
                    generalize newErr (nodes + 1) ls = er at hz
                    have HWA := Lib.hid (bl_then (bl_then (bl_then HB2.out HB4.out) hwa) hb5)
                    subst hn
                    clear hm hwa hb5
                    go_wp2_with (go_at_call 10; refine (known_any _).mono ?_; rintro e w6 ⟨rfl, hb6⟩)
                    go_ret
                    exact ⟨rfl, bl_then HWA.out hb6⟩
            · rw [newErr_reverse, HE.out] at h
              exact absurd rfl h
          · exact absurd he h
        · rcases hp1 with ⟨h, _⟩ | ⟨_, rfl, hb1⟩
          · exact absurd h he
          · have hr1 := HREV.out.below hb1
            generalize hne : newErr nodes ls = er at he
            have HNE := Lib.hid hne
            have hz : (er == 0) = false := by simpa using he
            clear hne
            go_wp2_with fail
            refine (new_any nodes _ ls.reverse _ hr1 (by simp; omega)).mono ?_
            rintro e w2 hp2
            rcases hp2 with ⟨h, _⟩ | ⟨_, rfl, hb2⟩
            · rw [newErr_reverse, HNE.out] at h
              exact absurd h he
            · rw [newErr_reverse, HNE.out]
              clear hr1
              go_wp2_with (go_at_call 10; refine (known_any _).mono ?_; rintro e w3 ⟨rfl, hb3⟩)
              go_ret
              exact ⟨rfl, bl_then (bl_then (bl_then HBW.out hb1) hb2) hb3⟩
end Go.Proofs.Ytfifmkjidljeeaa
