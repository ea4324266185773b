/- Ledger: LedgerCopies. -/
import Derived.Test.YtfnijjjfodpnnaaLedAJ
import Derived.Test.YtfnijjjfodpnnaaLedAK
import Derived.Test.YtfnijjjfodpnnaaSized
namespace Go.Proofs.Ytfnijjjfodpnnaa
open Go.RowKit Go.Shelf
set_option linter.unusedVariables false
set_option linter.unusedSimpArgs false
theorem same_led (p r p2 r2 : Nat) (share room : Int) (es e2 : List En) (gs g2 : List Ling) (w : World) (h : LedgerAt w p r share room es gs) (h2 : LedgerAt w p2 r2 share room e2 g2) :
    Calls Try.prog 18 #[.pointer (some ⟨p, 0, none⟩), .pointer (some ⟨p2, 0, none⟩)] w fun e w' => e = .returned (.bool (eqE es e2 && eqS (stepsOf gs) (stepsOf g2))) ∧ Below w.heap.size w w' := by
  cases hq : eqE es e2 with
  | false => exact same_no p r p2 r2 share room es e2 gs g2 w h h2 hq
  | true => exact same_yes p r p2 r2 share room es e2 gs g2 w h h2 hq
/-- What a turn leaves, stored over what the document had. -/
theorem play_store {q : Nat} {wr w4 : World} {p r : Nat} {share room : Int} {es' er' es er : List En} {gs gs' : List Ling} {ve vl ve' vl' : Value} {n m : Nat} (hb : Both wr p r share room es er gs ve vl n) (ho : Off q wr p ve vl) (hpq : p ≠ q) (hrq : r ≠ q)
    (hbq : wr.heap[q]? = some (.cells #[.int .i64 share, .int .i64 room, ve, vl] 36 (0, 0))) (hm : Mov p r wr.drew w4) (h4 : Both w4 p r share room es' er' gs' ve' vl' m) (he : FarS wr.heap.size ve' ∨ ve' = ve) (hl : FarS wr.heap.size vl' ∨ vl' = vl) :
    w4.heap[q]? = some (.cells #[.int .i64 share, .int .i64 room, ve, vl] 36 (0, 0)) ∧
    ((((w4.setCell ⟨q, 0, none⟩ (.int .i64 share)).setCell ⟨q, 1, none⟩ (.int .i64 room)).setCell ⟨q, 2, none⟩ ve').setCell ⟨q, 3, none⟩ vl').heap[q]? = some (.cells #[.int .i64 share, .int .i64 room, ve', vl'] 36 (0, 0)) ∧
    Both ((((w4.setCell ⟨q, 0, none⟩ (.int .i64 share)).setCell ⟨q, 1, none⟩ (.int .i64 room)).setCell ⟨q, 2, none⟩ ve').setCell ⟨q, 3, none⟩ vl') p r share room es' er' gs' ve' vl' m ∧
    Off q ((((w4.setCell ⟨q, 0, none⟩ (.int .i64 share)).setCell ⟨q, 1, none⟩ (.int .i64 room)).setCell ⟨q, 2, none⟩ ve').setCell ⟨q, 3, none⟩ vl') p ve' vl' := by
  have hlt := hb.led.lt
  have hq : q < wr.heap.size := (Array.getElem?_eq_some_iff.1 hbq).1
  have ho4 : Off q w4 p ve' vl' := Off.step (w := wr.drew) (r := r) ⟨ho.e, ho.l, ho.v⟩ hq hm hlt.1 hlt.2.2 he hl
  have hq4 := (hm.block q hq (Ne.symm hpq) (Ne.symm hrq)).trans hbq
  exact ⟨hq4, set4_blk hq4, h4.set ho4 hpq hrq, ho4.set hpq⟩
theorem bl_set4 {B q : Nat} {w W : World} (h : Below B w W) (hq : B ≤ q) (a0 a1 a2 a3 : Value) : Below B w ((((W.setCell ⟨q, 0, none⟩ a0).setCell ⟨q, 1, none⟩ a1).setCell ⟨q, 2, none⟩ a2).setCell ⟨q, 3, none⟩ a3) :=
  bl_set (bl_set (bl_set (bl_set h hq _) hq _) hq _) hq _
/-- Between the rounds on a copy: where none has been, it is as it was. -/
def CopyPlay (q : Nat) (w : World) (p r : Nat) (share room : Int) (n kk : Nat) (es0 : List En) (gs0 : List Ling) : Prop :=
  ∃ es er gs ve vl, w.heap[q]? = some (.cells #[.int .i64 share, .int .i64 room, ve, vl] 36 (0, 0)) ∧ Both w p r share room es er gs ve vl n ∧ Off q w p ve vl ∧ (kk = 0 → es = es0 ∧ gs = gs0)
set_option maxRecDepth 100000 in
set_option maxHeartbeats 4000000 in
theorem ledgerCopies_any (v1 v2 : Value) (ahead behind : List Turn) (now : Int) (w : World) (h1 : SAt Turn.cells 6 w v1 ahead) (h2 : SAt Turn.cells 6 w v2 behind) (hz : ahead.length + behind.length ≤ 281474976702464) :
    Calls Try.prog 8 #[v1, v2, .int .i64 now] w fun e w' => e = .returned (.bool true) ∧ Below w.heap.size w w' := by
  obtain ⟨A, c, rfl⟩ := h1.slice
  obtain ⟨B, d, rfl⟩ := h2.slice
  have hlen1 := h1.len
  have hlen2 := h2.len
  unfold maxLen at hlen1 hlen2
  have HS1 := Lib.hid h1
  have HS2 := Lib.hid h2
  have HG1 : Hid (∀ j, j < ahead.length → ahead[j]? = some (ahead.getD j Turn0)) := Lib.hid fun j hj => by simp [List.getD, hj]
  have HG2 : Hid (∀ j, j < behind.length → behind[j]? = some (behind.getD j Turn0)) := Lib.hid fun j hj => by simp [List.getD, hj]
  clear h1 h2
  by_cases hg : ahead.length + behind.length ≤ 60 ∧ 0 ≤ now ∧ now ≤ 4611686018427387904
  · obtain ⟨g1, g2, g3⟩ := hg
    have hadd : IntKind.i64.wrap ((ahead.length : Int) + (behind.length : Int)) = (ahead.length : Int) + (behind.length : Int) := IntWalk.i64_in _ (by omega)
    have k1 : ¬ 60 < (ahead.length : Int) + (behind.length : Int) := by omega
    have k2 : ¬ now < 0 := by omega
    have k3 : ¬ 4611686018427387904 < now := by omega
    have HWN : Hid (wi now 0 4611686018427387904 = true) := Lib.hid (by simp [wi]; omega)
    go_enter Try.func8, Try.ntmps8
    go_wp2_with fail
    refine (new_led 50 5000 _).mono ?_
    rintro e w1 ⟨hb1, ⟨h0, rfl⟩ | ⟨hok, p, r, rfl, hl1, hp, hr⟩⟩
    · exact absurd h0 (by decide)
    have HB1 := Lib.hid hb1
    have HL1 := Lib.hid hl1
    have hlt1 := hl1.lt
    clear hb1 hl1 hok
    go_wp2_with fail
    refine (new_ref 50 5000 _).mono ?_
    rintro e w2 ⟨rfl, hb2⟩
    rw [show newOk 50 5000 = true from rfl]
    have hpa : PlayAt w2.heap.size (w2.alloc (.cells #[.int .i64 50, .int .i64 5000, .slice none 0 0, .slice none 0 0] 36)) p r 50 5000 0 := by
      have hb := bl_alloc (Below.refl w2.heap.size w2) (.cells #[.int .i64 50, .int .i64 5000, .slice none 0 0, .slice none 0 0] 36)
      have hs := Both.start (HL1.out.below hb2)
      exact ⟨[], [], [], _, _, at_alloc rfl, hs.below hb, (both_off_new hs (Nat.le_refl _)).below hb hs.led.lt.1⟩
    have hz2 := hb2.size
    have HPA := Lib.hid hpa
    have HB3 : Hid (Below w.heap.size w (w2.alloc (.cells #[.int .i64 50, .int .i64 5000, .slice none 0 0, .slice none 0 0] 36))) := Lib.hid ((bl_then HB1.out hb2).alloc (bl_then HB1.out hb2).size _)
    have HSZ : Hid ((w2.alloc (.cells #[.int .i64 50, .int .i64 5000, .slice none 0 0, .slice none 0 0] 36)).heap.size = w2.heap.size + 1) := Lib.hid (by simp)
    have HZ1 := Lib.hid HB1.out.size
    clear hpa hb2
    go_upto_region 5 with fail
    obtain ⟨q, hq⟩ : ∃ q, q = w2.heap.size := ⟨_, rfl⟩
    rw [← hq] at HPA HSZ ⊢
    generalize (w2.alloc (.cells #[.int .i64 50, .int .i64 5000, .slice none 0 0, .slice none 0 0] 36)) = w3 at HPA HSZ HB3 ⊢
    have hz3 := HSZ.out
    have HQ : Hid (w.heap.size ≤ q ∧ p < q ∧ r < q ∧ p ≠ r ∧ w.heap.size ≤ p ∧ w.heap.size ≤ r) := Lib.hid (by have := HZ1.out; omega)
    clear hq hlt1 hp hr hz2
    obtain ⟨hq1, hq2, hq3, hq4, hq5, hq6⟩ := HQ.out
    go_wp2_with fail
    go_loopg [11] ahead.length (fun gg s11 wr => ∃ kk : Nat, kk ≤ ahead.length ∧ ahead.length - kk ≤ gg ∧ s11 = .int .i64 kk ∧ Aside (PlayAt q wr p r 50 5000 kk) ∧ Aside (Below w.heap.size w3 wr))
    case atStart => exact ⟨0, Nat.zero_le _, by omega, rfl, HPA.out, Below.refl _ _⟩
    case round =>
      obtain ⟨kk, hkk, hgg, rfl, HPL, HB⟩ := hrel
      obtain ⟨es, er, gs, ve, vl, hbq, hbo, hoff⟩ := HPL.out
      obtain ⟨A4, c4, rfl⟩ := hbo.ref.e.slice
      obtain ⟨A5, c5, rfl⟩ := hbo.ref.g.slice
      have hzr := HB.out.size
      by_cases hlt : kk < ahead.length
      · have hltz : (kk : Int) < (ahead.length : Int) := by omega
        have hkz : (0 : Int) ≤ (kk : Int) := by omega
        have hgj := HG1.out kk hlt
        generalize ahead.getD kk Turn0 = a at hgj
        rcases HS1.out.below (HB3.out.trans HB.out) with ⟨h1, h2⟩ | ⟨b, o, c2, h1, _, _, hrow⟩
        · subst h2; simp at hlt
        have hA : A = some ⟨b, o, none⟩ := by injection h1
        obtain ⟨e0, e1, e2, e3, e4, e5⟩ := TurnAt.ofRow hrow hgj
        subst hA
        obtain ⟨g0, g1, g2, g3, f0, f1, f2, f3⟩ := ref_cells' hbq
        have HBO := Lib.hid hbo
        have HOFF := Lib.hid hoff
        have HBQ := Lib.hid hbq
        clear h1 hrow hgj hbo hoff hbq
        have HPW : Hid (w.heap.size ≤ wr.heap.size) := Lib.hid (by omega)
        go_upto_block 1 with fail
        go_cut [] (fun wx => Aside (PlayAt q wx p r 50 5000 (kk + 1)) ∧ Aside (Below w.heap.size w3 wx))
        case first =>
          go_upto_region 10 with fail
          first
          | go_region_law ((go_simp; refine (does_any p r 50 5000 es er gs _ _ a kk _ (HBO.out.below (by (repeat (first | exact Below.refl _ _ | refine bl_drew ?_ | refine bl_alloc ?_ _)); done)) (by omega)).mono ?_; rintro e w4 ⟨⟨es', er', gs', ve', vl', rfl, hb4, hfe, hfl⟩, hm4⟩; obtain ⟨A6, c6, rfl⟩ := hb4.ref.e.slice; obtain ⟨A7, c7, rfl⟩ := hb4.ref.g.slice; have hst := play_store HBO.out HOFF.out (by omega) (by omega) HBQ.out hm4 hb4 hfe hfl; obtain ⟨d0, d1, d2, d3, d4, d5, d6, d7⟩ := ref_cells' hst.1; have HPL5 : Hid (PlayAt q ((((w4.setCell ⟨q, 0, none⟩ (.int .i64 50)).setCell ⟨q, 1, none⟩ (.int .i64 5000)).setCell ⟨q, 2, none⟩ (.slice A6 er'.length c6)).setCell ⟨q, 3, none⟩ (.slice A7 gs'.length c7)) p r 50 5000 (kk + 1)) := Lib.hid ⟨es', er', gs', _, _, hst.2⟩; have HM4 := Lib.hid hm4; clear hst hm4 hb4 hfe hfl))
          | fail "law"
          all_goals
            have HBF5 := Lib.hid (bl_set4 (q := q) ((HB.out.trans (bl_drew (Below.refl _ _))).trans (HM4.out.below hq5 hq6 HPW.out)) hq1 (.int .i64 50) (.int .i64 5000) (.slice A6 er'.length c6) (.slice A7 gs'.length c7))
            go_wp2_with fail
            go_meet
            case rel => exact ⟨HPL5.out, HBF5.out⟩
        case rest =>
          obtain ⟨HPLc, HBFc⟩ := hcut
          clear g0 g1 g2 g3 f0 f1 f2 f3 e0 e1 e2 e3 e4 e5
          go_wp2_with fail
          go_roundg (ahead.length - (kk + 1))
          case measure => omega
          case rel => exact ⟨kk + 1, by omega, by omega, by go_num, HPLc.out, HBFc.out⟩
      · have hltz : ¬ (kk : Int) < (ahead.length : Int) := by omega
        have hke : kk = ahead.length := by omega
        subst hke
        obtain ⟨wa, hwa⟩ : ∃ wa, wa = wr := ⟨_, rfl⟩
        subst hwa
        have hcp := copy_led p r 50 5000 es gs wa hbo.led (by have := hbo.sane.gl; omega)
        obtain ⟨g0, g1, g2, g3, f0, f1, f2, f3⟩ := ref_cells' hbq
        have HBO := Lib.hid hbo
        have HOFF := Lib.hid hoff
        have HBQ := Lib.hid hbq
        have hqr : q < wa.heap.size := (Array.getElem?_eq_some_iff.1 hbq).1
        clear hbo hoff hbq
        go_wp2_with fail
        refine hcp.mono ?_
        rintro e w4 ⟨p2, r2, rfl, hf4, hb4⟩
        have g0' := bl_cell hb4 g0
        have g1' := bl_cell hb4 g1
        have g2' := bl_cell hb4 g2
        have g3' := bl_cell hb4 g3
        have hz4 := hb4.size
        have HF4 := Lib.hid hf4
        have HB4 := Lib.hid hb4
        have hpr2 : wa.heap.size ≤ p2 ∧ wa.heap.size ≤ r2 := by obtain ⟨_, _, _, _, h1, h2, _⟩ := HF4.out; exact ⟨h1, h2⟩
        have hlp2 := HF4.out.led.lt
        have hs4 : Both w4 p2 r2 50 5000 es er gs (.slice A4 er.length c4) (.slice A5 gs.length c5) ahead.length :=
          ⟨HF4.out.led, HBO.out.ref.below HB4.out, HBO.out.link, HBO.out.sane, SAt.notIn_new (enc := En.cells) (k := 3) (fun _ => rfl) (by decide) HBO.out.ref.e hpr2.1, SAt.notIn_new (enc := Ling.cells) (k := 2) (fun _ => rfl) (by decide) HBO.out.ref.g hpr2.1, HBO.out.pos⟩
        have hbn := bl_alloc (Below.refl w4.heap.size w4) (.cells #[.int .i64 50, .int .i64 5000, .slice A4 er.length c4, .slice A5 gs.length c5] 36)
        have hcp5 : CopyPlay w4.heap.size (w4.alloc (.cells #[.int .i64 50, .int .i64 5000, .slice A4 er.length c4, .slice A5 gs.length c5] 36)) p2 r2 50 5000 (ahead.length + 0) 0 es gs :=
          ⟨es, er, gs, _, _, at_alloc rfl, hs4.below hbn, (both_off_new hs4 (Nat.le_refl _)).below hbn hlp2.1, fun _ => ⟨rfl, rfl⟩⟩
        have HCP5 := Lib.hid hcp5
        have HBW5 : Hid (Below wa.heap.size wa (w4.alloc (.cells #[.int .i64 50, .int .i64 5000, .slice A4 er.length c4, .slice A5 gs.length c5] 36))) := Lib.hid (HB4.out.alloc HB4.out.size _)
        have HQ2 : Hid (wa.heap.size ≤ w4.heap.size ∧ p2 < w4.heap.size ∧ r2 < w4.heap.size ∧ p2 ≠ r2 ∧ wa.heap.size ≤ p2 ∧ wa.heap.size ≤ r2 ∧ w4.heap.size < (w4.alloc (.cells #[.int .i64 50, .int .i64 5000, .slice A4 er.length c4, .slice A5 gs.length c5] 36)).heap.size) := Lib.hid ⟨hz4, hlp2.1, hlp2.2.1, hlp2.2.2, hpr2.1, hpr2.2, by simp⟩
        have HWW : Hid (Below w.heap.size w wa) := Lib.hid (HB3.out.trans HB.out)
        clear hcp hf4 hb4 g0 g1 g2 g3 f0 f1 f2 f3 hs4 hbn hcp5 hlp2 hpr2
        go_upto_region 13 with fail
        clear g0' g1' g2' g3'
        obtain ⟨q2, hq2⟩ : ∃ q2, q2 = w4.heap.size := ⟨_, rfl⟩
        rw [← hq2] at HCP5 HQ2 ⊢
        generalize (w4.alloc (.cells #[.int .i64 50, .int .i64 5000, .slice A4 er.length c4, .slice A5 gs.length c5] 36)) = w5 at HCP5 HBW5 HQ2 ⊢
        clear hq2 HF4 HB4
        obtain ⟨u1, u2, u3, u4, u5, u6, u7⟩ := HQ2.out
        go_wp2_with fail
        go_loopg [14] behind.length (fun gg s14 wr => ∃ kk : Nat, kk ≤ behind.length ∧ behind.length - kk ≤ gg ∧ s14 = .int .i64 kk ∧ Aside (CopyPlay q2 wr p2 r2 50 5000 (ahead.length + kk) kk es gs) ∧ Aside (Below wa.heap.size w5 wr))
        case atStart => exact ⟨0, Nat.zero_le _, by omega, rfl, HCP5.out, Below.refl _ _⟩
        case round =>
          obtain ⟨kk, hkk, hgg, rfl, HPL2, HB2⟩ := hrel
          obtain ⟨es2, er2, gs2, ve2, vl2, hbq2, hbo2, hoff2, hke2⟩ := HPL2.out
          obtain ⟨A8, c8, rfl⟩ := hbo2.ref.e.slice
          obtain ⟨A9, c9, rfl⟩ := hbo2.ref.g.slice
          have hzr2 := HB2.out.size
          by_cases hlt : kk < behind.length
          · have hltz : (kk : Int) < (behind.length : Int) := by omega
            have hkz : (0 : Int) ≤ (kk : Int) := by omega
            have hgj := HG2.out kk hlt
            generalize behind.getD kk Turn0 = a at hgj
            rcases HS2.out.below (bl_then HWW.out (HBW5.out.trans HB2.out)) with ⟨h1, h2⟩ | ⟨b, o, c2, h1, _, _, hrow⟩
            · subst h2; simp at hlt
            have hA : B = some ⟨b, o, none⟩ := by injection h1
            obtain ⟨e0, e1, e2, e3, e4, e5⟩ := TurnAt.ofRow hrow hgj
            subst hA
            obtain ⟨g0, g1, g2, g3, f0, f1, f2, f3⟩ := ref_cells' hbq2
            have HBO2 := Lib.hid hbo2
            have HOFF2 := Lib.hid hoff2
            have HBQ2 := Lib.hid hbq2
            clear h1 hrow hgj hbo2 hoff2 hbq2 hke2
            have HPW : Hid (wa.heap.size ≤ wr.heap.size) := Lib.hid (by omega)
            go_upto_block 3 with fail
            go_cut [] (fun wx => Aside (CopyPlay q2 wx p2 r2 50 5000 (ahead.length + (kk + 1)) (kk + 1) es gs) ∧ Aside (Below wa.heap.size w5 wx))
            case first =>
              go_upto_region 16 with fail
              first
              | go_region_law ((go_simp; refine (does_any p2 r2 50 5000 es2 er2 gs2 _ _ a (ahead.length + kk) _ (HBO2.out.below (by (repeat (first | exact Below.refl _ _ | refine bl_drew ?_ | refine bl_alloc ?_ _)); done)) (by omega)).mono ?_; rintro e w6 ⟨⟨es', er', gs', ve', vl', rfl, hb4, hfe, hfl⟩, hm4⟩; obtain ⟨A6, c6, rfl⟩ := hb4.ref.e.slice; obtain ⟨A7, c7, rfl⟩ := hb4.ref.g.slice; have hst := play_store HBO2.out HOFF2.out (by omega) (by omega) HBQ2.out hm4 hb4 hfe hfl; obtain ⟨d0, d1, d2, d3, d4, d5, d6, d7⟩ := ref_cells' hst.1; have HPL5 : Hid (CopyPlay q2 ((((w6.setCell ⟨q2, 0, none⟩ (.int .i64 50)).setCell ⟨q2, 1, none⟩ (.int .i64 5000)).setCell ⟨q2, 2, none⟩ (.slice A6 er'.length c6)).setCell ⟨q2, 3, none⟩ (.slice A7 gs'.length c7)) p2 r2 50 5000 (ahead.length + (kk + 1)) (kk + 1) es gs) := Lib.hid ⟨es', er', gs', _, _, hst.2.1, hst.2.2.1, hst.2.2.2, fun h => absurd h (Nat.succ_ne_zero kk)⟩; have HM4 := Lib.hid hm4; clear hst hm4 hb4 hfe hfl))
              | fail "law"
              all_goals
                have HBF5 := Lib.hid (bl_set4 (q := q2) ((HB2.out.trans (bl_drew (Below.refl _ _))).trans (HM4.out.below u5 u6 HPW.out)) u1 (.int .i64 50) (.int .i64 5000) (.slice A6 er'.length c6) (.slice A7 gs'.length c7))
                go_wp2_with fail
                go_meet
                case rel => exact ⟨HPL5.out, HBF5.out⟩
            case rest =>
              obtain ⟨HPLc, HBFc⟩ := hcut
              clear g0 g1 g2 g3 f0 f1 f2 f3 e0 e1 e2 e3 e4 e5
              go_wp2_with fail
              go_roundg (behind.length - (kk + 1))
              case measure => omega
              case rel => exact ⟨kk + 1, by omega, by omega, by go_num, HPLc.out, HBFc.out⟩
          · have hltz : ¬ (kk : Int) < (behind.length : Int) := by omega
            have hke : kk = behind.length := by omega
            subst hke
            have hbww : Below wa.heap.size wa wr := HBW5.out.trans HB2.out
            have hbox := HBO.out.below hbww
            have hbqx := (hbww.block q hqr).trans HBQ.out
            obtain ⟨g0, g1, g2, g3, -, -, -, -⟩ := ref_cells' hbqx
            obtain ⟨i0, i1, i2, i3, -, -, -, -⟩ := ref_cells' hbq2
            have HX := Lib.hid hbox
            have HY := Lib.hid hbo2
            have HSB : Hid ((eqE es es2 && eqS (stepsOf gs) (stepsOf gs2)) = true → er2 = er ∧ takG gs now = takG gs2 now) := Lib.hid fun h => by
              obtain ⟨h1, h2⟩ := same_tells hbox.sane.fine hbo2.sane.fine hbox.link.nodup' h (now := now) (by omega)
              exact ⟨sorted_unique er er2 (hbo2.link.perm.trans (h1.symm.trans hbox.link.perm.symm)) hbox.link.sorted (hbo2.link.sorted.imp fun {x y} hxy => by omega), h2⟩
            have HSN : Hid ((eqE es es2 && eqS (stepsOf gs) (stepsOf gs2)) = false → 0 < (behind.length : Int)) := Lib.hid fun h => by
              rcases Nat.eq_zero_or_pos behind.length with h0 | h0
              · obtain ⟨rfl, rfl⟩ := hke2 h0
                rw [eqE_self hbox.link.nodup', eqS_self (steps_nodup _)] at h
                cases h
              · omega
            have HCQ : Hid (∀ W, Below wr.heap.size wr W → W.cell? ⟨q, 0, none⟩ = some (.int .i64 50) ∧ W.cell? ⟨q, 1, none⟩ = some (.int .i64 5000) ∧ W.cell? ⟨q, 2, none⟩ = some (.slice A4 er.length c4) ∧ W.cell? ⟨q, 3, none⟩ = some (.slice A5 gs.length c5) ∧
                W.cell? ⟨q2, 0, none⟩ = some (.int .i64 50) ∧ W.cell? ⟨q2, 1, none⟩ = some (.int .i64 5000) ∧ W.cell? ⟨q2, 2, none⟩ = some (.slice A8 er2.length c8) ∧ W.cell? ⟨q2, 3, none⟩ = some (.slice A9 gs2.length c9)) :=
              Lib.hid fun W hW => ⟨bl_cell hW g0, bl_cell hW g1, bl_cell hW g2, bl_cell hW g3, bl_cell hW i0, bl_cell hW i1, bl_cell hW i2, bl_cell hW i3⟩
            have HGL : Hid (gs.length ≤ 1000000) := Lib.hid (by have := hbox.sane.gl; omega)
            have HWR : Hid (Below w.heap.size w wr) := Lib.hid (HWW.out.trans (hbww.mono HWW.out.size))
            clear hbox hbo2 hoff2 hbq2 hbqx hke2 hbww
            go_wp2_with fail
            refine (same_any p r 50 5000 es er gs _ _ _ now wr HX.out HWN.out).mono ?_
            rintro e w6 ⟨rfl, hb6⟩
            have HB6 := Lib.hid hb6
            clear hb6 g0 g1 g2 g3 i0 i1 i2 i3
            obtain ⟨g0, g1, g2, g3, i0, i1, i2, i3⟩ := HCQ.out w6 HB6.out
            go_wp2_with fail
            refine (same_any p2 r2 50 5000 es2 er2 gs2 _ _ _ now w6 (HY.out.below HB6.out) HWN.out).mono ?_
            rintro e w7 ⟨rfl, hb7⟩
            have HB7 := Lib.hid (bl_then HB6.out hb7)
            clear hb7 g0 g1 g2 g3 i0 i1 i2 i3
            go_wp2_with fail
            refine (copy_led p r 50 5000 es gs w7 (HX.out.led.below HB7.out) HGL.out).mono ?_
            rintro e w8 ⟨p3, r3, rfl, hf8, hb8⟩
            have HB8 := Lib.hid (bl_then HB7.out hb8)
            have HF8 := Lib.hid hf8
            clear hb8 hf8
            go_wp2_with fail
            refine (same_yes p r p3 r3 50 5000 es es gs gs w8 (HX.out.led.below HB8.out) HF8.out.led (eqE_self HX.out.link.nodup')).mono ?_
            rintro e w9 ⟨rfl, hb9⟩
            rw [eqS_self (steps_nodup gs)]
            have HB9 := Lib.hid (bl_then HB8.out hb9)
            clear hb9
            obtain ⟨g0, g1, g2, g3, i0, i1, i2, i3⟩ := HCQ.out w9 HB9.out
            go_wp2_with fail
            refine (taken_ref 50 5000 _ _ er gs now w9 (HX.out.ref.below HB9.out) (HX.out.link.fine HX.out.sane.fine)).mono ?_
            rintro e w10 ⟨rfl, hb10⟩
            have HB10 := Lib.hid (bl_then HB9.out hb10)
            clear hb10 g0 g1 g2 g3 i0 i1 i2 i3
            obtain ⟨g0, g1, g2, g3, i0, i1, i2, i3⟩ := HCQ.out w10 HB10.out
            go_wp2_with fail
            refine (taken_ref 50 5000 _ _ er2 gs2 now w10 (HY.out.ref.below HB10.out) (HY.out.link.fine HY.out.sane.fine)).mono ?_
            rintro e w11 ⟨rfl, hb11⟩
            have HB11 := Lib.hid (bl_then HB10.out hb11)
            clear hb11 g0 g1 g2 g3 i0 i1 i2 i3
            go_wp2_with fail
            refine (same_led p r p2 r2 50 5000 es es2 gs gs2 w11 (HX.out.led.below HB11.out) (HY.out.led.below HB11.out)).mono ?_
            rintro e w12 ⟨rfl, hb12⟩
            have HB12 := Lib.hid (bl_then HB11.out hb12)
            clear hb12
            obtain ⟨g0, g1, g2, g3, i0, i1, i2, i3⟩ := HCQ.out w12 HB12.out
            have HS12 : Hid (∀ W, Below wr.heap.size wr W → Calls Try.prog 18 #[.pointer (some ⟨p, 0, none⟩), .pointer (some ⟨p2, 0, none⟩)] W fun e w' => e = .returned (.bool (eqE es es2 && eqS (stepsOf gs) (stepsOf gs2))) ∧ Below W.heap.size W w') :=
              Lib.hid fun W hW => same_led p r p2 r2 50 5000 es es2 gs gs2 W (HX.out.led.below hW) (HY.out.led.below hW)
            generalize (eqE es es2 && eqS (stepsOf gs) (stepsOf gs2)) = sb at HSB HSN HS12 ⊢
            cases sb with
            | false =>
              have hbl := HSN.out rfl
              have hbl2 : 0 < behind.length := by omega
              go_wp2_with fail
              refine (HS12.out w12 HB12.out).mono ?_
              rintro e w13 ⟨rfl, hb13⟩
              have HB13 := Lib.hid (bl_then HB12.out hb13)
              clear hb13
              go_wp2_with fail
              refine (known_any _).mono ?_
              rintro e w14 ⟨rfl, hb14⟩
              have HB14 := Lib.hid (bl_then HB13.out hb14)
              clear hb14
              go_wp2_with fail
              go_ret
              exact ⟨rfl, bl_then HWR.out HB14.out⟩
            | true =>
              obtain ⟨rfl, ht⟩ := HSB.out rfl
              rw [← ht]
              go_wp2_with fail
              refine (sameEntries_yes _ _ _ w12 (HX.out.ref.e.below HB12.out) (HY.out.ref.e.below HB12.out)).mono ?_
              rintro e w13 ⟨rfl, hb13⟩
              have HB13 := Lib.hid (bl_then HB12.out hb13)
              clear hb13
              go_wp2_with fail
              refine (HS12.out w13 HB13.out).mono ?_
              rintro e w14 ⟨rfl, hb14⟩
              have HB14 := Lib.hid (bl_then HB13.out hb14)
              clear hb14
              go_wp2_with fail
              refine (known_any _).mono ?_
              rintro e w15 ⟨rfl, hb15⟩
              have HB15 := Lib.hid (bl_then HB14.out hb15)
              clear hb15
              go_wp2_with fail
              go_ret
              exact ⟨rfl, bl_then HWR.out HB15.out⟩
  · have hadd : IntKind.i64.wrap ((ahead.length : Int) + (behind.length : Int)) = (ahead.length : Int) + (behind.length : Int) := IntWalk.i64_in _ (by omega)
    have hor : 60 < (ahead.length : Int) + (behind.length : Int) ∨ now < 0 ∨ 4611686018427387904 < now := by omega
    clear hg
    go_enter Try.func8, Try.ntmps8
    rcases hor with k1 | k2 | k3
    · go_wp2_with (go_at_call 10; refine (known_any _).mono ?_; rintro e w' ⟨rfl, hb⟩)
      all_goals
        go_ret
        exact ⟨rfl, hb⟩
    · by_cases k1 : 60 < (ahead.length : Int) + (behind.length : Int)
      all_goals
        go_wp2_with (go_at_call 10; refine (known_any _).mono ?_; rintro e w' ⟨rfl, hb⟩)
        go_ret
        exact ⟨rfl, hb⟩
    · have k2 : ¬ now < 0 := by omega
      by_cases k1 : 60 < (ahead.length : Int) + (behind.length : Int)
      all_goals
        go_wp2_with (go_at_call 10; refine (known_any _).mono ?_; rintro e w' ⟨rfl, hb⟩)
        go_ret
        exact ⟨rfl, hb⟩
end Go.Proofs.Ytfnijjjfodpnnaa
