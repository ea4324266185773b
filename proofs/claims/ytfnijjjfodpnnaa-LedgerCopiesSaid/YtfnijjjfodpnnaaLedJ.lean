/- Ledger: LedgerLingers. -/
import Derived.Test.YtfnijjjfodpnnaaLedI
namespace Go.Proofs.Ytfnijjjfodpnnaa
open Go.RowKit Go.Shelf

theorem wrap_in {n : Int} (h : -9223372036854775808 ≤ n ∧ n ≤ 9223372036854775807) : wrap64 n = n := by unfold wrap64; omega
theorem tooMuch_in {share t o n : Int} (h1 : -9223372036854775808 ≤ t - o ∧ t - o ≤ 9223372036854775807) (h2 : -9223372036854775808 ≤ t - o + n ∧ t - o + n ≤ 9223372036854775807) : tooMuch share t o n = decide (share < t - o + n) := by
  unfold tooMuch
  rw [wrap_in h1, wrap_in h2]
theorem ling_y1 (x : En) (h1 : 1 ≤ x.r) (h2 : x.r ≤ 1000000) : firstQ (fitsQs x.r 1000000000 [] [] x 0) = if mayB x [0] = true then 0 else 2 := by
  unfold fitsQs roomQs
  cases hm : mayB x [0] with
  | false => simp [firstQ]
  | true =>
    have hb := mayB_bd hm
    simp only [sumR, sumM, takG, List.filter_nil, sumG]
    rw [tooMuch_in (by omega) (by omega), tooMuch_in (by omega) (by omega)]
    simp [firstQ, getE]
    omega
theorem ling_y3 (x : En) (till at' : Int) (hm : mayB x [0] = true) (h3 : 0 ≤ at') (h4 : at' ≤ 1000000) : firstQ (fitsQs x.r 1000000000 [] [⟨x.r, till⟩] x at') = if at' < till then 271 else 0 := by
  have hb := mayB_bd hm
  have hm2 : mayB x [at'] = true := by simp [mayB, wi] at hm ⊢; omega
  unfold fitsQs roomQs
  by_cases hlt : at' < till
  · simp only [sumR, sumM, takG, List.filter_cons, List.filter_nil, hlt, decide_true, if_true, sumG]
    rw [tooMuch_in (by omega) (by omega), tooMuch_in (by omega) (by omega)]
    simp [firstQ, getE, hm2]
    omega
  · simp only [sumR, sumM, takG, List.filter_cons, List.filter_nil, hlt, decide_false, Bool.false_eq_true, if_false, sumG]
    rw [tooMuch_in (by omega) (by omega), tooMuch_in (by omega) (by omega)]
    simp [firstQ, getE, hm2]
    omega
theorem ling_free (x : En) (till : Int) (hm : mayB x [0] = true) (h3 : 0 ≤ till) (h4 : till ≤ 1000000) : freeY [x] x.i till = 0 ∧ delE [x] x.i = [] ∧ lingG [] (oldE [x] x.i).r till = [⟨x.r, till⟩] := by
  have hb := mayB_bd hm
  refine ⟨?_, by simp [delE], ?_⟩
  · have : (wi x.i 0 2147483647 && wi till 0 4611686018427387904) = true := by simp [wi]; omega
    simp [freeY, this, getE]
  · have : (oldE [x] x.i) = x := by simp [oldE, getE]
    rw [this, lingG, if_pos (by omega)]; rfl
set_option maxRecDepth 100000 in
set_option maxHeartbeats 1000000 in
theorem ledgerLingers_any (x : En) (till at' : Int) (w : World) :
    Calls Try.prog 4 #[.agg #[.int .i64 x.i, .int .i64 x.r, .int .i64 x.m], .int .i64 till, .int .i64 at'] w fun e w' => e = .returned (.bool true) ∧ Below w.heap.size w w' := by
  by_cases hg : 1 ≤ x.r ∧ x.r ≤ 1000000 ∧ 0 ≤ till ∧ till ≤ 1000000 ∧ 0 ≤ at' ∧ at' ≤ 1000000
  · obtain ⟨g1, g2, g3, g4, g5, g6⟩ := hg
    have k1 : ¬ x.r < 1 := by omega
    have k2 : ¬ 1000000 < x.r := by omega
    have k3 : ¬ till < 0 := by omega
    have k4 : ¬ 1000000 < till := by omega
    have k5 : ¬ at' < 0 := by omega
    have k6 : ¬ 1000000 < at' := by omega
    go_enter Try.func4, Try.ntmps4
    have Y1 := Lib.hid (ling_y1 x g1 g2)
    have hin : wi at' 0 4611686018427387904 = true := by simp [wi]; omega
    have HIN := Lib.hid hin
    clear hin
    go_wp2_with fail
    refine (new_led x.r 1000000000 _).mono ?_
    rintro e w1 ⟨hb1, ⟨h0, _⟩ | ⟨_, p, r, rfl, hl1, hp, hr⟩⟩
    · exact absurd h0 (by simp [newOk, wi]; omega)
    simp at hp hr
    have x0 : w1.cell? ⟨w.heap.size, 0, none⟩ = some (.int .i64 x.i) := bl_cell hb1 (by go_simp)
    have x1 : w1.cell? ⟨w.heap.size, 1, none⟩ = some (.int .i64 x.r) := bl_cell hb1 (by go_simp)
    have x2 : w1.cell? ⟨w.heap.size, 2, none⟩ = some (.int .i64 x.m) := bl_cell hb1 (by go_simp)
    have hbw : Below w.heap.size w w1 := (bl_alloc (Below.refl _ _) _).trans (hb1.mono (by simp))
    have hs1 := hb1.size
    simp at hs1
    have HBW := Lib.hid hbw
    have HX : Hid (EnAt w1 w.heap.size 0 x) := Lib.hid ⟨x0, x1, x2⟩
    clear hb1 hbw
    go_wp2_with fail
    refine (give_led p r x.r 1000000000 [] [] x 0 _ hl1 Fine.nil).mono ?_
    rintro e w2 ⟨rfl, hl2, hm2⟩
    rw [Y1.out] at hl2
    rw [Y1.out]
    have HM2 := Lib.hid hm2
    have x0' := hm2.cell x0 (by omega) (by omega)
    have x1' := hm2.cell x1 (by omega) (by omega)
    have x2' := hm2.cell x2 (by omega) (by omega)
    have hs2 := hm2.size
    clear hl1 hm2 x0 x1 x2
    cases hmay : mayB x [0] with
    | false =>
      clear hl2
      simp only [Bool.false_eq_true, if_false]
      go_wp2_with (go_at_call 10; refine (known_any _).mono ?_; rintro e w' ⟨rfl, hb⟩)
      go_ret
      exact ⟨rfl, (HBW.out.trans (HM2.out.below (by omega) (by omega) (by omega))).trans (hb.mono (by omega))⟩
    | true =>
      simp only [hmay, if_true] at hl2 ⊢
      obtain ⟨Z1, Z2, Z3⟩ := ling_free x till hmay g3 g4
      have Y3 := Lib.hid (ling_y3 x till at' hmay g5 g6)
      have hl2' : LedgerAt w2 p r x.r 1000000000 [x] [] := hl2
      have hfx : Fine [x] [] := ⟨fun y hy => by simp at hy; subst hy; have := mayB_bd hmay; omega, by simp, by simp, by simp⟩
      have hfg : Fine [] [⟨x.r, till⟩] := ⟨by simp, fun y hy => by simp at hy; subst hy; simp; omega, by simp, by simp⟩
      have HL2 := Lib.hid hl2'
      have HFX := Lib.hid hfx
      have HFG := Lib.hid hfg
      have HZ1 := Lib.hid Z1
      have HZ2 := Lib.hid Z2
      have HZ3 := Lib.hid Z3
      clear hl2 hl2' hfx hfg Z1 Z2 Z3 hmay
      go_wp2_with fail
      refine (free_led p r x.r 1000000000 [x] [] x.i till _ HL2.out HFX.out).mono ?_
      rintro e w3 ⟨rfl, hl3, hm3⟩
      rw [HZ1.out] at hl3
      rw [HZ1.out]
      simp only [if_true] at hl3
      rw [HZ2.out, HZ3.out] at hl3
      have HL3 := Lib.hid hl3
      have HM3 := Lib.hid hm3
      have y0 := hm3.cell x0' (by omega) (by omega)
      have y1 := hm3.cell x1' (by omega) (by omega)
      have y2 := hm3.cell x2' (by omega) (by omega)
      have hs3 := hm3.size
      clear hl3 hm3 x0' x1' x2'
      go_wp2_with fail
      refine (taken_led p r x.r 1000000000 [] [⟨x.r, till⟩] at' _ HL3.out HFG.out).mono ?_
      rintro e w4 ⟨rfl, hb4⟩
      rw [HIN.out]
      simp only [if_true, sumR, sumM, takG, List.filter_cons, List.filter_nil]
      have HL4 := Lib.hid (HL3.out.below hb4)
      have z0 := bl_cell hb4 y0
      have z1 := bl_cell hb4 y1
      have z2 := bl_cell hb4 y2
      have hs4 := hb4.size
      have HB4 := Lib.hid hb4
      clear hb4 y0 y1 y2
      by_cases hlt : at' < till
      all_goals
        simp only [hlt, decide_true, decide_false, if_true, if_false, Bool.false_eq_true, sumG]
        go_wp2_with fail
        refine (fits_led p r x.r 1000000000 [] [⟨x.r, till⟩] x at' _ HL4.out HFG.out).mono ?_
        rintro e w5 ⟨rfl, hb5⟩
        rw [Y3.out]
        first | rw [if_pos hlt] | rw [if_neg hlt] | rw [if_neg (Int.not_lt.2 hlt)]
        have z3 := bl_cell hb5 z1
        have hs5 := hb5.size
        have HB5 := Lib.hid hb5
        have hxn : (x.r == 0) = false := beq_eq_false_iff_ne.2 (by omega)
        have hxx : (x.r == x.r) = true := beq_self_eq_true _
        have hxn2 : ((0 : Int) == x.r) = false := beq_eq_false_iff_ne.2 (by omega)
        first | (have hge : till ≤ at' := by omega) | (have hge : ¬ till ≤ at' := by omega)
        clear hb5 z0 z1 z2
        go_wp2_with (go_at_call 10; refine (known_any _).mono ?_; rintro e w' ⟨rfl, hb⟩)
        all_goals first
          | (exfalso; omega)
          | (go_ret; exact ⟨rfl, (((((HBW.out.trans (HM2.out.below (by omega) (by omega) (by omega))).trans (HM3.out.below (by omega) (by omega) (by omega))).trans (HB4.out.mono (by omega))).trans (HB5.out.mono (by omega))).trans (hb.mono (by omega)))⟩)
  · go_enter Try.func4, Try.ntmps4
    go_wp2_with (first | (go_at_call 10; refine (known_any _).mono ?_; rintro e w' ⟨rfl, hb⟩) | (go_at_call 11; exfalso; omega))
    all_goals (go_ret; exact ⟨rfl, (bl_alloc (Below.refl _ _) _).trans (hb.mono (by simp))⟩)
end Go.Proofs.Ytfnijjjfodpnnaa
