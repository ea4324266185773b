/- Ledger: known, LedgerLingers. -/
import Derived.Test.YtfnijjjfodpnnaaLedH
namespace Go.Proofs.Ytfnijjjfodpnnaa
open Go.RowKit Go.Shelf

theorem Fine.nil : Fine [] [] := ⟨by simp, by simp, by simp, by simp⟩
set_option maxRecDepth 100000 in
set_option maxHeartbeats 1000000 in
theorem known_any (w : World) :
    Calls Try.prog 10 #[] w fun e w' => e = .returned (.bool true) ∧ Below w.heap.size w w' := by
  have f1 : firstQ (fitsQs 10 100 [] [] ⟨1, 6, 50⟩ 0) = 0 := by decide +kernel
  have f2 : firstQ (fitsQs 10 100 [⟨1, 6, 50⟩] [] ⟨2, 5, 10⟩ 0) = 271 := by decide +kernel
  have f3 : firstQ (fitsQs 10 100 [⟨1, 6, 50⟩] [] ⟨3, 4, 60⟩ 0) = 272 := by decide +kernel
  have f4 : firstQ (changeQs 10 100 [⟨1, 6, 50⟩] [] ⟨1, 2, 50⟩ 0 7) = 0 := by decide +kernel
  have F1 := Lib.hid f1
  have F2 := Lib.hid f2
  have F3 := Lib.hid f3
  have F4 := Lib.hid f4
  have hfa : Fine [⟨1, 6, 50⟩] [] := ⟨by simp, by simp, by simp, by simp⟩
  have hfb : Fine [⟨1, 2, 50⟩] [⟨4, 7⟩] := ⟨by simp, by simp, by simp, by simp⟩
  have HFA := Lib.hid hfa
  have HFB := Lib.hid hfb
  clear f1 f2 f3 f4 hfa hfb
  go_enter Try.func10, Try.ntmps10
  go_wp2_with fail
  refine (new_led 10 100 _).mono ?_
  rintro e w1 ⟨hb1, ⟨h0, _⟩ | ⟨_, p, r, rfl, hl1, hp, hr⟩⟩
  · exact absurd h0 (by decide)
  have HB1 := Lib.hid hb1
  clear hb1
  go_wp2_with fail
  refine (give_led p r 10 100 [] [] ⟨1, 6, 50⟩ 0 _ hl1 Fine.nil).mono ?_
  rintro e w2 ⟨rfl, hl2, hm2⟩
  rw [F1.out] at hl2
  rw [F1.out]
  have HL2 : Hid (LedgerAt w2 p r 10 100 [⟨1, 6, 50⟩] []) := Lib.hid hl2
  have HM2 := Lib.hid hm2
  clear hl1 hl2 hm2
  go_wp2_with fail
  refine (give_led p r 10 100 [⟨1, 6, 50⟩] [] ⟨2, 5, 10⟩ 0 _ HL2.out HFA.out).mono ?_
  rintro e w3 ⟨rfl, hl3, hm3⟩
  rw [F2.out] at hl3
  rw [F2.out]
  have HL3 : Hid (LedgerAt w3 p r 10 100 [⟨1, 6, 50⟩] []) := Lib.hid hl3
  have HM3 := Lib.hid hm3
  clear hl3 hm3
  go_wp2_with fail
  refine (give_led p r 10 100 [⟨1, 6, 50⟩] [] ⟨3, 4, 60⟩ 0 _ HL3.out HFA.out).mono ?_
  rintro e w4 ⟨rfl, hl4, hm4⟩
  rw [F3.out] at hl4
  rw [F3.out]
  have HL4 : Hid (LedgerAt w4 p r 10 100 [⟨1, 6, 50⟩] []) := Lib.hid hl4
  have HM4 := Lib.hid hm4
  clear hl4 hm4
  go_wp2_with fail
  refine (change_led p r 10 100 [⟨1, 6, 50⟩] [] ⟨1, 2, 50⟩ 0 7 _ HL4.out HFA.out).mono ?_
  rintro e w5 ⟨rfl, hl5, hm5⟩
  rw [F4.out] at hl5
  rw [F4.out]
  have HL5 : Hid (LedgerAt w5 p r 10 100 [⟨1, 2, 50⟩] [⟨4, 7⟩]) := Lib.hid hl5
  have HM5 := Lib.hid hm5
  clear hl5 hm5
  go_wp2_with fail
  refine (taken_led p r 10 100 [⟨1, 2, 50⟩] [⟨4, 7⟩] 0 _ HL5.out HFB.out).mono ?_
  rintro e w6 ⟨rfl, hb6⟩
  have e1 : (if wi 0 0 4611686018427387904 = true then Value.tuple #[.int .i64 (sumR [⟨1, 2, 50⟩] + takG [⟨4, 7⟩] 0), .int .i64 (sumM [⟨1, 2, 50⟩]), .int .i64 0] else .tuple #[.int .i64 0, .int .i64 0, .int .i64 2]) = .tuple #[.int .i64 6, .int .i64 50, .int .i64 0] := by rfl
  rw [e1]
  have HL6 := Lib.hid (HL5.out.below hb6)
  have HB6 := Lib.hid hb6
  clear e1 hb6
  go_wp2_with fail
  refine (taken_led p r 10 100 [⟨1, 2, 50⟩] [⟨4, 7⟩] 7 _ HL6.out HFB.out).mono ?_
  rintro e w7 ⟨rfl, hb7⟩
  have e1 : (if wi 7 0 4611686018427387904 = true then Value.tuple #[.int .i64 (sumR [⟨1, 2, 50⟩] + takG [⟨4, 7⟩] 7), .int .i64 (sumM [⟨1, 2, 50⟩]), .int .i64 0] else .tuple #[.int .i64 0, .int .i64 0, .int .i64 2]) = .tuple #[.int .i64 2, .int .i64 50, .int .i64 0] := by rfl
  rw [e1]
  have HB7 := Lib.hid hb7
  clear e1 hb7
  go_wp2_with fail
  go_ret
  have hmv := ((((HM2.out.trans HM3.out).trans HM4.out).trans HM5.out).trans (Mov.ofBelow HB6.out)).trans (Mov.ofBelow HB7.out)
  exact ⟨rfl, HB1.out.trans (hmv.below hp hr HB1.out.size)⟩
end Go.Proofs.Ytfnijjjfodpnnaa
