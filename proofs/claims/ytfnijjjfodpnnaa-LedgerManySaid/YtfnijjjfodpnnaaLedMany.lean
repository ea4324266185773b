/- Ledger: LedgerMany. -/
import Derived.Test.YtfnijjjfodpnnaaLedY
import Derived.Test.YtfnijjjfodpnnaaLedZ
namespace Go.Proofs.Ytfnijjjfodpnnaa
open Go.RowKit Go.Shelf
set_option linter.unusedVariables false
set_option linter.unusedSimpArgs false
set_option maxRecDepth 100000 in
set_option maxHeartbeats 2000000 in
theorem ledgerMany_any (n : Int) (w : World) :
    Calls Try.prog 6 #[.int .i64 n] w fun e w' => e = .returned (.bool true) ∧ Below w.heap.size w w' := by
  by_cases hg : 30 ≤ n ∧ n ≤ 40
  · obtain ⟨g1, g2⟩ := hg
    obtain ⟨m, rfl⟩ : ∃ m : Nat, n = (m : Int) := ⟨n.toNat, by omega⟩
    have g3 : 30 ≤ m := by omega
    have g4 : m ≤ 40 := by omega
    go_enter Try.func6, Try.ntmps6
    go_wp2_with fail
    refine (new_led 1000 1000 _).mono ?_
    rintro e w1 ⟨hb1, ⟨h0, rfl⟩ | ⟨hok, p, r, rfl, hl1, hp, hr⟩⟩
    · exact absurd h0 (by decide)
    · have HB1 := Lib.hid hb1
      have HL1 := Lib.hid hl1
      have hs1 := hb1.size
      clear hb1 hl1 hok
      go_wp2_with fail
      go_loopg [5] m (fun gg s5 wr => ∃ kk : Nat, kk ≤ m ∧ m - kk ≤ gg ∧ s5 = .int .i64 kk ∧ Aside (LedgerAt wr p r 1000 1000 (manyL (min kk 32)) []) ∧ Aside (Below w.heap.size w wr))
      case atStart => exact ⟨0, by omega, by omega, rfl, HL1.out, HB1.out⟩
      case round =>
        obtain ⟨kk, hkk, hgg, rfl, HL, HB⟩ := hrel
        by_cases hlt : kk < m
        · have hltz : (kk : Int) < (m : Int) := by omega
          by_cases h32 : kk < 32
          · have hz32 : (kk : Int) < 32 := by omega
            have hmin : min kk 32 = kk := by omega
            have hgv := give_led p r 1000 1000 (manyL (min kk 32)) [] ⟨(kk : Int), 1, 1⟩ 0 wr HL.out (manyL_fine _ (by omega))
            rw [hmin, many_ok kk h32, manyL_give kk h32] at hgv
            clear hmin
            go_wp2_with fail
            refine hgv.mono ?_
            rintro e w2 ⟨rfl, hl2, hm2⟩
            have HL2 := Lib.hid hl2
            have HB2 : Hid (Below w.heap.size w w2) := Lib.hid (HB.out.trans (hm2.below hp hr HB.out.size))
            clear hgv hl2 hm2
            go_wp2_with fail
            go_roundg (m - (kk + 1))
            case measure => omega
            case rel => exact ⟨kk + 1, by omega, by omega, by go_num, by rw [show min (kk + 1) 32 = kk + 1 from by omega]; exact HL2.out, HB2.out⟩
          · have hz32 : (32 : Int) ≤ (kk : Int) := by omega
            have hz33 : ¬ (kk : Int) < 32 := by omega
            have hmin : min kk 32 = 32 := by omega
            have hgv := give_led p r 1000 1000 (manyL (min kk 32)) [] ⟨(kk : Int), 1, 1⟩ 0 wr HL.out (manyL_fine _ (by omega))
            rw [hmin, many_no kk (by omega) (by omega)] at hgv
            simp only [giveE, if_neg (show ¬ (270 : Int) = 0 by decide)] at hgv
            clear hmin
            go_wp2_with fail
            refine hgv.mono ?_
            rintro e w2 ⟨rfl, hl2, hm2⟩
            have HL2 := Lib.hid hl2
            have HB2 : Hid (Below w.heap.size w w2) := Lib.hid (HB.out.trans (hm2.below hp hr HB.out.size))
            clear hgv hl2 hm2
            go_wp2_with fail
            all_goals try (exfalso; omega)
            go_roundg (m - (kk + 1))
            case measure => omega
            case rel => exact ⟨kk + 1, by omega, by omega, by go_num, by rw [show min (kk + 1) 32 = 32 from by omega]; exact HL2.out, HB2.out⟩
        · have hltz : ¬ (kk : Int) < (m : Int) := by omega
          have hke : kk = m := by omega
          subst hke
          have hl := HL.out
          have hsum := manyL_sum (min kk 32)
          have htk := taken_led p r 1000 1000 (manyL (min kk 32)) [] 0 wr hl (manyL_fine _ (by omega))
          rw [show wi 0 0 4611686018427387904 = true from by decide, hsum.1, hsum.2, show takG [] (0 : Int) = 0 from rfl] at htk
          simp only [if_true, Int.add_zero] at htk
          have hmz : ((min kk 32 : Nat) : Int) = min (kk : Int) 32 := by omega
          rw [hmz] at htk
          have HLL := Lib.hid hl
          have HMZ := Lib.hid hmz
          clear hl hsum hmz
          go_wp2_with fail
          refine htk.mono ?_
          rintro e w2 ⟨rfl, hb2⟩
          have hal := all_led p r 1000 1000 (manyL (min kk 32)) [] w2 (HLL.out.below hb2) (by rw [manyL_len]; omega)
          have HB2 := Lib.hid hb2
          clear htk hb2
          go_wp2_with fail
          refine hal.mono ?_
          rintro e w3 ⟨⟨v3, ys, rfl, hpy, -, hsat⟩, hb3⟩
          obtain ⟨A3, c3, rfl⟩ := hsat.slice
          have hyl : ys.length = min kk 32 := by rw [hpy.length_eq, manyL_len]
          have HYL := Lib.hid hyl
          have hyz : (ys.length : Int) = min (kk : Int) 32 := by omega
          have HB3 := Lib.hid hb3
          clear hal hpy hsat hb3 hyl
          go_wp2_with (go_at_call 10; refine (known_any _).mono ?_; rintro e w' ⟨rfl, hb⟩)
          all_goals go_ret
          all_goals exact ⟨rfl, HB.out.trans ((bl_then (bl_then HB2.out HB3.out) hb).mono HB.out.size)⟩
  · by_cases h30 : n < 30
    · go_enter Try.func6, Try.ntmps6
      go_wp2_with (first | (go_at_call 10; refine (known_any _).mono ?_; rintro e w' ⟨rfl, hb⟩) | (go_at_call 11; exfalso; omega))
      all_goals (go_ret; exact ⟨rfl, hb⟩)
    · have h40 : 40 < n := by omega
      go_enter Try.func6, Try.ntmps6
      go_wp2_with (first | (go_at_call 10; refine (known_any _).mono ?_; rintro e w' ⟨rfl, hb⟩) | (go_at_call 11; exfalso; omega))
      all_goals (go_ret; exact ⟨rfl, hb⟩)
end Go.Proofs.Ytfnijjjfodpnnaa
