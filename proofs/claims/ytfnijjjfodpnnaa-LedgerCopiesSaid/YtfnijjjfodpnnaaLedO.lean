/- Ledger: LedgerBound. -/
import Derived.Test.YtfnijjjfodpnnaaLedN
namespace Go.Proofs.Ytfnijjjfodpnnaa
open Go.RowKit Go.Shelf

def Turn0 : Turn := ⟨0, ⟨0, 0, 0⟩, 0, 0⟩
def TurnAt (w : World) (b o : Nat) (a : Turn) : Prop := w.cell? ⟨b, o, none⟩ = some (.int .i64 a.op) ∧ w.cell? ⟨b, o + 1, none⟩ = some (.int .i64 a.e.i) ∧ w.cell? ⟨b, o + 2, none⟩ = some (.int .i64 a.e.r) ∧ w.cell? ⟨b, o + 3, none⟩ = some (.int .i64 a.e.m) ∧ w.cell? ⟨b, o + 4, none⟩ = some (.int .i64 a.now) ∧ w.cell? ⟨b, o + 5, none⟩ = some (.int .i64 a.till)
theorem TurnAt.ofRow {w : World} {b o : Nat} {xs : List Turn} (h : RowAt Turn.cells 6 w b o xs) {j : Nat} {x : Turn} (hj : xs[j]? = some x) : TurnAt w b (o + j * 6) x := ⟨h j x hj 0 _ rfl, h j x hj 1 _ rfl, h j x hj 2 _ rfl, h j x hj 3 _ rfl, h j x hj 4 _ rfl, h j x hj 5 _ rfl⟩
def Stands (w : World) (p r : Nat) (share room now : Int) (n : Nat) : Prop := ∃ es gs, LedgerAt w p r share room es gs ∧ Holds share room es gs now n
theorem Stands.below {w W : World} {p r : Nat} {share room now : Int} {n : Nat} (h : Stands w p r share room now n) (hb : Below w.heap.size w W) : Stands W p r share room now n := by
  obtain ⟨es, gs, h1, h2⟩ := h
  exact ⟨es, gs, h1.below hb, h2⟩
/-- Taken, where it is told how much there is. -/
theorem taken_bound (p r : Nat) (share room now at' : Int) (n : Nat) (w : World) (h : Stands w p r share room now n) (h0 : 0 ≤ at') (h1 : at' ≤ 4611686018427387904) (h2 : now ≤ at') :
    Calls Try.prog 13 #[.pointer (some ⟨p, 0, none⟩), .int .i64 at'] w fun e w' => (∃ a b : Int, e = .returned (.tuple #[.int .i64 a, .int .i64 b, .int .i64 0]) ∧ ¬ share < a ∧ ¬ room < b ∧ ¬ a < 0 ∧ ¬ b < 0) ∧ Below w.heap.size w w' := by
  obtain ⟨es, gs, hl, hh⟩ := h
  refine (taken_led p r share room es gs at' w hl hh.fine).mono ?_
  rintro e w' ⟨rfl, hb⟩
  have hw : wi at' 0 4611686018427387904 = true := by simp [wi]; omega
  have h3 := (hh.later h2).rate
  have h4 := hh.room
  have h5 := sumR_bd hh.fine.e
  have h6 := takG_bd hh.fine.g hh.fine.gl at'
  rw [if_pos hw]
  exact ⟨⟨_, _, rfl, by omega, by omega, by omega, by omega⟩, hb⟩
set_option maxRecDepth 100000 in
set_option maxHeartbeats 2000000 in
theorem ledgerBound_any (share room : Int) (v : Value) (acts : List Turn) (till : Int) (w : World) (h : SAt Turn.cells 6 w v acts) :
    Calls Try.prog 3 #[.agg #[.int .i64 share, .int .i64 room], v, .int .i64 till] w fun e w' => e = .returned (.bool true) ∧ Below w.heap.size w w' := by
  obtain ⟨A, c, rfl⟩ := h.slice
  have hlen := h.len
  unfold maxLen at hlen
  have HS := Lib.hid h
  have HGE : Hid (∀ j, j < acts.length → acts[j]? = some (acts.getD j Turn0)) := Lib.hid fun j hj => by simp [List.getD, hj]
  clear h
  by_cases hg : acts.length ≤ 60 ∧ 0 ≤ till ∧ till ≤ 4611686018427387904
  · obtain ⟨g1, g2, g3⟩ := hg
    have k1 : ¬ 60 < (acts.length : Int) := by omega
    have k2 : ¬ till < 0 := by omega
    have k3 : ¬ 4611686018427387904 < till := by omega
    go_enter Try.func3, Try.ntmps3
    go_wp2_with fail
    refine (new_led share room _).mono ?_
    rintro e w1 ⟨hb1, ⟨h0, rfl⟩ | ⟨hok, p, r, rfl, hl1, hp, hr⟩⟩
    · go_wp2_with (go_at_call 10; refine (known_any _).mono ?_; rintro e w' ⟨rfl, hb⟩)
      go_ret
      exact ⟨rfl, ((bl_alloc (Below.refl _ _) _).trans (hb1.mono (by simp))).trans (hb.mono (by have := hb1.size; simp at this; omega))⟩
    · simp at hp hr
      have b0 : w1.cell? ⟨w.heap.size, 0, none⟩ = some (.int .i64 share) := bl_cell hb1 (by go_simp)
      have b1 : w1.cell? ⟨w.heap.size, 1, none⟩ = some (.int .i64 room) := bl_cell hb1 (by go_simp)
      have hbw : Below w.heap.size w w1 := (bl_alloc (Below.refl _ _) _).trans (hb1.mono (by simp))
      have hs1 := hb1.size
      simp at hs1
      have hst : Stands w1 p r share room 0 0 := by
        have : 0 ≤ share ∧ 0 ≤ room := by simp [newOk, wi] at hok; omega
        exact ⟨[], [], hl1, Fine.nil, by simp, by simp, by simp [sumR, takG, sumG]; omega, by simp [sumM]; omega⟩
      have HBW := Lib.hid hbw
      have HB0 := Lib.hid b0
      have HB1 := Lib.hid b1
      have HST := Lib.hid hst
      clear hb1 hok hl1 b0 b1 hbw hst
      go_wp2_with fail
      go_loopg [9, 10] acts.length (fun gg s9 s10 wr => ∃ (kk : Nat) (now : Int), kk ≤ acts.length ∧ acts.length - kk ≤ gg ∧ s10 = .int .i64 kk ∧ s9 = .int .i64 now ∧ 0 ≤ now ∧ now ≤ 4611686018427387904 ∧ Aside (Stands wr p r share room now kk) ∧ Aside (Below (w.heap.size + 1) w1 wr))
      case atStart => exact ⟨0, 0, Nat.zero_le _, by omega, rfl, rfl, by omega, by omega, HST.out, Below.refl _ _⟩
      case round =>
        obtain ⟨kk, now, hkk, hgg, rfl, rfl, n1, n2, HSD, HB⟩ := hrel
        have b0 := (HB.out.cell (p := ⟨w.heap.size, 0, none⟩) (by show w.heap.size < _; omega)).trans HB0.out
        have b1 := (HB.out.cell (p := ⟨w.heap.size, 1, none⟩) (by show w.heap.size < _; omega)).trans HB1.out
        have hs2 := HB.out.size
        by_cases hlt : kk < acts.length
        · have hltz : (kk : Int) < (acts.length : Int) := by omega
          have hgj := HGE.out kk hlt
          generalize acts.getD kk Turn0 = a at hgj
          rcases HS.out.below (HBW.out.trans (HB.out.mono (by omega))) with ⟨h1, h2⟩ | ⟨b, o, c2, h1, _, _, hrow⟩
          · subst h2; simp at hlt
          · have hA : A = some ⟨b, o, none⟩ := by injection h1
            obtain ⟨e0, e1, e2, e3, e4, e5⟩ := TurnAt.ofRow hrow hgj
            subst hA
            have hbs : b < wr.heap.size := World.block_lt_of_cell? wr ⟨b, o + kk * 6, none⟩ e0
            clear h1 hrow hgj
            by_cases hbad : now ≤ a.now ∧ a.now ≤ 4611686018427387904
            · obtain ⟨m1, m2⟩ := hbad
              have m3 : ¬ a.now < now := by omega
              have m4 : ¬ 4611686018427387904 < a.now := by omega
              obtain ⟨es, gs, hl, hh⟩ := HSD.out
              have hdo := does0_any p r share room es gs a kk wr hl (hh.later m1) (by omega)
              clear hl hh
              go_wp2_with fail
              refine hdo.mono ?_
              rintro e w2 ⟨⟨v', rfl⟩, hst2, hmv⟩
              have hst2 : Stands w2 p r share room a.now (kk + 1) := hst2
              have hb2 : Below (w.heap.size + 1) w1 w2 := HB.out.trans (hmv.below (by omega) (by omega) (by omega))
              have HST2 := Lib.hid hst2
              have HB2 := Lib.hid hb2
              have hs3 := hb2.size
              clear hdo hst2 hmv hb2 e0 e1 e2 e3 e4 e5 b0 b1
              go_wp2_with fail
              go_loopg [11] 2 (fun gg s11 wr => ∃ jj : Nat, jj ≤ 2 ∧ 2 - jj ≤ gg ∧ s11 = .int .i64 jj ∧ Aside (Below w2.heap.size w2 wr))
              case atStart => exact ⟨0, by omega, by omega, rfl, Below.refl _ _⟩
              case round =>
                obtain ⟨jj, hjj, hgg2, rfl, HBJ⟩ := hrel
                have hsj := HBJ.out.size
                have d0 := ((HB2.out.trans (HBJ.out.mono (by omega))).cell (p := ⟨w.heap.size, 0, none⟩) (by show w.heap.size < _; omega)).trans HB0.out
                have d1 := ((HB2.out.trans (HBJ.out.mono (by omega))).cell (p := ⟨w.heap.size, 1, none⟩) (by show w.heap.size < _; omega)).trans HB1.out
                by_cases hj2 : jj < 2
                · have hj2z : (jj : Int) < 2 := by omega
                  have hss := HST2.out.below HBJ.out
                  have HSS := Lib.hid hss
                  clear hss
                  by_cases hj1 : jj = 1
                  · subst hj1
                    have htk := taken_bound p r share room a.now (max a.now till) (kk + 1) wr HSS.out (by omega) (by omega) (by omega)
                    go_wp2_with fail
                    refine htk.mono ?_
                    rintro e w4 ⟨⟨ra, rb, rfl, q1, q2, q3, q4⟩, hb4⟩
                    have z0 := bl_cell hb4 d0
                    have z1 := bl_cell hb4 d1
                    have hs4 := hb4.size
                    have HB4 := Lib.hid hb4
                    clear htk hb4 d0 d1
                    go_wp2_with fail
                    all_goals try (exfalso; omega)
                    go_roundg (2 - (1 + 1))
                    case measure => omega
                    case rel => exact ⟨1 + 1, by omega, by omega, by go_num, bl_then HBJ.out HB4.out⟩
                  · have hj0 : jj = 0 := by omega
                    subst hj0
                    have htk := taken_bound p r share room a.now a.now (kk + 1) wr HSS.out (by omega) (by omega) (by omega)
                    go_wp2_with fail
                    refine htk.mono ?_
                    rintro e w4 ⟨⟨ra, rb, rfl, q1, q2, q3, q4⟩, hb4⟩
                    have z0 := bl_cell hb4 d0
                    have z1 := bl_cell hb4 d1
                    have hs4 := hb4.size
                    have HB4 := Lib.hid hb4
                    clear htk hb4 d0 d1
                    go_wp2_with fail
                    all_goals try (exfalso; omega)
                    go_roundg (2 - (0 + 1))
                    case measure => omega
                    case rel => exact ⟨0 + 1, by omega, by omega, by go_num, bl_then HBJ.out HB4.out⟩
                · have hj2z : ¬ (jj : Int) < 2 := by omega
                  go_wp2_with fail
                  go_roundg (acts.length - (kk + 1))
                  case measure => omega
                  case rel => exact ⟨kk + 1, a.now, by omega, by omega, by go_num, rfl, by omega, by omega, HST2.out.below HBJ.out, HB2.out.trans (HBJ.out.mono (by omega))⟩
            · go_wp2_with (first | (go_at_call 10; refine (known_any _).mono ?_; rintro e w' ⟨rfl, hb⟩) | (go_at_call 12; exfalso; omega))
              all_goals (go_ret; exact ⟨rfl, (HBW.out.trans (HB.out.mono (by omega))).trans (hb.mono (by omega))⟩)
        · have hltz : ¬ (kk : Int) < (acts.length : Int) := by omega
          have hke : kk = acts.length := by omega
          subst hke
          go_wp2_with (go_at_call 10; refine (known_any _).mono ?_; rintro e w' ⟨rfl, hb⟩)
          go_ret
          exact ⟨rfl, (HBW.out.trans (HB.out.mono (by omega))).trans (hb.mono (by omega))⟩
  · go_enter Try.func3, Try.ntmps3
    go_wp2_with (first | (go_at_call 10; refine (known_any _).mono ?_; rintro e w' ⟨rfl, hb⟩) | (go_at_call 11; exfalso; omega))
    all_goals (go_ret; exact ⟨rfl, (bl_alloc (Below.refl _ _) _).trans (hb.mono (by simp))⟩)
end Go.Proofs.Ytfnijjjfodpnnaa
