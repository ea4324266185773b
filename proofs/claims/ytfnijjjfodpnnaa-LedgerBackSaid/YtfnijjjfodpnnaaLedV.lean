/- Ledger: LedgerBack. -/
import Derived.Test.YtfnijjjfodpnnaaLedU
import Derived.Test.YtfnijjjfodpnnaaLedO
namespace Go.Proofs.Ytfnijjjfodpnnaa
open Go.RowKit Go.Shelf
set_option linter.unusedVariables false
set_option linter.unusedSimpArgs false

def SaneAt (w : World) (p r : Nat) (share room : Int) (n : Nat) : Prop := ∃ es gs, LedgerAt w p r share room es gs ∧ Sane es gs n
theorem getE_put {es : List En} {x : En} (h : (getE es x.i).isSome = false) : getE (putE es x) x.i = some x := by
  have hn := getE_none h
  rw [putE, h, if_neg (by decide)]
  unfold getE
  rw [List.find?_append]
  have : es.find? (fun e => decide (e.i = x.i)) = none := by
    rw [List.find?_eq_none]
    intro y hy
    simp only [decide_eq_true_eq]
    exact fun e => hn.1 (e ▸ List.mem_map.2 ⟨y, hy, rfl⟩)
  rw [this]
  simp
theorem delE_put {es : List En} {x : En} (h : (getE es x.i).isSome = false) : delE (putE es x) x.i = es := by
  have hn := getE_none h
  rw [putE, h, if_neg (by decide)]
  unfold delE
  rw [List.filter_append]
  have h1 : es.filter (fun e => decide (e.i ≠ x.i)) = es := filter_ne_self hn.1
  rw [h1]
  simp
set_option maxRecDepth 100000 in
set_option maxHeartbeats 2000000 in
theorem ledgerBack_any (v : Value) (acts : List Turn) (x : En) (now : Int) (w : World) (h : SAt Turn.cells 6 w v acts) :
    Calls Try.prog 5 #[v, .agg #[.int .i64 x.i, .int .i64 x.r, .int .i64 x.m], .int .i64 now] w fun e w' => e = .returned (.bool true) ∧ Below w.heap.size w w' := by
  obtain ⟨A, c, rfl⟩ := h.slice
  have hlen := h.len
  unfold maxLen at hlen
  have HS := Lib.hid h
  have HGE : Hid (∀ j, j < acts.length → acts[j]? = some (acts.getD j Turn0)) := Lib.hid fun j hj => by simp [List.getD, hj]
  clear h
  by_cases hg : acts.length ≤ 60
  · have k1 : ¬ 60 < (acts.length : Int) := by omega
    go_enter Try.func5, Try.ntmps5
    go_wp2_with fail
    refine (new_led 50 5000 _).mono ?_
    rintro e w1 ⟨hb1, ⟨h0, rfl⟩ | ⟨hok, p, r, rfl, hl1, hp, hr⟩⟩
    · exact absurd h0 (by decide)
    · simp at hp hr
      have b0 : w1.cell? ⟨w.heap.size, 0, none⟩ = some (.int .i64 x.i) := bl_cell hb1 (by go_simp)
      have b1 : w1.cell? ⟨w.heap.size, 1, none⟩ = some (.int .i64 x.r) := bl_cell hb1 (by go_simp)
      have b2 : w1.cell? ⟨w.heap.size, 2, none⟩ = some (.int .i64 x.m) := bl_cell hb1 (by go_simp)
      have hbw : Below w.heap.size w w1 := (bl_alloc (Below.refl _ _) _).trans (hb1.mono (by simp))
      have hs1 := hb1.size
      simp at hs1
      have hst : SaneAt w1 p r 50 5000 0 := ⟨[], [], hl1, Fine.nil, by simp, by simp⟩
      have HBW := Lib.hid hbw
      have HBX : Hid (w1.cell? ⟨w.heap.size, 0, none⟩ = some (.int .i64 x.i) ∧ w1.cell? ⟨w.heap.size, 1, none⟩ = some (.int .i64 x.r) ∧ w1.cell? ⟨w.heap.size, 2, none⟩ = some (.int .i64 x.m)) := Lib.hid ⟨b0, b1, b2⟩
      have HST := Lib.hid hst
      clear hb1 hok hl1 b0 b1 b2 hbw hst
      go_wp2_with fail
      go_loopg [9] acts.length (fun gg s9 wr => ∃ kk : Nat, kk ≤ acts.length ∧ acts.length - kk ≤ gg ∧ s9 = .int .i64 kk ∧ Aside (SaneAt wr p r 50 5000 kk) ∧ Aside (Below (w.heap.size + 1) w1 wr))
      case atStart => exact ⟨0, Nat.zero_le _, by omega, rfl, HST.out, Below.refl _ _⟩
      case round =>
        obtain ⟨kk, hkk, hgg, rfl, HSD, HB⟩ := hrel
        have hs2 := HB.out.size
        by_cases hlt : kk < acts.length
        · have hltz : (kk : Int) < (acts.length : Int) := by omega
          have hgj := HGE.out kk hlt
          generalize acts.getD kk Turn0 = a at hgj
          rcases HS.out.below (HBW.out.trans (HB.out.mono (by omega))) with ⟨h1, h2⟩ | ⟨b, o, c2, h1, _, _, hrow⟩
          · subst h2; simp at hlt
          · have hA : A = some ⟨b, o, none⟩ := by injection h1
            obtain ⟨e0, e1, e2, e3, e4, e5⟩ := TurnAt.ofRow hrow hgj
            subst hA
            have hbs : b < wr.heap.size := World.block_lt_of_cell? wr ⟨b, o + kk * 6, none⟩ e0
            clear h1 hrow hgj
            obtain ⟨es, gs, hl, hh⟩ := HSD.out
            have hdo := does0_sane p r 50 5000 es gs a kk wr hl hh (by omega)
            clear hl hh
            go_wp2_with fail
            refine hdo.mono ?_
            rintro e w2 ⟨⟨v', rfl⟩, hst2, hmv⟩
            have hb2 : Below (w.heap.size + 1) w1 w2 := HB.out.trans (hmv.below (by omega) (by omega) (by omega))
            have HST2 : Hid (SaneAt w2 p r 50 5000 (kk + 1)) := Lib.hid hst2
            have HB2 := Lib.hid hb2
            clear hdo hst2 hmv hb2 e0 e1 e2 e3 e4 e5
            go_wp2_with fail
            go_roundg (acts.length - (kk + 1))
            case measure => omega
            case rel => exact ⟨kk + 1, by omega, by omega, by go_num, HST2.out, HB2.out⟩
        · have hltz : ¬ (kk : Int) < (acts.length : Int) := by omega
          have hke : kk = acts.length := by omega
          subst hke
          obtain ⟨es, gs, hl, hh⟩ := HSD.out
          have hnd := hl.nodup
          have hgl := hh.gl
          have hcp := copy_led p r 50 5000 es gs wr hl (by omega)
          have hwr : Below w.heap.size w wr := HBW.out.trans (HB.out.mono (by omega))
          have HWR := Lib.hid hwr
          have HL := Lib.hid hl
          have HH := Lib.hid hh
          have HND := Lib.hid hnd
          have hplt := hl.lt
          obtain ⟨x0o, x1o, x2o⟩ := HBX.out
          have x0 := (HB.out.cell (p := ⟨w.heap.size, 0, none⟩) (by show w.heap.size < _; omega)).trans x0o
          have x1 := (HB.out.cell (p := ⟨w.heap.size, 1, none⟩) (by show w.heap.size < _; omega)).trans x1o
          have x2 := (HB.out.cell (p := ⟨w.heap.size, 2, none⟩) (by show w.heap.size < _; omega)).trans x2o
          have HX : Hid (∀ W, Below (w.heap.size + 1) wr W → W.cell? ⟨w.heap.size, 0, none⟩ = some (.int .i64 x.i) ∧ W.cell? ⟨w.heap.size, 1, none⟩ = some (.int .i64 x.r) ∧ W.cell? ⟨w.heap.size, 2, none⟩ = some (.int .i64 x.m)) := Lib.hid fun W hW =>
            ⟨(hW.cell (p := ⟨w.heap.size, 0, none⟩) (by show w.heap.size < _; omega)).trans x0, (hW.cell (p := ⟨w.heap.size, 1, none⟩) (by show w.heap.size < _; omega)).trans x1, (hW.cell (p := ⟨w.heap.size, 2, none⟩) (by show w.heap.size < _; omega)).trans x2⟩
          clear hl hh hnd hwr x0 x1 x2 x0o x1o x2o HSD hgl
          go_wp2_with fail
          refine hcp.mono ?_
          rintro e w2 ⟨p2, r2, rfl, hf2, hb2⟩
          have hs3 := hb2.size
          have HF2 := Lib.hid hf2
          have HB2 := Lib.hid hb2
          obtain ⟨x0, x1, x2⟩ := HX.out w2 (HB2.out.mono (by omega))
          clear hcp hf2 hb2
          go_wp2_with fail
          refine (fits_led p r 50 5000 es gs x now _ (HL.out.below HB2.out) HH.out.fine).mono ?_
          rintro e w3 ⟨rfl, hb3⟩
          have hs4 := hb3.size
          have HB3 := Lib.hid hb3
          clear hb3 x0 x1 x2
          have hq3 := same_yes p r p2 r2 50 5000 es es gs gs w3 ((HL.out.below HB2.out).below HB3.out) (HF2.out.below HB3.out).led (eqE_self HND.out)
          rw [eqS_self (steps_nodup gs)] at hq3
          generalize hy : firstQ (fitsQs 50 5000 es gs x now) = y
          have HY := Lib.hid hy
          clear hy
          go_wp2_with fail
          refine hq3.mono ?_
          rintro e w4 ⟨rfl, hb4⟩
          have hs5 := hb4.size
          have HB4 := Lib.hid hb4
          have hbb : Below wr.heap.size wr w4 := bl_then (bl_then HB2.out HB3.out) HB4.out
          have HBB := Lib.hid hbb
          obtain ⟨x0, x1, x2⟩ := HX.out w4 (hbb.mono (by omega))
          clear hb4 hbb hq3
          have hgv := give_led p r 50 5000 es gs x now w4 (HL.out.below HBB.out) HH.out.fine
          rw [HY.out] at hgv
          go_wp2_with fail
          refine hgv.mono ?_
          rintro e w5 ⟨rfl, hl5, hm5⟩
          have hs6 := hm5.size
          have hf5 := ((HF2.out.below HB3.out).below HB4.out).mov hm5 (by omega) (by omega)
          have hbb5 : Below (w.heap.size + 1) wr w5 := (HBB.out.mono (by omega)).trans (hm5.below (by omega) (by omega) (by omega))
          have HF5 := Lib.hid hf5
          have HBB5 := Lib.hid hbb5
          have HL5 := Lib.hid hl5
          obtain ⟨x0', x1', x2'⟩ := HX.out w5 hbb5
          clear hl5 hm5 hf5 hbb5 hgv x0 x1 x2
          by_cases hy0 : y = 0
          · subst hy0
            obtain ⟨hmay, hnot, h32⟩ := fits_ok HY.out
            have hl5 := HL5.out
            simp only [giveE, if_true] at hl5
            have hget := get_led p r 50 5000 (putE es x) gs x.i w5 hl5
            have hold : oldE (putE es x) x.i = x := by rw [oldE, getE_put hnot]; rfl
            rw [hold, getE_put hnot, Option.isSome_some] at hget
            have HLP := Lib.hid hl5
            have HMAY := Lib.hid hmay
            have HNOT := Lib.hid hnot
            have HOLD := Lib.hid hold
            clear hl5 hmay hnot hold HL5
            go_wp2_with fail
            refine hget.mono ?_
            rintro e w6 ⟨rfl, hb6⟩
            have hs7 := hb6.size
            have HB6 := Lib.hid hb6
            have x0 := bl_cell hb6 x0'
            have x1 := bl_cell hb6 x1'
            have x2 := bl_cell hb6 x2'
            have hneq := fun w => run_neq_en x x w
            rw [sameEn_self] at hneq
            have hlt6 : w.heap.size < w6.heap.size := by omega
            clear hb6 hget x0' x1' x2'
            go_wp2_with fail
            refine (same_no p r p2 r2 50 5000 (putE es x) es gs gs _ ((HLP.out.below HB6.out).below (bl_alloc (Below.refl _ _) _)) ((HF5.out.below HB6.out).below (bl_alloc (Below.refl _ _) _)).led (eqE_put HNOT.out)).mono ?_
            rintro e w8 ⟨rfl, hb8⟩
            have hb58 : Below w5.heap.size w5 w8 := bl_then (bl_alloc HB6.out _) hb8
            have hs8 := hb58.size
            have HB8 := Lib.hid hb58
            clear x0 x1 x2 hneq
            obtain ⟨x0, x1, x2⟩ := HX.out w8 (HBB5.out.trans (hb58.mono (by omega)))
            clear hb8 hb58
            have hbd := mayB_bd HMAY.out
            have hFP : Fine (putE es x) gs := putE_fine HH.out.fine ⟨hbd.2.2.1, hbd.2.2.2.1, hbd.2.2.2.2.1, hbd.2.2.2.2.2⟩ (Or.inr (by omega))
            have hwn : wi now 0 4611686018427387904 = true := by have := HMAY.out; simp [mayB] at this; exact this.2
            have hwi : wi x.i 0 2147483647 = true := by have := HMAY.out; simp [mayB] at this; exact this.1.1.1
            have hfy : freeY (putE es x) x.i now = 0 := by unfold freeY; rw [hwn, hwi, getE_put HNOT.out]; rfl
            have hfr := free_led p r 50 5000 (putE es x) gs x.i now w8 (HLP.out.below HB8.out) hFP
            rw [hfy, HOLD.out, delE_put HNOT.out] at hfr
            simp only [if_true] at hfr
            have HWN := Lib.hid hwn
            have hgl := HH.out.gl
            have hF9 : Fine es (lingG gs x.r now) := lingG_fine HH.out.fine hbd.2.2.2.1 (by omega)
            have HF9 := Lib.hid hF9
            have htg : takG (lingG gs x.r now) now = takG gs now := by rw [takG_ling, if_neg (by omega)]; omega
            have HTG := Lib.hid htg
            clear hbd hFP hwn hwi hfy hF9 htg hgl
            go_wp2_with fail
            refine hfr.mono ?_
            rintro e w9 ⟨rfl, hl9, hm9⟩
            have hs9 := hm9.size
            have hf9 := (HF5.out.below HB8.out).mov hm9 (by omega) (by omega)
            have hb9 : Below w.heap.size w w9 := (HWR.out.trans (HBB5.out.mono (by omega))).trans ((HB8.out.mono (by omega)).trans (hm9.below (by omega) (by omega) (by omega)))
            have ht1 := taken_led p r 50 5000 es (lingG gs x.r now) now w9 hl9 HF9.out
            simp only [HWN.out, if_true, HTG.out] at ht1
            have HF99 := Lib.hid hf9
            have HB99 := Lib.hid hb9
            clear hfr hl9 hm9 hf9 hb9 x0 x1 x2
            go_wp2_with fail
            refine ht1.mono ?_
            rintro e w10 ⟨rfl, hb10⟩
            have hs10 := hb10.size
            have ht2 := taken_led p2 r2 50 5000 es gs now w10 (HF99.out.below hb10).led HH.out.fine
            simp only [HWN.out, if_true] at ht2
            generalize sumR es + takG gs now = ra at ht2 ⊢
            generalize sumM es = rb at ht2 ⊢
            have HB10 := Lib.hid hb10
            clear ht1 hb10
            go_wp2_with fail
            refine ht2.mono ?_
            rintro e w11 ⟨rfl, hb11⟩
            clear ht2
            go_wp2_with (go_at_call 10; refine (known_any _).mono ?_; rintro e w' ⟨rfl, hb⟩)
            go_ret
            exact ⟨rfl, HB99.out.trans ((bl_then (bl_then HB10.out hb11) hb).mono (by omega))⟩
          · have hl5 := HL5.out
            simp only [giveE, if_neg hy0] at hl5
            have hq5 := same_yes p r p2 r2 50 5000 es es gs gs w5 hl5 HF5.out.led (eqE_self HND.out)
            rw [eqS_self (steps_nodup gs)] at hq5
            have hyz : (y == 0) = false := beq_eq_false_iff_ne.2 hy0
            clear hl5 HL5 x0' x1' x2'
            go_wp2_with fail
            refine hq5.mono ?_
            rintro e w6 ⟨rfl, hb6⟩
            clear hq5
            go_wp2_with (go_at_call 10; refine (known_any _).mono ?_; rintro e w' ⟨rfl, hb⟩)
            go_ret
            exact ⟨rfl, (HWR.out.trans (HBB5.out.mono (by omega))).trans ((bl_then hb6 hb).mono (by omega))⟩
  · go_enter Try.func5, Try.ntmps5
    have k1 : 60 < (acts.length : Int) := by omega
    go_wp2_with (go_at_call 10; refine (known_any _).mono ?_; rintro e w' ⟨rfl, hb⟩)
    all_goals (go_ret; exact ⟨rfl, (bl_alloc (Below.refl _ _) _).trans (hb.mono (by simp))⟩)
end Go.Proofs.Ytfnijjjfodpnnaa
