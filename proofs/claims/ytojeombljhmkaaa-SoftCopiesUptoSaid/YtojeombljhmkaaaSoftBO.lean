/- Soft: SoftPlay. -/
import Derived.Test.YtojeombljhmkaaaSoftMB
import Derived.Test.YtojeombljhmkaaaTake
namespace Go.Proofs.Ytojeombljhmkaaa
open Go.RowKit Go.Shelf Go.Sort
set_option linter.unusedVariables false
set_option linter.unusedSimpArgs false
attribute [local go_sem] Oper.semAt_some
theorem Stp.trans {w W1 W2 : World} {B p r : Nat} {now now1 now2 : Int} {L L1 L2 : List Th} {es es1 es2 : List (Nat × Th)} {v v1 v2 : Value}
    (h : Stp w B p r es v W1 now1 L1 es1 v1) (h0 : Two w p r now L es v) (hw : w.heap.size ≤ B) (hB : B ≤ W1.heap.size) (h2 : Stp W1 W1.heap.size p r es1 v1 W2 now2 L2 es2 v2) : Stp w B p r es v W2 now2 L2 es2 v2 :=
  ⟨h2.two, fun i hi => (h2.grew i hi).elim (fun h3 => h.grew i h3) fun h3 => .inr (Nat.le_trans hB h3), fun j hj => (h2.fresh j hj).elim (fun h3 => h.fresh j h3) fun h3 => .inr (Nat.le_trans hB h3),
   h.mov.trans h2.mov fun i hi hs => (h.grew i hs).elim (fun h3 => h3) fun h3 => by omega⟩
/-- Between two calls: the table, and the document's in a box. -/
def PlayT (w0 W : World) (p r : Nat) : Prop :=
  ∃ now L es v, Stp w0 (w0.heap.size + 1) p r [] (.slice none 0 0) W now L es v ∧ W.heap[w0.heap.size]? = some (.cells #[.int .i64 now, v] 47 (0, 0)) ∧ ∀ y ∈ L, namedB y.name = true
theorem Stp.size {w W : World} {B p r : Nat} {now : Int} {L : List Th} {es es' : List (Nat × Th)} {v u : Value} (h : Stp w B p r es v W now L es' u) : w.heap.size ≤ W.heap.size := h.mov.size
/-- The box is kept. -/
theorem Stp.box {w W W1 : World} {p r : Nat} {now now1 : Int} {L L1 : List Th} {es es1 es2 : List (Nat × Th)} {v v1 v2 : Value} {o : Obj} (h0 : Two w p r 0 [] es v)
    (h : Stp w (w.heap.size + 1) p r es v W now L es1 v1) (h2 : Stp W W.heap.size p r es1 v1 W1 now1 L1 es2 v2) (hb : W.heap[w.heap.size]? = some o) : W1.heap[w.heap.size]? = some o :=
  (h2.mov.block _ (Array.getElem?_eq_some_iff.1 hb).1 fun hs => (h.grew _ hs).elim (fun h3 => by have := h0.tb.tab.lt _ h3; omega) fun h3 => by omega).trans hb
theorem Stp.back {w W W2 : World} {p r : Nat} {es es' : List (Nat × Th)} {v u : Value} {now' : Int} {L' : List Th} (hW : Below w.heap.size w W) (h : Stp W W.heap.size p r es v W2 now' L' es' u) : Stp w W.heap.size p r es v W2 now' L' es' u :=
  ⟨h.two, h.grew, h.fresh, (MovS.ofBelow hW : MovS (TSet p r es) w W).trans h.mov fun i _ hi => hi⟩
/-- A call of does between two calls, whatever was laid ahead of it. -/
theorem play_does {w0 wr : World} {p r : Nat} {now : Int} {L : List Th} {es : List (Nat × Th)} {v : Value} (a : Ac) (H0 : Two w0 p r 0 [] [] (.slice none 0 0))
    (hst : Stp w0 (w0.heap.size + 1) p r [] (.slice none 0 0) wr now L es v) (hbx : wr.heap[w0.heap.size]? = some (.cells #[.int .i64 now, v] 47 (0, 0))) (W : World) (hW : Below wr.heap.size wr W) :
    Calls Try.prog 18 #[.pointer (some ⟨p, 0, none⟩), .agg #[.int .i64 now, v], .agg #[.int .i64 a.kind, .string a.name, .int .i64 a.n]] W fun e w' => ∃ u es', e = .returned (.tuple #[.agg #[.int .i64 (doL now L a).1, u], .bool true]) ∧
      (∀ W2, (W2 = w' ∨ ∃ i x y, wr.heap.size ≤ i ∧ i < W.heap.size ∧ W2 = (w'.setCell ⟨i, 0, none⟩ x).setCell ⟨i, 1, none⟩ y) →
        Stp w0 (w0.heap.size + 1) p r [] (.slice none 0 0) W2 (doL now L a).1 (doL now L a).2 es' u ∧ W2.heap[w0.heap.size]? = some (.cells #[.int .i64 now, v] 47 (0, 0))) ∧
      (∀ i, wr.heap.size ≤ i → i < W.heap.size → w'.heap[i]? = W.heap[i]?) := by
  refine (does_any p r now L es v a W (hst.two.below hW)).mono ?_
  rintro e w' ⟨u, es', rfl, h1⟩
  have hq1 := (Array.getElem?_eq_some_iff.1 hbx).1
  have hws := hW.size
  have hbW : W.heap[w0.heap.size]? = some (.cells #[.int .i64 now, v] 47 (0, 0)) := (hW.block _ hq1).trans hbx
  have hbw' := Stp.box H0 (hst.below hW) h1 hbW
  refine ⟨u, es', rfl, ?_, fun i h2 h3 => h1.mov.block i h3 fun hs => by have := hst.two.tb.tab.lt i hs; omega⟩
  rintro W2 (rfl | ⟨i, x, y, h2, h3, rfl⟩)
  · exact ⟨hst.trans H0 (by omega) (by omega) ((h1.back hW).from hws), hbw'⟩
  · have h4 := ((h1.back hW).set hst.two (q := ⟨i, 0, none⟩) h2 h3 x).set hst.two (q := ⟨i, 1, none⟩) h2 h3 y
    exact ⟨hst.trans H0 (by omega) (by omega) (h4.from hws), (heap_set_other (by show w0.heap.size ≠ i; omega)).trans ((heap_set_other (by show w0.heap.size ≠ i; omega)).trans hbw')⟩
theorem eq_th (x : Th) (w : World) : (binOp .eql 35 x.val x.val).run Try.prog w = .ok (.bool true) w := by
  simp [go_sem]
theorem two_new {w : World} {p r : Nat} (h : Tb w p r 0 [] []) : Two w p r 0 [] [] (.slice none 0 0) := ⟨h, .inl ⟨rfl, rfl⟩, fun j hj => by simp [Value.ownBlock] at hj⟩
theorem play_start {w0 : World} {p r : Nat} (h : Two w0 p r 0 [] [] (.slice none 0 0)) : PlayT w0 (w0.alloc (.cells #[.int .i64 0, .slice none 0 0] 47)) p r := by
  have hs := h.still (bl_alloc (Below.refl w0.heap.size w0) (.cells #[.int .i64 0, .slice none 0 0] 47))
  exact ⟨0, [], [], _, hs.from (by simp), at_alloc rfl, fun y hy => by simp at hy⟩
set_option maxRecDepth 100000 in
set_option maxHeartbeats 1000000 in
theorem softPlay_any (v : Value) (acts : List Ac) (s : ByteArray) (n : Int) (w : World) (h : SAt Ac.cells 3 w v acts) :
    Calls Try.prog 6 #[v, .string s, .int .i64 n] w fun e w' => e = .returned (.bool true) ∧ Below w.heap.size w w' := by
  have hfw := few_any v acts 50 w h
  obtain ⟨A, c, rfl⟩ := h.slice
  have hlen := h.len
  unfold maxLen at hlen
  obtain ⟨Q, hQ⟩ : ∃ Q : Ending → World → Prop, Q = fun e w' => e = .returned (.bool true) ∧ Below w.heap.size w w' := ⟨_, rfl⟩
  rw [← hQ]
  have HQ := Lib.hid hQ
  have HS := Lib.hid h
  have HK := Lib.hid (known_any w)
  have HKA : Hid (∀ W, Calls Try.prog 9 #[] W fun e w' => e = .returned (.bool true) ∧ Below W.heap.size W w') := Lib.hid known_any
  clear hQ h
  cases hfb : fewB acts 50 with
  | false =>
    rw [hfb] at hfw
    have HF := Lib.hid hfw
    clear hfw hfb
    go_enter Try.func6, Try.ntmps6
    go_wp2_with (first | (go_at_call 17; refine HF.out.mono ?_; rintro e w1 ⟨rfl, rfl⟩) | (go_at_call 9; refine HK.out.mono ?_; rintro e w1 ⟨rfl, hb⟩; have HB := Lib.hid hb; clear hb))
    rw [HQ.out]
    exact ⟨rfl, HB.out⟩
  | true =>
    rw [hfb] at hfw
    have HF := Lib.hid hfw
    clear hfw hfb
    by_cases hs : 200 < s.size
    · have hsz : (200 : Int) < (s.size : Int) := by omega
      clear hs
      go_enter Try.func6, Try.ntmps6
      go_wp2_with (first | (go_at_call 17; refine HF.out.mono ?_; rintro e w1 ⟨rfl, rfl⟩) | (go_at_call 9; refine HK.out.mono ?_; rintro e w1 ⟨rfl, hb⟩; have HB := Lib.hid hb; clear hb))
      rw [HQ.out]
      exact ⟨rfl, HB.out⟩
    · have hsz : ¬ (200 : Int) < (s.size : Int) := by omega
      have HNW := Lib.hid (new_all w)
      clear hs HK
      go_enter Try.func6, Try.ntmps6
      go_upto_region 4 with (first | (go_at_call 17; refine HF.out.mono ?_; rintro e w1 ⟨rfl, rfl⟩) | (go_at_call 10; refine HNW.out.mono ?_; rintro e w0 ⟨p, r, rfl, hp, hr, ht, hb⟩; have HSE : Hid (∀ i, TSet p r [] i → w.heap.size ≤ i) := Lib.hid (by rintro i (rfl | rfl | h); exact hp; exact hr; simp at h); have H0 := Lib.hid (two_new ht); have HB := Lib.hid hb; clear ht hb hp hr))
      have HPS := Lib.hid (play_start H0.out)
      go_wp2_with fail
      obtain ⟨q, hq⟩ : ∃ q, q = w0.heap.size := ⟨_, rfl⟩
      rw [← hq]
      have HQQ := Lib.hid hq
      have HB0 : Hid (∀ W, PlayT w0 W p r → Below w.heap.size w W) := Lib.hid fun W ⟨_, _, _, _, h1, _, _⟩ => HB.out.trans (h1.mov.below HSE.out HB.out.size)
      clear hq
      go_loopg [9] (acts.length + 1) (fun gg s9 wr => ∃ k : Nat, k ≤ acts.length ∧ acts.length - k ≤ gg ∧ s9 = .int .i64 k ∧ Aside (PlayT w0 wr p r))
      case atStart => exact ⟨0, by omega, by omega, rfl, HPS.out⟩
      case round =>
        obtain ⟨k, hk, hgg, rfl, HP⟩ := hrel
        by_cases hlt : k < acts.length
        · have hltz : (k : Int) < (acts.length : Int) := by omega
          have hgk : acts[k]? = some acts[k] := List.getElem?_eq_getElem hlt
          generalize acts[k] = a at hgk
          have hbw := HB0.out _ HP.out
          obtain ⟨now, L, es, v, hst, hbx, hnm⟩ := HP.out
          obtain ⟨A1, c1, rfl⟩ := hst.two.sl.slice
          obtain ⟨g0, g1, f0, f1⟩ := cells2 hbx
          rw [← HQQ.out] at g0 g1 f0 f1
          obtain ⟨N', hN⟩ : ∃ N', N' = (doL now L a).1 := ⟨_, rfl⟩
          obtain ⟨L', hL⟩ : ∃ L', L' = (doL now L a).2 := ⟨_, rfl⟩
          have hnm' := doL_names (now := now) a hnm
          rw [← hL] at hnm'
          have HDO : Hid (∀ W, Below wr.heap.size wr W → Calls Try.prog 18 #[.pointer (some ⟨p, 0, none⟩), .agg #[.int .i64 now, .slice A1 L.length c1], .agg #[.int .i64 a.kind, .string a.name, .int .i64 a.n]] W fun e w' => ∃ u es', e = .returned (.tuple #[.agg #[.int .i64 N', u], .bool true]) ∧
              (∀ W2, (W2 = w' ∨ ∃ i x y, wr.heap.size ≤ i ∧ i < W.heap.size ∧ W2 = (w'.setCell ⟨i, 0, none⟩ x).setCell ⟨i, 1, none⟩ y) →
                Stp w0 (w0.heap.size + 1) p r [] (.slice none 0 0) W2 N' L' es' u ∧ W2.heap[w0.heap.size]? = some (.cells #[.int .i64 now, .slice A1 L.length c1] 47 (0, 0))) ∧
              (∀ i, wr.heap.size ≤ i → i < W.heap.size → w'.heap[i]? = W.heap[i]?)) := Lib.hid fun W hW => by
            rw [hN, hL]
            exact play_does a H0.out hst hbx W hW
          rcases HS.out.below hbw with ⟨h1, h2⟩ | ⟨b, o, c', h1, _, _, hrow⟩
          · subst h2; simp at hlt
          · simp only [Value.slice.injEq] at h1
            obtain ⟨rfl, -, rfl⟩ := h1
            obtain ⟨c0, c1', c2⟩ := ac_row hrow hgk
            have HNM := Lib.hid hnm'
            have hal : Below wr.heap.size wr (wr.alloc (.cells #[.int .i64 0, .slice none 0 0] 47)) := bl_alloc (Below.refl _ _) _
            have d0 := bl_cell hal c0
            have d1 := bl_cell hal c1'
            have d2 := bl_cell hal c2
            have d3 := bl_cell hal g0
            have d4 := bl_cell hal g1
            clear hal
            clear hrow hgk hbw hst hbx hnm hnm' hN hL
            go_upto_region 8 with fail
            first
            | go_region_law (go_simp; refine (HDO.out _ (by repeat (first | exact Below.refl _ _ | refine bl_drew ?_ | refine bl_drewN ?_ _ | refine bl_alloc ?_ _))).mono ?_; rintro e w4 ⟨u, es', rfl, hall, hot⟩; obtain ⟨A5, c5, rfl⟩ := (hall w4 (.inl rfl)).1.two.sl.slice; have HALL := Lib.hid hall; (try (have ha := (hot wr.heap.size (Nat.le_refl _) (by simp)).trans (at_alloc rfl); obtain ⟨e0, e1, e2, e3⟩ := cells2 ha; have HA := Lib.hid ha; clear ha)); clear hall hot)
            | fail "law"
            all_goals
              first
              | (have h5 := HALL.out _ (.inr ⟨wr.heap.size, .int .i64 N', .slice A5 L'.length c5, Nat.le_refl _, by simp, rfl⟩)
                 have hst5 := h5.1
                 have hbx5 := h5.2
                 have ht5 : ((w4.setCell ⟨wr.heap.size, 0, none⟩ (.int .i64 N')).setCell ⟨wr.heap.size, 1, none⟩ (.slice A5 L'.length c5)).heap[wr.heap.size]? = some (.cells #[.int .i64 N', .slice A5 L'.length c5] 47 (0, 0)) := (heap_set (heap_set HA.out)).trans rfl
                 clear h5 HALL HA e0 e1 e2 e3
                 generalize ((w4.setCell ⟨wr.heap.size, 0, none⟩ (.int .i64 N')).setCell ⟨wr.heap.size, 1, none⟩ (.slice A5 L'.length c5)) = w5 at hst5 hbx5 ht5 ⊢
                 generalize wr.heap.size = t5 at ht5 ⊢)
              | (have hb5 := bl_alloc (Below.refl w4.heap.size w4) (.cells #[.int .i64 N', .slice A5 L'.length c5] 47)
                 have h5 := HALL.out w4 (.inl rfl)
                 have hst5 := h5.1.below hb5
                 have hbx5 := (hb5.block _ (Array.getElem?_eq_some_iff.1 h5.2).1).trans h5.2
                 have ht5 : (w4.alloc (.cells #[.int .i64 N', .slice A5 L'.length c5] 47)).heap[w4.heap.size]? = some (.cells #[.int .i64 N', .slice A5 L'.length c5] 47 (0, 0)) := at_alloc rfl
                 clear h5 hb5 HALL
                 generalize (w4.alloc (.cells #[.int .i64 N', .slice A5 L'.length c5] 47)) = w5 at hst5 hbx5 ht5 ⊢
                 generalize w4.heap.size = t5 at ht5 ⊢)
              clear g0 g1 f0 f1 c0 c1' c2 d0 d1 d2 d3 d4 HDO
              obtain ⟨k0, k1, -, -⟩ := cells2 ht5
              have HSM := Lib.hid (same_any p r N' L' es' _ w5 hst5.two.tb hst5.two.sl)
              have HST5 := Lib.hid hst5
              have HBX5 := Lib.hid hbx5
              have HT5 := Lib.hid ht5
              clear hst5 hbx5 ht5
              go_upto_region 11 with (go_at_call 19; refine HSM.out.mono ?_; rintro e w6 ⟨rfl, hb6⟩; have hbx6 := (hb6.block _ (Array.getElem?_eq_some_iff.1 HBX5.out).1).trans HBX5.out; obtain ⟨g0, g1, f0, f1⟩ := cells2 hbx6; rw [← HQQ.out] at g0 g1 f0 f1; have k0 := bl_cell hb6 k0; have k1 := bl_cell hb6 k1; have HST6 := Lib.hid (HST5.out.below hb6); have HBX6 := Lib.hid hbx6; clear hbx6 hb6)
              go_wp2_with fail
              go_roundg (acts.length - (k + 1))
              case measure => omega
              case rel =>
                refine ⟨k + 1, by omega, by omega, by go_num, (show PlayT w0 _ p r from ?_)⟩
                rw [HQQ.out]
                exact ⟨N', L', es', _, (HST6.out.set H0.out (q := ⟨w0.heap.size, 0, none⟩) (Nat.le_refl _) (by show w0.heap.size < w0.heap.size + 1; omega) (.int .i64 N')).set H0.out (q := ⟨w0.heap.size, 1, none⟩) (Nat.le_refl _) (by show w0.heap.size < w0.heap.size + 1; omega) _, (heap_set (heap_set HBX6.out)).trans rfl, HNM.out⟩
        · obtain rfl : k = acts.length := by omega
          have hltz : ¬ ((acts.length : Nat) : Int) < ((acts.length : Nat) : Int) := by omega
          have hbw := HB0.out _ HP.out
          obtain ⟨now, L, es, v, hst, hbx, hnm⟩ := HP.out
          obtain ⟨A1, c1, rfl⟩ := hst.two.sl.slice
          obtain ⟨g0, g1, f0, f1⟩ := cells2 hbx
          rw [← HQQ.out] at g0 g1 f0 f1
          have hgl := getL_find (s := s) hnm
          have hge := get_all p r now L es s wr hst.two.tb
          rw [hgl] at hge
          have HFI : Hid (∀ W, Below wr.heap.size wr W → Calls Try.prog 20 #[.agg #[.int .i64 now, .slice A1 L.length c1], .string s] W fun e w' => e = .returned (.int .i64 (placeI L s)) ∧ Below W.heap.size W w') := Lib.hid fun W hW => rfind_any now _ L s W (hst.two.sl.below hW)
          have HSL := Lib.hid hst.two.sl
          have HBW := Lib.hid hbw
          obtain ⟨z, hz⟩ : ∃ z, z = lifeI n := ⟨_, rfl⟩
          have HLF : Hid (∀ W, Calls Try.prog 15 #[.int .i64 n] W fun e w' => e = .returned (.int .i64 z) ∧ W = w') := Lib.hid fun W => by rw [hz]; exact life_any n W
          have HRL : Hid (∀ W, Calls Try.prog 21 #[.int .i64 n] W fun e w' => e = .returned (.int .i64 z) ∧ W = w') := Lib.hid fun W => by rw [hz]; exact rlife_any n W
          have hzz : (z == z) = true := by simp
          clear hgl hbw hst hbx hnm HPS HNW HF hz f0 f1
          cases hf : findL L s with
          | none =>
            rw [hf] at hge
            rw [place_find_none hf] at HFI
            have hge' : Calls Try.prog 14 #[.pointer (some ⟨p, 0, none⟩), .string s] wr fun e w' => e = .returned (.tuple #[.agg #[.string ByteArray.empty, .int .i64 0, .int .i64 0, .int .i64 0], .bool false]) ∧ Below wr.heap.size wr w' := hge
            have HGE := Lib.hid hge'
            have heq := eq_th ⟨ByteArray.empty, 0, 0, 0⟩
            dsimp only [Th.val] at heq
            clear hge hge' hf
            go_upto_region 14 with (first | (go_at_call 14; refine HGE.out.mono ?_; rintro e w3 ⟨rfl, hb3⟩; have g0 := bl_cell hb3 g0; have g1 := bl_cell hb3 g1; have a0 := bl_cell (bl_alloc (Below.refl w3.heap.size w3) (.cells #[.string ByteArray.empty, .int .i64 0, .int .i64 0, .int .i64 0] 35)) g0; have a1 := bl_cell (bl_alloc (Below.refl w3.heap.size w3) (.cells #[.string ByteArray.empty, .int .i64 0, .int .i64 0, .int .i64 0] 35)) g1; have HB3 := Lib.hid hb3; clear hb3) | (go_at_call 20; refine (HFI.out _ (bl_then HB3.out (bl_alloc (Below.refl _ _) _))).mono ?_; rintro e w4 ⟨rfl, hb4⟩; have ht4 : w4.heap[w3.heap.size]? = some (.cells #[.string ByteArray.empty, .int .i64 0, .int .i64 0, .int .i64 0] 35 (0, 0)) := (hb4.block w3.heap.size (by simp)).trans (at_alloc rfl); have g0 := bl_cell hb4 (bl_cell (bl_alloc (Below.refl _ _) _) g0); have g1 := bl_cell hb4 (bl_cell (bl_alloc (Below.refl _ _) _) g1); obtain ⟨k0, k1, k2, k3, -, -, -, -⟩ := cells4 ht4; have HB4 := Lib.hid (bl_then HB3.out (bl_then (bl_alloc (Below.refl _ _) _) hb4)); clear hb4 ht4 a0 a1))
            have HX : Hid (∀ W, Below w4.heap.size w4 W → (fun w' => w'.cell? ⟨w3.heap.size, 0, none⟩ = some (.string ByteArray.empty) ∧ w'.cell? ⟨w3.heap.size, 1, none⟩ = some ( .int .i64 0) ∧ w'.cell? ⟨w3.heap.size, 2, none⟩ = some ( .int .i64 0) ∧ w'.cell? ⟨w3.heap.size, 3, none⟩ = some ( .int .i64 0)) W) := Lib.hid fun W hW => ⟨bl_cell hW k0, bl_cell hW k1, bl_cell hW k2, bl_cell hW k3⟩
            clear k0 k1 k2 k3 g0 g1
            refine wp_region_held_drew (S := (fun w' => w'.cell? ⟨w3.heap.size, 0, none⟩ = some (.string ByteArray.empty) ∧ w'.cell? ⟨w3.heap.size, 1, none⟩ = some ( .int .i64 0) ∧ w'.cell? ⟨w3.heap.size, 2, none⟩ = some ( .int .i64 0) ∧ w'.cell? ⟨w3.heap.size, 3, none⟩ = some ( .int .i64 0))) (by kernel_rfl) (HX.out _ (bl_drew (Below.refl _ _))) (fun hHeld => ?_)
            refine take_yes (i := 0) (v := ?_) rfl (by kernel_rfl) (by kernel_rfl) (by kernel_rfl) (fun _ _ _ h => h) (by kernel_rfl) (by assumption) ?_ ?_
            rotate_left 1
            · (intro w hSw; (try dsimp only at hSw); go_simp; try with_reducible rfl)
            try simp only [Act.put, List.setIfInBounds_toArray, List.set_cons_zero, List.set_cons_succ]
            refine take_yes (i := 1) (v := ?_) rfl (by kernel_rfl) (by kernel_rfl) (by kernel_rfl) (fun _ _ _ h => h) (by kernel_rfl) (by assumption) ?_ ?_
            rotate_left 1
            · (intro w hSw; (try dsimp only at hSw); go_simp; try with_reducible rfl)
            try simp only [Act.put, List.setIfInBounds_toArray, List.set_cons_zero, List.set_cons_succ]
            refine take_yes (i := 2) (v := ?_) rfl (by kernel_rfl) (by kernel_rfl) (by kernel_rfl) (fun _ _ _ h => h) (by kernel_rfl) (by assumption) ?_ ?_
            rotate_left 1
            · (intro w hSw; (try dsimp only at hSw); go_simp; try with_reducible rfl)
            try simp only [Act.put, List.setIfInBounds_toArray, List.set_cons_zero, List.set_cons_succ]
            refine take_yes (i := 3) (v := ?_) rfl (by kernel_rfl) (by kernel_rfl) (by kernel_rfl) (fun _ _ _ h => h) (by kernel_rfl) (by assumption) ?_ ?_
            rotate_left 1
            · (intro w hSw; (try dsimp only at hSw); go_simp; try with_reducible rfl)
            try simp only [Act.put, List.setIfInBounds_toArray, List.set_cons_zero, List.set_cons_succ]
            refine take_yes (i := 4) (v := ?_) rfl (by kernel_rfl) (by kernel_rfl) (by kernel_rfl) (fun _ _ _ h => h) (by kernel_rfl) (by assumption) ?_ ?_
            rotate_left 1
            · (intro w hSw; (try dsimp only at hSw); go_simp; try with_reducible rfl)
            try simp only [Act.put, List.setIfInBounds_toArray, List.set_cons_zero, List.set_cons_succ]
            refine take_yes (i := 5) (v := ?_) rfl (by kernel_rfl) (by kernel_rfl) (by kernel_rfl) (fun _ _ _ h => h) (by kernel_rfl) (by assumption) ?_ ?_
            rotate_left 1
            · (intro w hSw; (try dsimp only at hSw); go_simp; try with_reducible rfl)
            try simp only [Act.put, List.setIfInBounds_toArray, List.set_cons_zero, List.set_cons_succ]
            refine take_yes (i := 6) (v := ?_) rfl (by kernel_rfl) (by kernel_rfl) (by kernel_rfl) (fun _ _ _ h => h) (by kernel_rfl) (by assumption) ?_ ?_
            rotate_left 1
            · (intro w hSw; (try dsimp only at hSw); go_simp; try with_reducible rfl)
            try simp only [Act.put, List.setIfInBounds_toArray, List.set_cons_zero, List.set_cons_succ]
            refine take_yes (i := 7) (v := ?_) rfl (by kernel_rfl) (by kernel_rfl) (by kernel_rfl) (fun _ _ _ h => h) (by kernel_rfl) (by assumption) ?_ ?_
            rotate_left 1
            · (intro w hSw; (try dsimp only at hSw); go_simp; try with_reducible rfl)
            try simp only [Act.put, List.setIfInBounds_toArray, List.set_cons_zero, List.set_cons_succ]
            refine take_no (i := 8) rfl (by kernel_rfl) (by kernel_rfl) (by kernel_rfl) (fun _ _ _ h => h) (by rfl) (by assumption) ?_
            try simp only [Act.put, List.setIfInBounds_toArray, List.set_cons_zero, List.set_cons_succ]
            refine take_no (i := 9) rfl (by kernel_rfl) (by kernel_rfl) (by kernel_rfl) (fun _ _ _ h => h) (by rfl) (by assumption) ?_
            try simp only [Act.put, List.setIfInBounds_toArray, List.set_cons_zero, List.set_cons_succ]
            refine take_no (i := 10) rfl (by kernel_rfl) (by kernel_rfl) (by kernel_rfl) (fun _ _ _ h => h) (by rfl) (by assumption) ?_
            try simp only [Act.put, List.setIfInBounds_toArray, List.set_cons_zero, List.set_cons_succ]
            refine take_no (i := 11) rfl (by kernel_rfl) (by kernel_rfl) (by kernel_rfl) (fun _ _ _ h => h) (by rfl) (by assumption) ?_
            try simp only [Act.put, List.setIfInBounds_toArray, List.set_cons_zero, List.set_cons_succ]
            refine take_no (i := 12) rfl (by kernel_rfl) (by kernel_rfl) (by kernel_rfl) (fun _ _ _ h => h) (by rfl) (by assumption) ?_
            try simp only [Act.put, List.setIfInBounds_toArray, List.set_cons_zero, List.set_cons_succ]
            refine take_no (i := 13) rfl (by kernel_rfl) (by kernel_rfl) (by kernel_rfl) (fun _ _ _ h => h) (by rfl) (by assumption) ?_
            try simp only [Act.put, List.setIfInBounds_toArray, List.set_cons_zero, List.set_cons_succ]
            refine take_no (i := 14) rfl (by kernel_rfl) (by kernel_rfl) (by kernel_rfl) (fun _ _ _ h => h) (by rfl) (by assumption) ?_
            try simp only [Act.put, List.setIfInBounds_toArray, List.set_cons_zero, List.set_cons_succ]
            refine take_yes (i := 15) (v := ?_) rfl (by kernel_rfl) (by kernel_rfl) (by kernel_rfl) (fun _ _ _ h => h) (by kernel_rfl) (by assumption) ?_ ?_
            rotate_left 1
            · (intro w hSw; (try dsimp only at hSw); go_simp; try with_reducible rfl)
            try simp only [Act.put, List.setIfInBounds_toArray, List.set_cons_zero, List.set_cons_succ]
            refine take_yes (i := 16) (v := ?_) rfl (by kernel_rfl) (by kernel_rfl) (by kernel_rfl) (fun _ _ _ h => h) (by kernel_rfl) (by assumption) ?_ ?_
            rotate_left 1
            · (intro w hSw; (try dsimp only at hSw); go_simp; try with_reducible rfl)
            try simp only [Act.put, List.setIfInBounds_toArray, List.set_cons_zero, List.set_cons_succ]
            refine take_yes (i := 17) (v := ?_) rfl (by kernel_rfl) (by kernel_rfl) (by kernel_rfl) (fun _ _ _ h => h) (by kernel_rfl) (by assumption) ?_ ?_
            rotate_left 1
            · (intro w hSw; (try dsimp only at hSw); go_simp; try with_reducible rfl)
            try simp only [Act.put, List.setIfInBounds_toArray, List.set_cons_zero, List.set_cons_succ]
            refine take_yes (i := 18) (v := ?_) rfl (by kernel_rfl) (by kernel_rfl) (by kernel_rfl) (fun _ _ _ h => h) (by kernel_rfl) (by assumption) ?_ ?_
            rotate_left 1
            · (intro w hSw; (try dsimp only at hSw); go_simp; try with_reducible rfl)
            try simp only [Act.put, List.setIfInBounds_toArray, List.set_cons_zero, List.set_cons_succ]
            refine take_yes (i := 19) (v := ?_) rfl (by kernel_rfl) (by kernel_rfl) (by kernel_rfl) (fun _ _ _ h => h) (by kernel_rfl) (by assumption) ?_ ?_
            rotate_left 1
            · (intro w hSw; (try dsimp only at hSw); go_simp; try with_reducible rfl)
            try simp only [Act.put, List.setIfInBounds_toArray, List.set_cons_zero, List.set_cons_succ]
            refine take_yes (i := 20) (v := ?_) rfl (by kernel_rfl) (by kernel_rfl) (by kernel_rfl) (fun _ _ _ h => h) (by kernel_rfl) (by assumption) ?_ ?_
            rotate_left 1
            · (intro w hSw; (try dsimp only at hSw); go_simp; try with_reducible rfl)
            try simp only [Act.put, List.setIfInBounds_toArray, List.set_cons_zero, List.set_cons_succ]
            refine take_yes (i := 21) (v := ?_) rfl (by kernel_rfl) (by kernel_rfl) (by kernel_rfl) (fun _ _ _ h => h) (by kernel_rfl) (by assumption) ?_ ?_
            rotate_left 1
            · (intro w hSw; (try dsimp only at hSw); go_simp; try with_reducible rfl)
            try simp only [Act.put, List.setIfInBounds_toArray, List.set_cons_zero, List.set_cons_succ]
            refine take_yes (i := 22) (v := ?_) rfl (by kernel_rfl) (by kernel_rfl) (by kernel_rfl) (fun _ _ _ h => h) (by kernel_rfl) (by assumption) ?_ ?_
            rotate_left 1
            · (intro w hSw; (try dsimp only at hSw); go_simp; try with_reducible rfl)
            try simp only [Act.put, List.setIfInBounds_toArray, List.set_cons_zero, List.set_cons_succ]
            refine take_yes (i := 23) (v := ?_) rfl (by kernel_rfl) (by kernel_rfl) (by kernel_rfl) (fun _ _ _ h => h) (by kernel_rfl) (by assumption) ?_ ?_
            rotate_left 1
            · (intro w hSw; (try dsimp only at hSw); go_simp; try with_reducible rfl)
            try simp only [Act.put, List.setIfInBounds_toArray, List.set_cons_zero, List.set_cons_succ]
            refine take_yes (i := 24) (v := ?_) rfl (by kernel_rfl) (by kernel_rfl) (by kernel_rfl) (fun _ _ _ h => h) (by kernel_rfl) (by assumption) ?_ ?_
            rotate_left 1
            · (intro w hSw; (try dsimp only at hSw); go_simp; try with_reducible rfl)
            try simp only [Act.put, List.setIfInBounds_toArray, List.set_cons_zero, List.set_cons_succ]
            refine take_yes (i := 25) (v := ?_) rfl (by kernel_rfl) (by kernel_rfl) (by kernel_rfl) (fun _ _ _ h => h) (by kernel_rfl) (by assumption) ?_ ?_
            rotate_left 1
            · (intro w hSw; (try dsimp only at hSw); go_simp; try with_reducible rfl)
            try simp only [Act.put, List.setIfInBounds_toArray, List.set_cons_zero, List.set_cons_succ]
            refine take_yes (i := 26) (v := ?_) rfl (by kernel_rfl) (by kernel_rfl) (by kernel_rfl) (fun _ _ _ h => h) (by kernel_rfl) (by assumption) ?_ ?_
            rotate_left 1
            · (intro w hSw; (try dsimp only at hSw); go_simp; try with_reducible rfl)
            try simp only [Act.put, List.setIfInBounds_toArray, List.set_cons_zero, List.set_cons_succ]
            refine take_yes (i := 28) (v := ?_) rfl (by kernel_rfl) (by kernel_rfl) (by kernel_rfl) (fun _ _ _ h => h) (by kernel_rfl) (by assumption) ?_ ?_
            rotate_left 1
            · (intro w hSw; (try dsimp only at hSw); go_simp; try with_reducible rfl)
            try simp only [Act.put, List.setIfInBounds_toArray, List.set_cons_zero, List.set_cons_succ]
            refine wpAnyH_ready (rs := [27]) (by kernel_rfl) (by simp) ?_
            refine cons_drop (i := 27) rfl (fun K hK => ?_) AllReadyH.nil
            go_simp
            refine (HLF.out _).mono ?_; rintro e w6 ⟨rfl, rfl⟩
            go_simp
            refine hK.out _ _ ?_ (fun hHeld2 => ?_)
            · exact hHeld
            clear hK K hHeld
            have hHeld := hHeld2
            clear hHeld2
            try simp only [Act.put, List.setIfInBounds_toArray, List.set_cons_zero, List.set_cons_succ]
            refine wpAnyH_ready (rs := [29]) (by kernel_rfl) (by simp) ?_
            refine cons_drop (i := 29) rfl (fun K hK => ?_) AllReadyH.nil
            go_simp
            refine (HRL.out _).mono ?_; rintro e w6 ⟨rfl, rfl⟩
            go_simp
            refine hK.out _ _ ?_ (fun hHeld2 => ?_)
            · exact hHeld
            clear hK K hHeld
            have hHeld := hHeld2
            clear hHeld2
            try simp only [Act.put, List.setIfInBounds_toArray, List.set_cons_zero, List.set_cons_succ]
            refine take_yes (i := 30) (v := ?_) rfl (by kernel_rfl) (by kernel_rfl) (by kernel_rfl) (fun _ _ _ h => h) (by kernel_rfl) (by assumption) ?_ ?_
            rotate_left 1
            · (intro w hSw; (try dsimp only at hSw); go_simp; try with_reducible rfl)
            try simp only [Act.put, List.setIfInBounds_toArray, List.set_cons_zero, List.set_cons_succ]
            refine take_yes (i := 31) (v := ?_) rfl (by kernel_rfl) (by kernel_rfl) (by kernel_rfl) (fun _ _ _ h => h) (by kernel_rfl) (by assumption) ?_ ?_
            rotate_left 1
            · (intro w hSw; (try dsimp only at hSw); go_simp; try with_reducible rfl)
            try simp only [Act.put, List.setIfInBounds_toArray, List.set_cons_zero, List.set_cons_succ]
            refine take_yes (i := 32) (v := ?_) rfl (by kernel_rfl) (by kernel_rfl) (by kernel_rfl) (fun _ _ _ h => h) (by kernel_rfl) (by assumption) ?_ ?_
            rotate_left 1
            · (intro w hSw; (try dsimp only at hSw); go_simp; try with_reducible rfl)
            try simp only [Act.put, List.setIfInBounds_toArray, List.set_cons_zero, List.set_cons_succ]
            refine wpAnyH_ready (rs := [33]) (by kernel_rfl) (by simp) ?_
            refine cons_drop (i := 33) rfl (fun K hK => ?_) AllReadyH.nil
            go_simp
            refine (HKA.out _).mono ?_; rintro e w5 ⟨rfl, hb5⟩; have hbw5 : Below w4.heap.size w4 w5 := bl_then (bl_drew (Below.refl _ _)) hb5
            go_simp
            refine hK.out _ _ ?_ (fun hHeld2 => ?_)
            · exact HX.out _ hbw5
            clear hK K hHeld
            have hHeld := hHeld2
            clear hHeld2
            try simp only [Act.put, List.setIfInBounds_toArray, List.set_cons_zero, List.set_cons_succ]
            refine take_yes (i := 34) (v := ?_) rfl (by kernel_rfl) (by kernel_rfl) (by kernel_rfl) (fun _ _ _ h => h) (by kernel_rfl) (by assumption) ?_ ?_
            rotate_left 1
            · (intro w hSw; (try dsimp only at hSw); go_simp; try with_reducible rfl)
            try simp only [Act.put, List.setIfInBounds_toArray, List.set_cons_zero, List.set_cons_succ]
            refine take_yes (i := 35) (v := ?_) rfl (by kernel_rfl) (by kernel_rfl) (by kernel_rfl) (fun _ _ _ h => h) (by kernel_rfl) (by assumption) ?_ ?_
            rotate_left 1
            · (intro w hSw; (try dsimp only at hSw); go_simp; try with_reducible rfl)
            try simp only [Act.put, List.setIfInBounds_toArray, List.set_cons_zero, List.set_cons_succ]
            refine wpAnyH_done (by kernel_rfl) ?_ _
            all_goals
              (have HF5 := Lib.hid (bl_then HB4.out hbw5)); clear hbw5 hb5; go_wp2_with fail; rw [HQ.out]; exact ⟨rfl, HBW.out.trans (HF5.out.mono HBW.out.size)⟩
          | some x =>
            rw [hf] at hge
            obtain ⟨kk, hp, hkk, hkl⟩ := place_find_some hf
            rw [hp] at HFI
            have hge' : Calls Try.prog 14 #[.pointer (some ⟨p, 0, none⟩), .string s] wr fun e w' => e = .returned (.tuple #[.agg #[.string x.name, .int .i64 x.period, .int .i64 x.next, .int .i64 x.forgot], .bool true]) ∧ Below wr.heap.size wr w' := hge
            have HGE := Lib.hid hge'
            have heq := eq_th x
            dsimp only [Th.val] at heq
            have hkz : 0 ≤ (kk : Int) := by omega
            have hkn : (kk : Int) < (L.length : Int) := by omega
            clear hge hge' hf hp
            go_upto_region 14 with (first | (go_at_call 14; refine HGE.out.mono ?_; rintro e w3 ⟨rfl, hb3⟩; have g0 := bl_cell hb3 g0; have g1 := bl_cell hb3 g1; have a0 := bl_cell (bl_alloc (Below.refl w3.heap.size w3) (.cells #[.string x.name, .int .i64 x.period, .int .i64 x.next, .int .i64 x.forgot] 35)) g0; have a1 := bl_cell (bl_alloc (Below.refl w3.heap.size w3) (.cells #[.string x.name, .int .i64 x.period, .int .i64 x.next, .int .i64 x.forgot] 35)) g1; have HB3 := Lib.hid hb3; clear hb3) | (go_at_call 20; refine (HFI.out _ (bl_then HB3.out (bl_alloc (Below.refl _ _) _))).mono ?_; rintro e w4 ⟨rfl, hb4⟩; have ht4 : w4.heap[w3.heap.size]? = some (.cells #[.string x.name, .int .i64 x.period, .int .i64 x.next, .int .i64 x.forgot] 35 (0, 0)) := (hb4.block w3.heap.size (by simp)).trans (at_alloc rfl); have g0 := bl_cell hb4 (bl_cell (bl_alloc (Below.refl _ _) _) g0); have g1 := bl_cell hb4 (bl_cell (bl_alloc (Below.refl _ _) _) g1); obtain ⟨k0, k1, k2, k3, -, -, -, -⟩ := cells4 ht4; have HB4 := Lib.hid (bl_then HB3.out (bl_then (bl_alloc (Below.refl _ _) _) hb4)); clear hb4 ht4 a0 a1))
            rcases HSL.out.below HB4.out with ⟨h1, h2⟩ | ⟨b, o, c', h1, _, _, hrow⟩
            · subst h2; simp at hkl
            · simp only [Value.slice.injEq] at h1
              obtain ⟨rfl, -, rfl⟩ := h1
              obtain ⟨e0, e1, e2, e3⟩ := th_row hrow hkk
              have HX : Hid (∀ W, Below w4.heap.size w4 W → (fun w' => (w'.cell? ⟨w3.heap.size, 0, none⟩ = some (.string x.name) ∧ w'.cell? ⟨w3.heap.size, 1, none⟩ = some ( .int .i64 x.period) ∧ w'.cell? ⟨w3.heap.size, 2, none⟩ = some ( .int .i64 x.next) ∧ w'.cell? ⟨w3.heap.size, 3, none⟩ = some ( .int .i64 x.forgot)) ∧ w'.cell? ⟨q, 1, none⟩ = some (.slice (some ⟨b, o, none⟩) L.length c1) ∧ w'.cell? ⟨b, o + kk * 4, none⟩ = some (.string x.name) ∧ w'.cell? ⟨b, o + kk * 4 + 1, none⟩ = some (.int .i64 x.period) ∧ w'.cell? ⟨b, o + kk * 4 + 2, none⟩ = some (.int .i64 x.next) ∧ w'.cell? ⟨b, o + kk * 4 + 3, none⟩ = some (.int .i64 x.forgot)) W) := Lib.hid fun W hW => ⟨⟨bl_cell hW k0, bl_cell hW k1, bl_cell hW k2, bl_cell hW k3⟩, bl_cell hW g1, bl_cell hW e0, bl_cell hW e1, bl_cell hW e2, bl_cell hW e3⟩
              clear k0 k1 k2 k3 g0 g1 e0 e1 e2 e3 hrow hkk
              refine wp_region_held_drew (S := (fun w' => (w'.cell? ⟨w3.heap.size, 0, none⟩ = some (.string x.name) ∧ w'.cell? ⟨w3.heap.size, 1, none⟩ = some ( .int .i64 x.period) ∧ w'.cell? ⟨w3.heap.size, 2, none⟩ = some ( .int .i64 x.next) ∧ w'.cell? ⟨w3.heap.size, 3, none⟩ = some ( .int .i64 x.forgot)) ∧ w'.cell? ⟨q, 1, none⟩ = some (.slice (some ⟨b, o, none⟩) L.length c1) ∧ w'.cell? ⟨b, o + kk * 4, none⟩ = some (.string x.name) ∧ w'.cell? ⟨b, o + kk * 4 + 1, none⟩ = some (.int .i64 x.period) ∧ w'.cell? ⟨b, o + kk * 4 + 2, none⟩ = some (.int .i64 x.next) ∧ w'.cell? ⟨b, o + kk * 4 + 3, none⟩ = some (.int .i64 x.forgot))) (by kernel_rfl) (HX.out _ (bl_drew (Below.refl _ _))) (fun hHeld => ?_)
              refine take_yes (i := 0) (v := ?_) rfl (by kernel_rfl) (by kernel_rfl) (by kernel_rfl) (fun _ _ _ h => h) (by kernel_rfl) (by assumption) ?_ ?_
              rotate_left 1
              · (intro w hSw; (try dsimp only at hSw); go_simp; try with_reducible rfl)
              try simp only [Act.put, List.setIfInBounds_toArray, List.set_cons_zero, List.set_cons_succ]
              refine take_yes (i := 1) (v := ?_) rfl (by kernel_rfl) (by kernel_rfl) (by kernel_rfl) (fun _ _ _ h => h) (by kernel_rfl) (by assumption) ?_ ?_
              rotate_left 1
              · (intro w hSw; (try dsimp only at hSw); go_simp; try with_reducible rfl)
              try simp only [Act.put, List.setIfInBounds_toArray, List.set_cons_zero, List.set_cons_succ]
              refine take_yes (i := 2) (v := ?_) rfl (by kernel_rfl) (by kernel_rfl) (by kernel_rfl) (fun _ _ _ h => h) (by kernel_rfl) (by assumption) ?_ ?_
              rotate_left 1
              · (intro w hSw; (try dsimp only at hSw); go_simp; try with_reducible rfl)
              try simp only [Act.put, List.setIfInBounds_toArray, List.set_cons_zero, List.set_cons_succ]
              refine take_yes (i := 3) (v := ?_) rfl (by kernel_rfl) (by kernel_rfl) (by kernel_rfl) (fun _ _ _ h => h) (by kernel_rfl) (by assumption) ?_ ?_
              rotate_left 1
              · (intro w hSw; (try dsimp only at hSw); go_simp; try with_reducible rfl)
              try simp only [Act.put, List.setIfInBounds_toArray, List.set_cons_zero, List.set_cons_succ]
              refine take_yes (i := 4) (v := ?_) rfl (by kernel_rfl) (by kernel_rfl) (by kernel_rfl) (fun _ _ _ h => h) (by kernel_rfl) (by assumption) ?_ ?_
              rotate_left 1
              · (intro w hSw; (try dsimp only at hSw); go_simp; try with_reducible rfl)
              try simp only [Act.put, List.setIfInBounds_toArray, List.set_cons_zero, List.set_cons_succ]
              refine take_yes (i := 5) (v := ?_) rfl (by kernel_rfl) (by kernel_rfl) (by kernel_rfl) (fun _ _ _ h => h) (by kernel_rfl) (by assumption) ?_ ?_
              rotate_left 1
              · (intro w hSw; (try dsimp only at hSw); go_simp; try with_reducible rfl)
              try simp only [Act.put, List.setIfInBounds_toArray, List.set_cons_zero, List.set_cons_succ]
              refine take_yes (i := 6) (v := ?_) rfl (by kernel_rfl) (by kernel_rfl) (by kernel_rfl) (fun _ _ _ h => h) (by kernel_rfl) (by assumption) ?_ ?_
              rotate_left 1
              · (intro w hSw; (try dsimp only at hSw); go_simp; try with_reducible rfl)
              try simp only [Act.put, List.setIfInBounds_toArray, List.set_cons_zero, List.set_cons_succ]
              refine take_yes (i := 7) (v := ?_) rfl (by kernel_rfl) (by kernel_rfl) (by kernel_rfl) (fun _ _ _ h => h) (by kernel_rfl) (by assumption) ?_ ?_
              rotate_left 1
              · (intro w hSw; (try dsimp only at hSw); go_simp; try with_reducible rfl)
              try simp only [Act.put, List.setIfInBounds_toArray, List.set_cons_zero, List.set_cons_succ]
              refine take_yes (i := 8) (v := ?_) rfl (by kernel_rfl) (by kernel_rfl) (by kernel_rfl) (fun _ _ _ h => h) (by kernel_rfl) (by assumption) ?_ ?_
              rotate_left 1
              · (intro w hSw; (try dsimp only at hSw); go_simp; try with_reducible rfl)
              try simp only [Act.put, List.setIfInBounds_toArray, List.set_cons_zero, List.set_cons_succ]
              refine take_yes (i := 9) (v := ?_) rfl (by kernel_rfl) (by kernel_rfl) (by kernel_rfl) (fun _ _ _ h => h) (by kernel_rfl) (by assumption) ?_ ?_
              rotate_left 1
              · (intro w hSw; (try dsimp only at hSw); go_simp; try with_reducible rfl)
              try simp only [Act.put, List.setIfInBounds_toArray, List.set_cons_zero, List.set_cons_succ]
              refine take_yes (i := 10) (v := ?_) rfl (by kernel_rfl) (by kernel_rfl) (by kernel_rfl) (fun _ _ _ h => h) (by kernel_rfl) (by assumption) ?_ ?_
              rotate_left 1
              · (intro w hSw; (try dsimp only at hSw); go_simp; try with_reducible rfl)
              try simp only [Act.put, List.setIfInBounds_toArray, List.set_cons_zero, List.set_cons_succ]
              refine take_yes (i := 11) (v := ?_) rfl (by kernel_rfl) (by kernel_rfl) (by kernel_rfl) (fun _ _ _ h => h) (by kernel_rfl) (by assumption) ?_ ?_
              rotate_left 1
              · (intro w hSw; (try dsimp only at hSw); go_simp; try with_reducible rfl)
              try simp only [Act.put, List.setIfInBounds_toArray, List.set_cons_zero, List.set_cons_succ]
              refine take_yes (i := 12) (v := ?_) rfl (by kernel_rfl) (by kernel_rfl) (by kernel_rfl) (fun _ _ _ h => h) (by kernel_rfl) (by assumption) ?_ ?_
              rotate_left 1
              · (intro w hSw; (try dsimp only at hSw); go_simp; try with_reducible rfl)
              try simp only [Act.put, List.setIfInBounds_toArray, List.set_cons_zero, List.set_cons_succ]
              refine take_yes (i := 13) (v := ?_) rfl (by kernel_rfl) (by kernel_rfl) (by kernel_rfl) (fun _ _ _ h => h) (by kernel_rfl) (by assumption) ?_ ?_
              rotate_left 1
              · (intro w hSw; (try dsimp only at hSw); go_simp; try with_reducible rfl)
              try simp only [Act.put, List.setIfInBounds_toArray, List.set_cons_zero, List.set_cons_succ]
              refine take_yes (i := 14) (v := ?_) rfl (by kernel_rfl) (by kernel_rfl) (by kernel_rfl) (fun _ _ _ h => h) (by kernel_rfl) (by assumption) ?_ ?_
              rotate_left 1
              · (intro w hSw; (try dsimp only at hSw); go_simp; try with_reducible rfl)
              try simp only [Act.put, List.setIfInBounds_toArray, List.set_cons_zero, List.set_cons_succ]
              refine take_yes (i := 15) (v := ?_) rfl (by kernel_rfl) (by kernel_rfl) (by kernel_rfl) (fun _ _ _ h => h) (by kernel_rfl) (by assumption) ?_ ?_
              rotate_left 1
              · (intro w hSw; (try dsimp only at hSw); go_simp; try with_reducible rfl)
              try simp only [Act.put, List.setIfInBounds_toArray, List.set_cons_zero, List.set_cons_succ]
              refine take_yes (i := 16) (v := ?_) rfl (by kernel_rfl) (by kernel_rfl) (by kernel_rfl) (fun _ _ _ h => h) (by kernel_rfl) (by assumption) ?_ ?_
              rotate_left 1
              · (intro w hSw; (try dsimp only at hSw); go_simp; try with_reducible rfl)
              try simp only [Act.put, List.setIfInBounds_toArray, List.set_cons_zero, List.set_cons_succ]
              refine take_yes (i := 17) (v := ?_) rfl (by kernel_rfl) (by kernel_rfl) (by kernel_rfl) (fun _ _ _ h => h) (by kernel_rfl) (by assumption) ?_ ?_
              rotate_left 1
              · (intro w hSw; (try dsimp only at hSw); go_simp; try with_reducible rfl)
              try simp only [Act.put, List.setIfInBounds_toArray, List.set_cons_zero, List.set_cons_succ]
              refine take_yes (i := 18) (v := ?_) rfl (by kernel_rfl) (by kernel_rfl) (by kernel_rfl) (fun _ _ _ h => h) (by kernel_rfl) (by assumption) ?_ ?_
              rotate_left 1
              · (intro w hSw; (try dsimp only at hSw); go_simp; try with_reducible rfl)
              try simp only [Act.put, List.setIfInBounds_toArray, List.set_cons_zero, List.set_cons_succ]
              refine take_yes (i := 19) (v := ?_) rfl (by kernel_rfl) (by kernel_rfl) (by kernel_rfl) (fun _ _ _ h => h) (by kernel_rfl) (by assumption) ?_ ?_
              rotate_left 1
              · (intro w hSw; (try dsimp only at hSw); go_simp; try with_reducible rfl)
              try simp only [Act.put, List.setIfInBounds_toArray, List.set_cons_zero, List.set_cons_succ]
              refine take_no (i := 20) rfl (by kernel_rfl) (by kernel_rfl) (by kernel_rfl) (fun _ _ _ h => h) (by rfl) (by assumption) ?_
              try simp only [Act.put, List.setIfInBounds_toArray, List.set_cons_zero, List.set_cons_succ]
              refine take_no (i := 21) rfl (by kernel_rfl) (by kernel_rfl) (by kernel_rfl) (fun _ _ _ h => h) (by rfl) (by assumption) ?_
              try simp only [Act.put, List.setIfInBounds_toArray, List.set_cons_zero, List.set_cons_succ]
              refine take_no (i := 22) rfl (by kernel_rfl) (by kernel_rfl) (by kernel_rfl) (fun _ _ _ h => h) (by rfl) (by assumption) ?_
              try simp only [Act.put, List.setIfInBounds_toArray, List.set_cons_zero, List.set_cons_succ]
              refine take_yes (i := 23) (v := ?_) rfl (by kernel_rfl) (by kernel_rfl) (by kernel_rfl) (fun _ _ _ h => h) (by kernel_rfl) (by assumption) ?_ ?_
              rotate_left 1
              · (intro w hSw; (try dsimp only at hSw); go_simp; try with_reducible rfl)
              try simp only [Act.put, List.setIfInBounds_toArray, List.set_cons_zero, List.set_cons_succ]
              refine take_yes (i := 24) (v := ?_) rfl (by kernel_rfl) (by kernel_rfl) (by kernel_rfl) (fun _ _ _ h => h) (by kernel_rfl) (by assumption) ?_ ?_
              rotate_left 1
              · (intro w hSw; (try dsimp only at hSw); go_simp; try with_reducible rfl)
              try simp only [Act.put, List.setIfInBounds_toArray, List.set_cons_zero, List.set_cons_succ]
              refine take_yes (i := 25) (v := ?_) rfl (by kernel_rfl) (by kernel_rfl) (by kernel_rfl) (fun _ _ _ h => h) (by kernel_rfl) (by assumption) ?_ ?_
              rotate_left 1
              · (intro w hSw; (try dsimp only at hSw); go_simp; try with_reducible rfl)
              try simp only [Act.put, List.setIfInBounds_toArray, List.set_cons_zero, List.set_cons_succ]
              refine take_yes (i := 26) (v := ?_) rfl (by kernel_rfl) (by kernel_rfl) (by kernel_rfl) (fun _ _ _ h => h) (by kernel_rfl) (by assumption) ?_ ?_
              rotate_left 1
              · (intro w hSw; (try dsimp only at hSw); go_simp; try with_reducible rfl)
              try simp only [Act.put, List.setIfInBounds_toArray, List.set_cons_zero, List.set_cons_succ]
              refine take_yes (i := 28) (v := ?_) rfl (by kernel_rfl) (by kernel_rfl) (by kernel_rfl) (fun _ _ _ h => h) (by kernel_rfl) (by assumption) ?_ ?_
              rotate_left 1
              · (intro w hSw; (try dsimp only at hSw); go_simp; try with_reducible rfl)
              try simp only [Act.put, List.setIfInBounds_toArray, List.set_cons_zero, List.set_cons_succ]
              refine wpAnyH_ready (rs := [27]) (by kernel_rfl) (by simp) ?_
              refine cons_drop (i := 27) rfl (fun K hK => ?_) AllReadyH.nil
              go_simp
              refine (HLF.out _).mono ?_; rintro e w6 ⟨rfl, rfl⟩
              go_simp
              refine hK.out _ _ ?_ (fun hHeld2 => ?_)
              · exact hHeld
              clear hK K hHeld
              have hHeld := hHeld2
              clear hHeld2
              try simp only [Act.put, List.setIfInBounds_toArray, List.set_cons_zero, List.set_cons_succ]
              refine wpAnyH_ready (rs := [29]) (by kernel_rfl) (by simp) ?_
              refine cons_drop (i := 29) rfl (fun K hK => ?_) AllReadyH.nil
              go_simp
              refine (HRL.out _).mono ?_; rintro e w6 ⟨rfl, rfl⟩
              go_simp
              refine hK.out _ _ ?_ (fun hHeld2 => ?_)
              · exact hHeld
              clear hK K hHeld
              have hHeld := hHeld2
              clear hHeld2
              try simp only [Act.put, List.setIfInBounds_toArray, List.set_cons_zero, List.set_cons_succ]
              refine take_yes (i := 30) (v := ?_) rfl (by kernel_rfl) (by kernel_rfl) (by kernel_rfl) (fun _ _ _ h => h) (by kernel_rfl) (by assumption) ?_ ?_
              rotate_left 1
              · (intro w hSw; (try dsimp only at hSw); go_simp; try with_reducible rfl)
              try simp only [Act.put, List.setIfInBounds_toArray, List.set_cons_zero, List.set_cons_succ]
              refine take_yes (i := 31) (v := ?_) rfl (by kernel_rfl) (by kernel_rfl) (by kernel_rfl) (fun _ _ _ h => h) (by kernel_rfl) (by assumption) ?_ ?_
              rotate_left 1
              · (intro w hSw; (try dsimp only at hSw); go_simp; try with_reducible rfl)
              try simp only [Act.put, List.setIfInBounds_toArray, List.set_cons_zero, List.set_cons_succ]
              refine take_yes (i := 32) (v := ?_) rfl (by kernel_rfl) (by kernel_rfl) (by kernel_rfl) (fun _ _ _ h => h) (by kernel_rfl) (by assumption) ?_ ?_
              rotate_left 1
              · (intro w hSw; (try dsimp only at hSw); go_simp; try with_reducible rfl)
              try simp only [Act.put, List.setIfInBounds_toArray, List.set_cons_zero, List.set_cons_succ]
              refine wpAnyH_ready (rs := [33]) (by kernel_rfl) (by simp) ?_
              refine cons_drop (i := 33) rfl (fun K hK => ?_) AllReadyH.nil
              go_simp
              refine (HKA.out _).mono ?_; rintro e w5 ⟨rfl, hb5⟩; have hbw5 : Below w4.heap.size w4 w5 := bl_then (bl_drew (Below.refl _ _)) hb5
              go_simp
              refine hK.out _ _ ?_ (fun hHeld2 => ?_)
              · exact HX.out _ hbw5
              clear hK K hHeld
              have hHeld := hHeld2
              clear hHeld2
              try simp only [Act.put, List.setIfInBounds_toArray, List.set_cons_zero, List.set_cons_succ]
              refine take_yes (i := 34) (v := ?_) rfl (by kernel_rfl) (by kernel_rfl) (by kernel_rfl) (fun _ _ _ h => h) (by kernel_rfl) (by assumption) ?_ ?_
              rotate_left 1
              · (intro w hSw; (try dsimp only at hSw); go_simp; try with_reducible rfl)
              try simp only [Act.put, List.setIfInBounds_toArray, List.set_cons_zero, List.set_cons_succ]
              refine take_yes (i := 35) (v := ?_) rfl (by kernel_rfl) (by kernel_rfl) (by kernel_rfl) (fun _ _ _ h => h) (by kernel_rfl) (by assumption) ?_ ?_
              rotate_left 1
              · (intro w hSw; (try dsimp only at hSw); go_simp; try with_reducible rfl)
              try simp only [Act.put, List.setIfInBounds_toArray, List.set_cons_zero, List.set_cons_succ]
              refine wpAnyH_done (by kernel_rfl) ?_ _
              all_goals
                (have HF5 := Lib.hid (bl_then HB4.out hbw5)); clear hbw5 hb5; go_wp2_with fail; rw [HQ.out]; exact ⟨rfl, HBW.out.trans (HF5.out.mono HBW.out.size)⟩
end Go.Proofs.Ytojeombljhmkaaa
