/- Curve: CurveBelow. -/
import Derived.Test.YtmkjiflliejjjaaCurY
namespace Go.Proofs.Ytmkjiflliejjjaa
open Go.RowKit Go.Shelf Go.Sort
set_option linter.unusedVariables false
set_option linter.unusedSimpArgs false
attribute [local go_sem] Oper.semAt_some
theorem made_le {ls : List Ln} (hm : ∀ l ∈ ls, mayB l = true) (hne : ls ≠ []) (hl : ls.length ≤ 32) : madeB ls = true := by
  unfold madeB
  rw [eachB_iff.2 ⟨lowL_ne hne, fun x hx => hm x (low_mem (lowL_is ls) x hx)⟩]
  have := low_len (lowL_is ls)
  simp
  omega
theorem htC_app {a b : List Ln} (ha : a ≠ []) (hb : b ≠ []) (n d : Int) : htC (a ++ b) n d ≤ htC a n d ∧ htC (a ++ b) n d ≤ htC b n d ∧ (htC (a ++ b) n d = htC a n d ∨ htC (a ++ b) n d = htC b n d) := by
  obtain ⟨x, hx, e1⟩ := htC_mem ha n d
  obtain ⟨y, hy, e2⟩ := htC_mem hb n d
  obtain ⟨z, hz, e3⟩ := htC_mem (show a ++ b ≠ [] by simp [ha]) n d
  have h1 := htC_le (n := n) (d := d) (List.mem_append_left b hx)
  have h2 := htC_le (n := n) (d := d) (List.mem_append_right a hy)
  refine ⟨by omega, by omega, ?_⟩
  rcases List.mem_append.1 hz with hz | hz
  · have := htC_le (n := n) (d := d) hz
    exact .inl (by omega)
  · have := htC_le (n := n) (d := d) hz
    exact .inr (by omega)
theorem low_swap (a b : List Ln) : lowL (b ++ a) = lowL (a ++ b) := low_same fun z => by simp [or_comm]
set_option maxRecDepth 100000 in
set_option maxHeartbeats 8000000 in
theorem curveBelow_any (va vb : Value) (a b : List Ln) (n d : Int) (w : World) (ha : SAt Ln.cells 2 w va a) (hb : SAt Ln.cells 2 w vb b) :
    Calls Try.prog 7 #[va, vb, .agg #[.int .i64 n, .int .i64 d]] w fun e w' => e = .returned (.bool true) ∧ Below w.heap.size w w' := by
  have hlm := ha.len
  have hlm2 := hb.len
  unfold maxLen at hlm hlm2
  have HA := Lib.hid ha
  have HB2 := Lib.hid hb
  have hcv : ∀ W T, Below w.heap.size w W → CvsAt (W.alloc (.cells #[va, vb] T)) (.slice (some ⟨W.heap.size, 0, none⟩) 2 2) [(va, a), (vb, b)] := fun W T hW => cvs_new W _ T rfl rfl rfl (by simp [Cv.cells]) (by simp [maxLen]) (by simpa using ⟨ha.below hW, hb.below hW⟩)
  have hcv2 : ∀ W T, Below w.heap.size w W → CvsAt (W.alloc (.cells #[vb, va] T)) (.slice (some ⟨W.heap.size, 0, none⟩) 2 2) [(vb, b), (va, a)] := fun W T hW => cvs_new W _ T rfl rfl rfl (by simp [Cv.cells]) (by simp [maxLen]) (by simpa using ⟨hb.below hW, ha.below hW⟩)
  have HCV := Lib.hid (And.intro hcv hcv2)
  obtain ⟨A, c, rfl⟩ := ha.slice
  obtain ⟨B, cb, rfl⟩ := hb.slice
  clear ha hb hcv hcv2
  obtain ⟨R, hR⟩ : ∃ R : Ending → World → Prop, R = fun e w' => e = .returned (.bool true) ∧ Below w.heap.size w w' := ⟨_, rfl⟩
  rw [← hR]
  have HR := Lib.hid hR
  clear hR
  have HB : Hid (Below w.heap.size w (w.alloc (.cells #[.int .i64 n, .int .i64 d] 36))) := Lib.hid (bl_alloc (Below.refl _ _) _)
  by_cases h1 : a.length ≤ 8
  · have h1z : ¬ (8 : Int) < (a.length : Int) := by omega
    by_cases h2 : b.length ≤ 8
    · have h2z : ¬ (8 : Int) < (b.length : Int) := by omega
      have hn0 : (w.alloc (.cells #[.int .i64 n, .int .i64 d] 36)).cell? ⟨w.heap.size, 0, none⟩ = some (.int .i64 n) := by go_simp
      have hd0 : (w.alloc (.cells #[.int .i64 n, .int .i64 d] 36)).cell? ⟨w.heap.size, 1, none⟩ = some (.int .i64 d) := by go_simp
      have hlab : (a ++ b).length ≤ 16 := by simp; omega
      have hlba : (b ++ a).length ≤ 16 := by simp; omega
      have hbl := fun W (hW : Below w.heap.size w W) => below_any _ _ a b W (HA.out.below hW) (HB2.out.below hW) (by omega)
      have hm1 := fun W T (hW : Below w.heap.size w W) => min_any _ _ _ (HCV.out.1 W T hW) (by rw [all_two]; omega)
      have hm2 := fun W T (hW : Below w.heap.size w W) => min_any _ _ _ (HCV.out.2 W T hW) (by rw [all_two]; omega)
      simp only [right_two, all_two, Bool.and_comm (okC b)] at hm1 hm2
      have HSN := Lib.hid fun W => rsame_any (.slice none 0 0) (.slice none 0 0) [] [] W SAt.nil SAt.nil
      cases hq : okC a && okC b with
      | false =>
        have hbr : belowR a b = (false, 2) := by unfold belowR; rw [hq]; rfl
        simp only [hbr] at hbl
        have HM1 : Hid (∀ W T, Below w.heap.size w W → Calls Try.prog 25 #[.slice (some ⟨W.heap.size, 0, none⟩) 2 2] (W.alloc (.cells #[.slice A a.length c, .slice B b.length cb] T)) fun e w' => e = .returned (.tuple #[.slice none 0 0, .int .i64 2]) ∧ Below (W.alloc (.cells #[.slice A a.length c, .slice B b.length cb] T)).heap.size (W.alloc (.cells #[.slice A a.length c, .slice B b.length cb] T)) w') := Lib.hid fun W T hW => (hm1 W T hW).mono fun e w' hh => by
          rcases hh with ⟨-, h, hb⟩ | ⟨h, -⟩
          · exact ⟨h, hb⟩
          · rw [hq] at h; cases h
        have HM2 : Hid (∀ W T, Below w.heap.size w W → Calls Try.prog 25 #[.slice (some ⟨W.heap.size, 0, none⟩) 2 2] (W.alloc (.cells #[.slice B b.length cb, .slice A a.length c] T)) fun e w' => e = .returned (.tuple #[.slice none 0 0, .int .i64 2]) ∧ Below (W.alloc (.cells #[.slice B b.length cb, .slice A a.length c] T)).heap.size (W.alloc (.cells #[.slice B b.length cb, .slice A a.length c] T)) w') := Lib.hid fun W T hW => (hm2 W T hW).mono fun e w' hh => by
          rcases hh with ⟨-, h, hb⟩ | ⟨h, -⟩
          · exact ⟨h, hb⟩
          · rw [hq] at h; cases h
        have HBL := Lib.hid hbl
        --have HX : Hid (∀ W, Below (w.alloc (.cells #[.int .i64 n, .int .i64 d] 36)).heap.size (w.alloc (.cells #[.int .i64 n, .int .i64 d] 36)) W → W.cell? ⟨w.heap.size, 0, none⟩ = some (.int .i64 n) ∧ W.cell? ⟨w.heap.size, 1, none⟩ = some (.int .i64 d)) := Lib.hid fun W hW => ⟨bl_cell hW hn0, bl_cell hW hd0⟩
        clear hq hbr hbl hm1 hm2 hlab hlba hn0 hd0 HB
        go_enter Try.func7, Try.ntmps7
        go_wp2_with fail
        refine (HBL.out _ (bl_alloc (Below.refl _ _) _)).mono ?_
        rintro e w1 ⟨rfl, hb1⟩
        have HND : Hid (∀ X, Below w1.heap.size w1 X → X.cell? ⟨w.heap.size, 0, none⟩ = some (.int .i64 n) ∧ X.cell? ⟨w.heap.size, 1, none⟩ = some (.int .i64 d)) := Lib.hid fun X hX => ⟨bl_cell hX (bl_cell hb1 (by go_simp)), bl_cell hX (bl_cell hb1 (by go_simp))⟩
        have HB : Hid (Below w.heap.size w w1) := Lib.hid (bl_then (bl_alloc (Below.refl _ _) _) hb1)
        have HB' : Hid (Below w1.heap.size w1 w1) := Lib.hid (Below.refl _ _)
        clear hb1 HBL
        go_wp2_with (first | (go_at_call 25; (with_reducible refine (HM1.out _ _ HB.out).mono ?_); rintro e w' ⟨rfl, hb⟩; replace HB := Lib.hid (bl_then HB.out (bl_then (bl_alloc (Below.refl _ _) _) hb)); replace HB' := Lib.hid (bl_then HB'.out (bl_then (bl_alloc (Below.refl _ _) _) hb)); clear hb) | (go_at_call 25; (with_reducible refine (HM2.out _ _ HB.out).mono ?_); rintro e w' ⟨rfl, hb⟩; replace HB := Lib.hid (bl_then HB.out (bl_then (bl_alloc (Below.refl _ _) _) hb)); replace HB' := Lib.hid (bl_then HB'.out (bl_then (bl_alloc (Below.refl _ _) _) hb)); clear hb) | (go_at_call 21; (with_reducible refine (HSN.out _).mono ?_); rintro e w' ⟨rfl, hb⟩; replace HB := Lib.hid (bl_then HB.out hb); replace HB' := Lib.hid (bl_then HB'.out hb); clear hb))
        obtain ⟨cn, cd⟩ := HND.out _ HB'.out
        go_quiet (fail)
        replace HB := Lib.hid (bl_drewN HB.out nq)
        replace HB' := Lib.hid (bl_drewN HB'.out nq)
        clear cn cd
        go_wp2_with (go_at_call 11; (with_reducible refine (known_any _).mono ?_); rintro e w' ⟨rfl, hb⟩; replace HB := Lib.hid (bl_then HB.out hb); replace HB' := Lib.hid (bl_then HB'.out hb); clear hb)
        all_goals (rw [HR.out]; exact ⟨rfl, HB.out⟩)
      | true =>
        obtain ⟨q, hqq⟩ : ∃ q, q = decide (lowL (a ++ b) = a) := ⟨_, rfl⟩
        have hbr : belowR a b = (q, 0) := by unfold belowR; rw [hq, hqq]; rfl
        simp only [hbr] at hbl
        simp only [Bool.and_eq_true] at hq
        obtain ⟨ha1, ha2, ha3, ha4⟩ := okC_may hq.1
        obtain ⟨hb1, hb2, hb3, hb4⟩ := okC_may hq.2
        have hmm : ∀ l ∈ a ++ b, mayB l = true := fun l hl => by
          rcases List.mem_append.1 hl with hl | hl
          · exact ha2 l hl
          · exact hb2 l hl
        have hmb : madeB (a ++ b) = true := made_le hmm (by simp [ha1]) (by omega)
        have hmb2 : madeB (b ++ a) = true := by unfold madeB; rw [low_swap]; exact hmb
        have hmok := okC_may (made_ok hmb)
        have hht : ∀ n d : Int, 0 ≤ n → 0 < d → htC (lowL (a ++ b)) n d = htC (a ++ b) n d := fun n d h0 hd => low_env (by simp [ha1]) h0 hd
        have HM1 : Hid (∀ W T, Below w.heap.size w W → Calls Try.prog 25 #[.slice (some ⟨W.heap.size, 0, none⟩) 2 2] (W.alloc (.cells #[.slice A a.length c, .slice B b.length cb] T)) fun e w' => (∃ v', e = .returned (.tuple #[v', .int .i64 0]) ∧ SAt Ln.cells 2 w' v' (lowL (a ++ b))) ∧ Below W.heap.size W w') := Lib.hid fun W T hW => (hm1 W T hW).mono fun e w' hh => by
          rcases hh with ⟨h, -⟩ | ⟨-, h⟩
          · rw [hq.1, hq.2] at h; cases h
          · obtain ⟨⟨-, h⟩ | ⟨h, -⟩, hb⟩ := h
            · exact ⟨h, bl_then (bl_alloc (Below.refl _ _) _) hb⟩
            · rw [hmb] at h; cases h
        have HM2 : Hid (∀ W T, Below w.heap.size w W → Calls Try.prog 25 #[.slice (some ⟨W.heap.size, 0, none⟩) 2 2] (W.alloc (.cells #[.slice B b.length cb, .slice A a.length c] T)) fun e w' => (∃ v', e = .returned (.tuple #[v', .int .i64 0]) ∧ SAt Ln.cells 2 w' v' (lowL (a ++ b))) ∧ Below W.heap.size W w') := Lib.hid fun W T hW => (hm2 W T hW).mono fun e w' hh => by
          rcases hh with ⟨h, -⟩ | ⟨-, h⟩
          · rw [hq.1, hq.2] at h; cases h
          · obtain ⟨⟨-, h⟩ | ⟨h, -⟩, hb⟩ := h
            · rw [low_swap] at h; exact ⟨h, bl_then (bl_alloc (Below.refl _ _) _) hb⟩
            · rw [hmb2] at h; cases h
        have HBL := Lib.hid hbl
        have HK := Lib.hid (And.intro hht (And.intro hmok (And.intro (And.intro ha1 (And.intro ha2 (And.intro hb1 hb2))) (fun n d => htC_app ha1 hb1 n d))))
        have HQ := Lib.hid hqq
        have HLZ : Hid (a.length ≠ 0 ∧ b.length ≠ 0 ∧ (lowL (a ++ b)).length ≠ 0) := Lib.hid ⟨fun h => ha1 (List.eq_nil_of_length_eq_zero h), fun h => hb1 (List.eq_nil_of_length_eq_zero h), fun h => hmok.1 (List.eq_nil_of_length_eq_zero h)⟩
        clear hbr hbl hm1 hm2 hlab hlba hn0 hd0 HB hq hqq ha1 ha2 ha3 ha4 hb1 hb2 hb3 hb4 hmm hmb hmb2 hmok hht HCV HSN
        generalize lowL (a ++ b) = m at *
        go_enter Try.func7, Try.ntmps7
        go_wp2_with fail
        refine (HBL.out _ (bl_alloc (Below.refl _ _) _)).mono ?_
        rintro e w1 ⟨rfl, hb1⟩
        have HND : Hid (∀ X, Below w1.heap.size w1 X → X.cell? ⟨w.heap.size, 0, none⟩ = some (.int .i64 n) ∧ X.cell? ⟨w.heap.size, 1, none⟩ = some (.int .i64 d)) := Lib.hid fun X hX => ⟨bl_cell hX (bl_cell hb1 (by go_simp)), bl_cell hX (bl_cell hb1 (by go_simp))⟩
        have HB : Hid (Below w.heap.size w w1) := Lib.hid (bl_then (bl_alloc (Below.refl _ _) _) hb1)
        have HB' : Hid (Below w1.heap.size w1 w1) := Lib.hid (Below.refl _ _)
        clear hb1 HBL
        go_wp2_with fail
        refine (HM1.out _ _ HB.out).mono ?_
        rintro e w2 ⟨⟨v1, rfl, hs1⟩, hb2⟩
        obtain ⟨A1, c1, rfl⟩ := hs1.slice
        have HS1 := Lib.hid hs1
        replace HB := Lib.hid (bl_then HB.out hb2)
        replace HB' := Lib.hid (bl_then HB'.out hb2)
        have HB2' : Hid (Below w2.heap.size w2 w2) := Lib.hid (Below.refl _ _)
        clear hs1 hb2
        go_wp2_with fail
        refine (HM2.out _ _ HB.out).mono ?_
        rintro e w3 ⟨⟨v2, rfl, hs2⟩, hb3⟩
        obtain ⟨A2, c2, rfl⟩ := hs2.slice
        have hsa := rsame_any _ _ m m w3 (HS1.out.below (bl_then HB2'.out hb3)) hs2
        rw [show decide (m = m) = true by simp] at hsa
        have HSA := Lib.hid hsa
        have HSB := Lib.hid fun W (hW : Below w2.heap.size w2 W) (hW2 : Below w.heap.size w W) => rsame_any _ _ m a W (HS1.out.below hW) (HA.out.below hW2)
        rw [← HQ.out] at HSB
        replace HB := Lib.hid (bl_then HB.out hb3)
        replace HB' := Lib.hid (bl_then HB'.out hb3)
        replace HB2' := Lib.hid (bl_then HB2'.out hb3)
        clear hs2 hb3 hsa HM1 HM2
        cases q
        all_goals
          go_wp2_with (first | (go_at_call 21; (with_reducible refine (HSA.out).mono ?_); rintro e w' ⟨rfl, hb⟩; replace HB := Lib.hid (bl_then HB.out hb); replace HB' := Lib.hid (bl_then HB'.out hb); replace HB2' := Lib.hid (bl_then HB2'.out hb); clear hb) | (go_at_call 21; (with_reducible refine (HSB.out _ HB2'.out HB.out).mono ?_); rintro e w' ⟨rfl, hb⟩; replace HB := Lib.hid (bl_then HB.out hb); replace HB' := Lib.hid (bl_then HB'.out hb); replace HB2' := Lib.hid (bl_then HB2'.out hb); clear hb))
          obtain ⟨cn, cd⟩ := HND.out _ HB'.out
          go_quiet (fail)
          replace HB := Lib.hid (bl_drewN HB.out nq)
          replace HB' := Lib.hid (bl_drewN HB'.out nq)
          replace HB2' := Lib.hid (bl_drewN HB2'.out nq)
          clear cn cd
          by_cases g0 : n < 0
          · go_wp2_with (go_at_call 11; (with_reducible refine (known_any _).mono ?_); rintro e w' ⟨rfl, hb⟩; replace HB := Lib.hid (bl_then HB.out hb); replace HB' := Lib.hid (bl_then HB'.out hb); replace HB2' := Lib.hid (bl_then HB2'.out hb); clear hb)
            all_goals (rw [HR.out]; exact ⟨rfl, HB.out⟩)
          by_cases g1 : (1000000 : Int) < n
          · go_wp2_with (go_at_call 11; (with_reducible refine (known_any _).mono ?_); rintro e w' ⟨rfl, hb⟩; replace HB := Lib.hid (bl_then HB.out hb); replace HB' := Lib.hid (bl_then HB'.out hb); replace HB2' := Lib.hid (bl_then HB2'.out hb); clear hb)
            all_goals (rw [HR.out]; exact ⟨rfl, HB.out⟩)
          by_cases g2 : d < 1
          · go_wp2_with (go_at_call 11; (with_reducible refine (known_any _).mono ?_); rintro e w' ⟨rfl, hb⟩; replace HB := Lib.hid (bl_then HB.out hb); replace HB' := Lib.hid (bl_then HB'.out hb); replace HB2' := Lib.hid (bl_then HB2'.out hb); clear hb)
            all_goals (rw [HR.out]; exact ⟨rfl, HB.out⟩)
          by_cases g3 : (100 : Int) < d
          · go_wp2_with (go_at_call 11; (with_reducible refine (known_any _).mono ?_); rintro e w' ⟨rfl, hb⟩; replace HB := Lib.hid (bl_then HB.out hb); replace HB' := Lib.hid (bl_then HB'.out hb); replace HB2' := Lib.hid (bl_then HB2'.out hb); clear hb)
            all_goals (rw [HR.out]; exact ⟨rfl, HB.out⟩)
          have r1 := fun W hb => rat_any _ a n d W (HA.out.below hb) HK.out.2.2.1.1 (fun l hl => sumFits_of (HK.out.2.2.1.2.1 l hl) (by omega) (by omega) (by omega) (by omega))
          have r2 := fun W hb => rat_any _ b n d W (HB2.out.below hb) HK.out.2.2.1.2.2.1 (fun l hl => sumFits_of (HK.out.2.2.1.2.2.2 l hl) (by omega) (by omega) (by omega) (by omega))
          have r3 := fun W hb => rat_any _ m n d W (HS1.out.below hb) HK.out.2.1.1 (fun l hl => sumFits_of (HK.out.2.1.2.1 l hl) (by omega) (by omega) (by omega) (by omega))
          have hz := HK.out.1 n d (by omega) (by omega)
          obtain ⟨k1, k2, k3⟩ := HK.out.2.2.2 n d
          rw [← hz] at k1 k2 k3
          have hqx : decide (m = a) = true → htC a n d ≤ htC b n d := fun h => by rw [← of_decide_eq_true h]; exact k2
          rw [← HQ.out] at hqx
          have HRR := Lib.hid (And.intro r1 (And.intro r2 r3))
          obtain ⟨l1, l2, l3⟩ := HLZ.out
          have l1z : ((a.length : Int) == 0) = false := beq_eq_false_iff_ne.2 (by omega)
          have l2z : ((b.length : Int) == 0) = false := beq_eq_false_iff_ne.2 (by omega)
          have l3z : ((m.length : Int) == 0) = false := beq_eq_false_iff_ne.2 (by omega)
          clear hz r1 r2 r3 HK HSB HSA l1 l2 l3
          generalize htC a n d = x at *
          generalize htC b n d = y at *
          generalize htC m n d = z at *
          by_cases hxy : x ≤ y
          · obtain rfl : z = x := by omega
            clear hqx k1 k2 k3
            have hmn : min z y = z := by omega
            go_wp2_with (first | (go_at_call 18; (with_reducible refine (HRR.out.1 _ HB.out).mono ?_); rintro e w' ⟨rfl, hb⟩; replace HB := Lib.hid (bl_then HB.out hb); replace HB' := Lib.hid (bl_then HB'.out hb); replace HB2' := Lib.hid (bl_then HB2'.out hb); clear hb) | (go_at_call 18; (with_reducible refine (HRR.out.2.1 _ HB.out).mono ?_); rintro e w' ⟨rfl, hb⟩; replace HB := Lib.hid (bl_then HB.out hb); replace HB' := Lib.hid (bl_then HB'.out hb); replace HB2' := Lib.hid (bl_then HB2'.out hb); clear hb) | (go_at_call 18; (with_reducible refine (HRR.out.2.2 _ HB2'.out).mono ?_); rintro e w' ⟨rfl, hb⟩; replace HB := Lib.hid (bl_then HB.out hb); replace HB' := Lib.hid (bl_then HB'.out hb); replace HB2' := Lib.hid (bl_then HB2'.out hb); clear hb) | (go_at_call 11; (with_reducible refine (known_any _).mono ?_); rintro e w' ⟨rfl, hb⟩; replace HB := Lib.hid (bl_then HB.out hb); replace HB' := Lib.hid (bl_then HB'.out hb); replace HB2' := Lib.hid (bl_then HB2'.out hb); clear hb))
            all_goals (rw [HR.out]; exact ⟨rfl, HB.out⟩)
          · obtain rfl : z = y := by omega
            first
              | (exact absurd (hqx rfl) hxy)
              | (clear hqx k1 k2 k3
                 have hmn : min x z = z := by omega
                 go_wp2_with (first | (go_at_call 18; (with_reducible refine (HRR.out.1 _ HB.out).mono ?_); rintro e w' ⟨rfl, hb⟩; replace HB := Lib.hid (bl_then HB.out hb); replace HB' := Lib.hid (bl_then HB'.out hb); replace HB2' := Lib.hid (bl_then HB2'.out hb); clear hb) | (go_at_call 18; (with_reducible refine (HRR.out.2.1 _ HB.out).mono ?_); rintro e w' ⟨rfl, hb⟩; replace HB := Lib.hid (bl_then HB.out hb); replace HB' := Lib.hid (bl_then HB'.out hb); replace HB2' := Lib.hid (bl_then HB2'.out hb); clear hb) | (go_at_call 18; (with_reducible refine (HRR.out.2.2 _ HB2'.out).mono ?_); rintro e w' ⟨rfl, hb⟩; replace HB := Lib.hid (bl_then HB.out hb); replace HB' := Lib.hid (bl_then HB'.out hb); replace HB2' := Lib.hid (bl_then HB2'.out hb); clear hb) | (go_at_call 11; (with_reducible refine (known_any _).mono ?_); rintro e w' ⟨rfl, hb⟩; replace HB := Lib.hid (bl_then HB.out hb); replace HB' := Lib.hid (bl_then HB'.out hb); replace HB2' := Lib.hid (bl_then HB2'.out hb); clear hb))
                 all_goals (rw [HR.out]; exact ⟨rfl, HB.out⟩))
    · have h2z : (8 : Int) < (b.length : Int) := by omega
      clear HA HB2 HCV
      go_enter Try.func7, Try.ntmps7
      go_wp2_with (go_at_call 11; (with_reducible refine (known_any _).mono ?_); rintro e w' ⟨rfl, hb⟩; replace HB := Lib.hid (bl_then HB.out hb); clear hb)
      all_goals (rw [HR.out]; exact ⟨rfl, HB.out⟩)
  · have h1z : (8 : Int) < (a.length : Int) := by omega
    clear HA HB2 HCV
    go_enter Try.func7, Try.ntmps7
    go_wp2_with (go_at_call 11; (with_reducible refine (known_any _).mono ?_); rintro e w' ⟨rfl, hb⟩; replace HB := Lib.hid (bl_then HB.out hb); clear hb)
    all_goals (rw [HR.out]; exact ⟨rfl, HB.out⟩)
end Go.Proofs.Ytmkjiflliejjjaa
