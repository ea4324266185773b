/- Curve: the document's Least. -/
import Derived.Test.YtmkjiflliejjjaaCurR10
namespace Go.Proofs.Ytmkjiflliejjjaa
open Go.RowKit Go.Shelf Go.Sort
set_option linter.unusedVariables false
set_option linter.unusedSimpArgs false
attribute [local go_sem] Oper.semAt_some
/-- What is gone, of those looked at. -/
def GoneTo (c : List Ln) (g : Int) (k : Nat) : Prop := (g = -1 ∧ ∀ i, i < k → ¬ Gone c i) ∨ ∃ n : Nat, g = (n : Int) ∧ n < c.length ∧ Gone c n
theorem goneTo_yes {c : List Ln} {g : Int} {k : Nat} (hk : k < c.length) (h : Gone c k) : GoneTo c (k : Int) (k + 1) := .inr ⟨k, rfl, hk, h⟩
theorem goneTo_no {c : List Ln} {g : Int} {k : Nat} (h : GoneTo c g k) (hn : ¬ Gone c k) : GoneTo c g (k + 1) := by
  rcases h with ⟨h1, h2⟩ | h
  · refine .inl ⟨h1, fun i hi => ?_⟩
    by_cases e : i = k
    · subst e; exact hn
    · exact h2 i (by omega)
  · exact .inr h
set_option maxRecDepth 100000 in
set_option maxHeartbeats 8000000 in
theorem least_any (v : Value) (ls : List Ln) (w : World) (h : SAt Ln.cells 2 w v ls) (hm : ∀ l ∈ ls, fits l) (hl : ls.length ≤ 1000) :
    Calls Try.prog 35 #[v] w fun e w' => (∃ v', e = .returned v' ∧ SAt Ln.cells 2 w' v' (lowL ls)) ∧ Below w.heap.size w w' := by
  obtain ⟨A, cc, rfl⟩ := h.slice
  have H := Lib.hid h
  have HM := Lib.hid hm
  clear h hm
  obtain ⟨R, hR⟩ : ∃ R : Ending → World → Prop, R = fun e w' => (∃ v', e = .returned v' ∧ SAt Ln.cells 2 w' v' (lowL ls)) ∧ Below w.heap.size w w' := ⟨_, rfl⟩
  rw [← hR]
  have HR := Lib.hid hR
  clear hR
  go_enter Try.func35, Try.ntmps35
  go_wp2_with fail
  go_loopg [3, 4] (ls.length + 1) (fun gg s3 s4 wr => ∃ k : Nat, k ≤ ls.length ∧ ls.length - k ≤ gg ∧ s4 = .int .i64 k ∧ Aside (∃ c, SAt Ln.cells 2 wr s3 c ∧ c.Pairwise leLn ∧ (∀ z, z ∈ c ↔ z ∈ ls.take k) ∧ c.length = k) ∧ Aside (Below w.heap.size w wr))
  case atStart => exact ⟨0, by omega, by omega, rfl, ⟨[], SAt.nil, by simp, by simp, rfl⟩, Below.refl _ _⟩
  case round =>
    obtain ⟨k, hk, hgg, rfl, HC, HB⟩ := hrel
    by_cases hlt : k < ls.length
    · have hltz : (k : Int) < (ls.length : Int) := by omega
      have hgk : ls[k]? = some ls[k] := List.getElem?_eq_getElem hlt
      generalize ls[k] = x at hgk
      rcases H.out.below HB.out with ⟨h1, h2⟩ | ⟨b, o, c', h1, _, _, hrow⟩
      · subst h2; simp at hlt
      simp only [Value.slice.injEq] at h1
      obtain ⟨rfl, -, rfl⟩ := h1
      obtain ⟨c0, c1⟩ := LnAt.ofRow hrow hgk
      obtain ⟨c, hs, hso, hmem, hlen⟩ := HC.out
      have HS := Lib.hid hs
      have HQ := Lib.hid (And.intro hso (And.intro hmem hlen))
      have HK := Lib.hid hgk
      clear hrow hgk hs hso hmem hlen HC
      go_wp2_with (go_at_call 47; (with_reducible refine (rput_any _ c x _ HS.out (by have := HQ.out.2.2; omega)).mono ?_); rintro e w' ⟨⟨v', rfl, hs'⟩, hb⟩; have HS' := Lib.hid hs'; have HB' := Lib.hid hb; clear hs' hb)
      go_roundg (ls.length - (k + 1))
      case measure => omega
      case rel =>
        refine ⟨k + 1, by omega, by omega, by go_num, ⟨_, HS'.out, insL_sorted HQ.out.1, fun z => ?_, by rw [insL_len, HQ.out.2.2]⟩, bl_then HB.out HB'.out⟩
        rw [insL_mem, ← take_snoc' HK.out, HQ.out.2.1 z, List.mem_append, List.mem_singleton]
        exact Or.comm
    · obtain rfl : k = ls.length := by omega
      have hltz : ¬ ((ls.length : Nat) : Int) < ((ls.length : Nat) : Int) := by omega
      obtain ⟨c, hs, hso, hmem, hlen⟩ := HC.out
      rw [List.take_length] at hmem
      have HQ := Lib.hid (And.intro hso (And.intro (fun z => (hmem z).1) (fun y hy n d h0 hd => ⟨y, (hmem y).2 hy, Int.le_refl _⟩ : Dom c ls)))
      have HS := Lib.hid hs
      have HLN := Lib.hid hlen
      have HB1 := Lib.hid HB
      clear hs hso hmem hlen HC HB
      go_wp2_with fail
      obtain ⟨w1, hw1⟩ : ∃ w1, w1 = wr := ⟨_, rfl⟩
      subst hw1
      go_loopg [3, 5, 6] (ls.length + 1) (fun gg s3 s5 s6 wr => ∃ c : List Ln, c.length ≤ gg ∧ c.length ≤ ls.length ∧ Aside (SAt Ln.cells 2 wr s3 c) ∧ Aside (c.Pairwise leLn ∧ (∀ z, z ∈ c → z ∈ ls) ∧ Dom c ls) ∧ Aside (Below w1.heap.size w1 wr))
      case atStart => exact ⟨c, by have := HLN.out; omega, by have := HLN.out; omega, HS.out, HQ.out, Below.refl _ _⟩
      case round =>
        clear HS HQ HLN c
        obtain ⟨c, hgg, hcl, HS, HQ, HB⟩ := hrel
        obtain ⟨A2, c2, rfl⟩ := HS.out.slice
        have HS2 := Lib.hid HS.out
        have HQ2 := Lib.hid HQ.out
        have HB2 := Lib.hid HB.out
        clear HS HQ HB
        go_wp2_with fail
        obtain ⟨wa, hwa⟩ : ∃ wa, wa = wr := ⟨_, rfl⟩
        subst hwa
        go_loopg [5, 6] (c.length + 1) (fun gg s5 s6 wr => ∃ k : Nat, ∃ g : Int, k ≤ c.length ∧ c.length - k ≤ gg ∧ s6 = .int .i64 k ∧ s5 = .int .i64 g ∧ Aside (GoneTo c g k) ∧ Aside (Below wa.heap.size wa wr))
        case atStart => exact ⟨0, -1, by omega, by omega, rfl, rfl, .inl ⟨rfl, fun i hi => by omega⟩, Below.refl _ _⟩
        case round =>
          obtain ⟨k, g, hk, hgg2, rfl, rfl, HG, HB⟩ := hrel
          by_cases hlt : k < c.length
          · have hltz : (k : Int) < (c.length : Int) := by omega
            by_cases hk0 : k = 0
            · subst hk0
              have HN := Lib.hid (goneTo_no HG.out (not_gone_zero c))
              have hz0 : decide ((0 : Int) < ((0 : Nat) : Int)) = false := rfl
              go_wp2_with fail
              refine r10_0 ?_
              refine Lib.hid ?_
              intros
              rename_i nq
              go_wp2_with fail
              go_roundg (c.length - (0 + 1))
              case measure => omega
              case rel => exact ⟨1, g, by omega, by omega, by go_num, rfl, HN.out, bl_drewN HB.out _⟩
            · obtain ⟨j, hj⟩ : ∃ j, k = j + 1 := ⟨k - 1, by omega⟩
              have hgy : c[k]? = some c[k] := List.getElem?_eq_getElem hlt
              have hgx : c[j]? = some c[j] := List.getElem?_eq_getElem (by omega)
              generalize c[k] = y at hgy
              generalize c[j] = x at hgx
              have hkz0 : (0 : Int) < (k : Int) := by omega
              have hkn0 : 0 < k := by omega
              have hjl : j < c.length := by omega
              rcases HS2.out.below HB.out with ⟨e1, e2⟩ | ⟨b, o, c3, e1, _, _, hrow⟩
              · subst e2; simp at hlt
              simp only [Value.slice.injEq] at e1
              obtain ⟨rfl, -, rfl⟩ := e1
              obtain ⟨x0, x1⟩ := LnAt.ofRow hrow hgx
              obtain ⟨y0, y1⟩ := LnAt.ofRow hrow hgy
              obtain ⟨⟨m1, m2⟩, m3, m4⟩ := HM.out x (HQ2.out.2.1 _ (List.mem_of_getElem? hgx))
              obtain ⟨⟨m5, m6⟩, m7, m8⟩ := HM.out y (HQ2.out.2.1 _ (List.mem_of_getElem? hgy))
              have n1 : (k : Int) - 1 = (j : Int) := by omega
              have n2 : (j : Int) < (c.length : Int) := by omega
              have n4 : (0 : Int) ≤ (j : Int) := by omega
              have n5 : IntKind.i64.wrap (j : Int) = (j : Int) := by rw [IntWalk.i64_in _ (by omega)]
              have HJ := Lib.hid hj
              have HROW := Lib.hid hrow
              have HGX := Lib.hid hgx
              have HGY := Lib.hid hgy
              clear hrow hgx hgy hj hk0
              by_cases hr : x.r ≤ y.r
              · have HN : Hid (GoneTo c (k : Int) (k + 1)) := Lib.hid (goneTo_yes (g := g) hlt ⟨j, x, y, HJ.out, HGX.out, HGY.out, .inl hr⟩)
                go_wp2_with fail
                refine r10_a (m := 0) (z := Ln0) (by omega) hlt hltz hkz0 hkn0 hjl x0 x1 y0 y1 n1 n2 n4 n5 ⟨⟨m1, m2⟩, m3, m4⟩ ⟨⟨m5, m6⟩, m7, m8⟩ hr ?_
                refine Lib.hid ?_
                intros
                rename_i nq
                go_wp2_with fail
                go_roundg (c.length - (k + 1))
                case measure => omega
                case rel => exact ⟨k + 1, k, by omega, by omega, by go_num, rfl, HN.out, bl_drewN HB.out _⟩
              · have hrf : decide (x.r ≤ y.r) = false := decide_eq_false hr
                by_cases hk1 : k + 1 < c.length
                · obtain ⟨m, hm⟩ : ∃ m, m = k + 1 := ⟨_, rfl⟩
                  rw [← hm] at hk1
                  have hgz : c[m]? = some c[m] := List.getElem?_eq_getElem hk1
                  generalize c[m] = z at hgz
                  obtain ⟨z0, z1⟩ := LnAt.ofRow HROW.out hgz
                  obtain ⟨⟨m9, m10⟩, m11, m12⟩ := HM.out z (HQ2.out.2.1 _ (List.mem_of_getElem? hgz))
                  have q1 : (k : Int) + 1 = (m : Int) := by omega
                  have q2 : (m : Int) < (c.length : Int) := by omega
                  have q4 : (0 : Int) ≤ (m : Int) := by omega
                  have q5 : IntKind.i64.wrap (m : Int) = (m : Int) := by rw [IntWalk.i64_in _ (by omega)]
                  have HM1 := Lib.hid hm
                  have HGZ := Lib.hid hgz
                  clear hm hgz
                  by_cases hzr : z.r < y.r
                  · by_cases hn : (z.b - x.b) * (x.r - y.r) ≤ (y.b - x.b) * (x.r - z.r)
                    · have HN : Hid (GoneTo c (k : Int) (k + 1)) := Lib.hid (goneTo_yes (g := g) hlt ⟨j, x, y, HJ.out, HGX.out, HGY.out, .inr ⟨z, by rw [← HM1.out]; exact HGZ.out, hzr, decide_eq_true hn⟩⟩)
                      go_wp2_with fail
                      refine r10_d (by omega) hlt hltz hkz0 hkn0 hjl x0 x1 y0 y1 n1 n2 n4 n5 ⟨⟨m1, m2⟩, m3, m4⟩ ⟨⟨m5, m6⟩, m7, m8⟩ (by omega) hk1 z0 z1 q1 q2 q4 q5 ⟨⟨m9, m10⟩, m11, m12⟩ hzr (by omega) ?_
                      refine Lib.hid ?_
                      intros
                      rename_i nq
                      clear q1
                      go_wp2_with fail
                      go_roundg (c.length - (k + 1))
                      case measure => omega
                      case rel => exact ⟨k + 1, k, by omega, by omega, by go_num, rfl, HN.out, bl_drewN HB.out _⟩
                    · have HN : Hid (GoneTo c g (k + 1)) := Lib.hid (goneTo_no HG.out fun hh => by
                        obtain ⟨j', x', y', e1, e2, e3, e4⟩ := hh
                        obtain rfl : j' = j := by have := HJ.out; omega
                        rw [HGX.out] at e2; rw [HGY.out] at e3; cases e2; cases e3
                        rcases e4 with e4 | ⟨z', e5, e6, e7⟩
                        · exact hr e4
                        · rw [← HM1.out, HGZ.out] at e5; cases e5; exact hn (of_decide_eq_true e7))
                      go_wp2_with fail
                      refine r10_e (by omega) hlt hltz hkz0 hkn0 hjl x0 x1 y0 y1 n1 n2 n4 n5 ⟨⟨m1, m2⟩, m3, m4⟩ ⟨⟨m5, m6⟩, m7, m8⟩ (by omega) hk1 z0 z1 q1 q2 q4 q5 ⟨⟨m9, m10⟩, m11, m12⟩ hzr (by omega) ?_
                      refine Lib.hid ?_
                      intros
                      rename_i nq
                      clear q1
                      go_wp2_with fail
                      go_roundg (c.length - (k + 1))
                      case measure => omega
                      case rel => exact ⟨k + 1, g, by omega, by omega, by go_num, rfl, HN.out, bl_drewN HB.out _⟩
                  · have hzf : decide (z.r < y.r) = false := decide_eq_false hzr
                    have HN : Hid (GoneTo c g (k + 1)) := Lib.hid (goneTo_no HG.out fun hh => by
                        obtain ⟨j', x', y', e1, e2, e3, e4⟩ := hh
                        obtain rfl : j' = j := by have := HJ.out; omega
                        rw [HGX.out] at e2; rw [HGY.out] at e3; cases e2; cases e3
                        rcases e4 with e4 | ⟨z', e5, e6, e7⟩
                        · exact hr e4
                        · rw [← HM1.out, HGZ.out] at e5; cases e5; exact hzr e6)
                    go_wp2_with fail
                    refine r10_c (by omega) hlt hltz hkz0 hkn0 hjl x0 x1 y0 y1 n1 n2 n4 n5 ⟨⟨m1, m2⟩, m3, m4⟩ ⟨⟨m5, m6⟩, m7, m8⟩ (by omega) hk1 z0 z1 q1 q2 q4 q5 ⟨⟨m9, m10⟩, m11, m12⟩ (by omega) ?_
                    refine Lib.hid ?_
                    intros
                    rename_i nq
                    clear q1
                    go_wp2_with fail
                    go_roundg (c.length - (k + 1))
                    case measure => omega
                    case rel => exact ⟨k + 1, g, by omega, by omega, by go_num, rfl, HN.out, bl_drewN HB.out _⟩
                · have hk1z : decide ((k : Int) + 1 < (c.length : Int)) = false := decide_eq_false (by omega)
                  have HN : Hid (GoneTo c g (k + 1)) := Lib.hid (goneTo_no HG.out fun hh => by
                        obtain ⟨j', x', y', e1, e2, e3, e4⟩ := hh
                        obtain rfl : j' = j := by have := HJ.out; omega
                        rw [HGX.out] at e2; rw [HGY.out] at e3; cases e2; cases e3
                        rcases e4 with e4 | ⟨z', e5, e6, e7⟩
                        · exact hr e4
                        · exact hk1 (List.getElem?_eq_some_iff.1 e5).1)
                  go_wp2_with fail
                  refine r10_b (m := 0) (z := Ln0) (by omega) hlt hltz hkz0 hkn0 hjl x0 x1 y0 y1 n1 n2 n4 n5 ⟨⟨m1, m2⟩, m3, m4⟩ ⟨⟨m5, m6⟩, m7, m8⟩ (by omega) (by omega) ?_
                  refine Lib.hid ?_
                  intros
                  rename_i nq
                  go_wp2_with fail
                  go_roundg (c.length - (k + 1))
                  case measure => omega
                  case rel => exact ⟨k + 1, g, by omega, by omega, by go_num, rfl, HN.out, bl_drewN HB.out _⟩
          · obtain rfl : k = c.length := by omega
            have hltz : ¬ ((c.length : Nat) : Int) < ((c.length : Nat) : Int) := by omega
            rcases HG.out with ⟨rfl, hno⟩ | ⟨n, rfl, hn, hgn⟩
            · have HF := Lib.hid (And.intro (HS2.out.below HB.out) (least_one HQ2.out.1 HQ2.out.2.1 HQ2.out.2.2 hno))
              clear hno
              go_wp2_with fail
              rw [HR.out]
              exact ⟨⟨_, rfl, by rw [← HF.out.2]; exact HF.out.1⟩, bl_then HB1.out (bl_then HB2.out HB.out)⟩
            · have HQ3 : Hid ((c.take n ++ c.drop (n + 1)).Pairwise leLn ∧ (∀ z, z ∈ c.take n ++ c.drop (n + 1) → z ∈ ls) ∧ Dom (c.take n ++ c.drop (n + 1)) ls) :=
                Lib.hid ⟨less_sorted HQ2.out.1, fun z hz => HQ2.out.2.1 z (less_mem hz), (gone_dom HQ2.out.1 hgn).trans HQ2.out.2.2⟩
              have HL3 : Hid ((c.take n ++ c.drop (n + 1)).length = c.length - 1) := Lib.hid (by simp; omega)
              obtain ⟨v1, hr1, hs1⟩ := run_slice_to elCv (HS2.out.below HB.out) n (by omega)
              obtain ⟨v2, hr2, hs2⟩ := run_slice_from elCv (HS2.out.below HB.out) (n + 1) (by omega)
              rw [show ((n + 1 : Nat) : Int) = (n : Int) + 1 from by simp] at hr2
              have HS3 := Lib.hid hs1
              have HS4 := Lib.hid hs2
              have HA1 : Hid (([] : List Ln).length + (c.take n).length ≤ maxLen ∧ (([] : List Ln).length + (c.take n).length) * 16 ≤ 140737488355328) := Lib.hid (by simp only [List.length_nil, List.length_take, maxLen]; omega)
              have HA2 : Hid ((([] : List Ln) ++ c.take n).length + (c.drop (n + 1)).length ≤ maxLen ∧ ((([] : List Ln) ++ c.take n).length + (c.drop (n + 1)).length) * 16 ≤ 140737488355328) := Lib.hid (by simp only [List.length_nil, List.length_append, List.length_drop, List.length_take, maxLen]; omega)
              have hj1 : IntKind.i64.wrap ((n : Int) + 1) = (n : Int) + 1 := by rw [IntWalk.i64_in _ (by omega)]
              have hnz : ¬ (n : Int) < 0 := by omega
              have hnl : n < c.length := hn
              have HL : Hid (1 ≤ c.length) := Lib.hid (by omega)
              obtain ⟨w0, hw0⟩ : ∃ w0, w0 = wr := ⟨_, rfl⟩
              subst hw0
              clear hs1 hs2 hgn
              go_upto_region 14 with fail
              go_region_law (first
                | (refine step_app rfl _ (.tmp 127) rfl elCv (fun _ => rfl) ln_one (base := w0.heap.size) (n := 0) (src := v1) (xs := ([] : List Ln)) (ys := c.take n) rfl (by go_simp) rfl (World.ownsRow_nil _ _ _ _) ?_ (Nat.le_refl _) HA1.out.1 HA1.out.2 ?_; (· exact HS3.out.below (by repeat (first | exact Below.refl _ _ | exact hb1 | exact bl_drew hb1 | refine bl_drew ?_ | refine bl_drewN ?_ _))); intro v' w' hown1 hb1; generalize hn1 : ([] ++ c.take n).length = n1 at hown1; have HN1 := Lib.hid hn1; clear hn1; obtain ⟨A1, c1, rfl⟩ := own_form hown1; have hb1 : Below w0.heap.size w0 w' := (bl_drew (Below.refl _ _)).trans hb1)
                | (refine step_app rfl (.tmp 128) (.tmp 132) rfl elCv (fun _ => rfl) ln_one (v := .slice A1 n1 c1) (src := v2) (xs := [] ++ c.take n) (ys := c.drop (n + 1)) (by go_simp) (by go_simp) HN1.out.symm hown1 ?_ hb1.size HA2.out.1 HA2.out.2 ?_; (· exact HS4.out.below (by repeat (first | exact Below.refl _ _ | exact hb1 | exact bl_drew hb1 | refine bl_drew ?_ | refine bl_drewN ?_ _))); intro v' w' hown2 hb2; generalize hn2 : ([] ++ c.take n ++ c.drop (n + 1)).length = n2 at hown2; have HN2 := Lib.hid hn2; clear hn2; obtain ⟨A2, c2, rfl⟩ := own_form hown2; have hb2 : Below w0.heap.size w0 w' := hb1.trans hb2))
              all_goals
                have hfin : SAt Ln.cells 2 w' (.slice A2 n2 c2) (c.take n ++ c.drop (n + 1)) := by
                  have := hown2
                  rw [List.nil_append] at this
                  have h3 := HN2.out
                  rw [List.nil_append] at h3
                  exact SAt.ofOwn (enc := Ln.cells) (fun _ => rfl) h3 this
                have HF := Lib.hid (And.intro hfin hb2)
                clear hfin hown1 hown2 hb1 hb2 hr1 hr2
                go_wp2_with fail
                go_roundg (c.length - 1)
                case measure => have := HL.out; omega
                case rel => exact ⟨_, by have := HL3.out; omega, by have := HL3.out; omega, HF.out.1, HQ3.out, bl_then HB2.out (bl_then HB.out HF.out.2)⟩
/-- What the document's Made answers. -/
def RMade (ls : List Ln) (w : World) (e : Ending) (w' : World) : Prop :=
  ((madeB ls = true ∧ ∃ v', e = .returned (.tuple #[v', .int .i64 0]) ∧ SAt Ln.cells 2 w' v' (lowL ls)) ∨ (madeB ls = false ∧ e = .returned (.tuple #[.slice none 0 0, .int .i64 3]))) ∧ Below w.heap.size w w'
theorem madeB_no {ls : List Ln} {x : Ln} (hx : x ∈ lowL ls) (h : mayB x = false) : madeB ls = false := by
  cases hq : madeB ls with
  | false => rfl
  | true =>
    unfold madeB at hq
    simp only [Bool.and_eq_true, decide_eq_true_eq] at hq
    have := (eachB_iff.1 hq.2).2 x hx
    rw [h] at this
    cases this
theorem lowL_ne {ls : List Ln} (h : ls ≠ []) : lowL ls ≠ [] := by
  intro e
  obtain ⟨x, hx⟩ := List.exists_mem_of_ne_nil _ h
  obtain ⟨u, hu, _⟩ := low_dom (lowL_is ls) x hx 0 1 (by omega) (by omega)
  rw [e] at hu
  cases hu
set_option maxRecDepth 100000 in
set_option maxHeartbeats 2000000 in
theorem rmade_any (v : Value) (ls : List Ln) (w : World) (h : SAt Ln.cells 2 w v ls) (hne : ls ≠ []) (hm : ∀ l ∈ ls, fits l) (hl : ls.length ≤ 1000) :
    Calls Try.prog 15 #[v] w (RMade ls w) := by
  have hlo := least_any v ls w h hm hl
  have hll := low_len (lowL_is ls)
  have hyes : lowL ls ≠ [] → (∀ x ∈ lowL ls, mayB x = true) → (lowL ls).length ≤ 32 → madeB ls = true := fun h0 h1 h2 => by
    unfold madeB
    rw [eachB_iff.2 ⟨h0, h1⟩]
    simpa using h2
  have hbig : ¬ (lowL ls).length ≤ 32 → madeB ls = false := fun hb => by unfold madeB; simp [hb]
  have hno := fun x hx h => madeB_no (ls := ls) (x := x) hx h
  have HX := Lib.hid (And.intro hyes (And.intro hbig (And.intro hno (lowL_ne hne))))
  have HLO := Lib.hid hlo
  obtain ⟨R, hR⟩ : ∃ R : Ending → World → Prop, R = RMade ls w := ⟨_, rfl⟩
  rw [← hR]
  unfold RMade at hR
  have HR := Lib.hid hR
  clear hR hlo hyes hbig hno h
  generalize lowL ls = c at *
  go_enter Try.func15, Try.ntmps15
  go_wp2_with fail
  refine HLO.out.mono ?_
  rintro e w1 ⟨⟨v', rfl, hs⟩, hb⟩
  obtain ⟨A, cc, rfl⟩ := hs.slice
  have HS := Lib.hid hs
  have HB1 := Lib.hid hb
  clear hs hb
  go_wp2_with fail
  go_loopg [5] (c.length + 1) (fun gg s5 wr => ∃ k : Nat, k ≤ c.length ∧ c.length - k ≤ gg ∧ s5 = .int .i64 k ∧ Aside (∀ i x, i < k → c[i]? = some x → mayB x = true) ∧ Aside (Below w1.heap.size w1 wr))
  case atStart => exact ⟨0, by omega, by omega, rfl, fun i x hi => by omega, Below.refl _ _⟩
  case round =>
    obtain ⟨k, hk, hgg, rfl, HN, HB⟩ := hrel
    by_cases hlt : k < c.length
    · have hltz : (k : Int) < (c.length : Int) := by omega
      have hgk : c[k]? = some c[k] := List.getElem?_eq_getElem hlt
      generalize c[k] = x at hgk
      rcases HS.out.below HB.out with ⟨h1, h2⟩ | ⟨b, o, c', h1, _, _, hrow⟩
      · subst h2; simp at hlt
      simp only [Value.slice.injEq] at h1
      obtain ⟨rfl, -, rfl⟩ := h1
      obtain ⟨c0, c1⟩ := LnAt.ofRow hrow hgk
      have HK := Lib.hid hgk
      have hma := fun W => rmay_any x W
      cases hq : mayB x with
      | false =>
        rw [hq] at hma
        have HQ := Lib.hid hq
        clear hrow hgk hq
        go_wp2_with (go_at_call 34; refine (hma _).mono ?_; rintro e w' ⟨rfl, hb⟩; have HB' := Lib.hid hb; clear hb)
        rw [HR.out]
        exact ⟨.inr ⟨HX.out.2.2.1 x (List.mem_of_getElem? HK.out) HQ.out, rfl⟩, bl_then HB1.out (bl_then HB.out HB'.out)⟩
      | true =>
        rw [hq] at hma
        have HQ := Lib.hid hq
        clear hrow hgk hq
        go_wp2_with (go_at_call 34; refine (hma _).mono ?_; rintro e w' ⟨rfl, hb⟩; have HB' := Lib.hid hb; clear hb)
        go_roundg (c.length - (k + 1))
        case measure => omega
        case rel =>
          refine ⟨k + 1, by omega, by omega, by go_num, (show Aside _ from fun i y hi hy => ?_), bl_then HB.out HB'.out⟩
          by_cases e : i = k
          · subst e; rw [HK.out] at hy; cases hy; exact HQ.out
          · exact HN.out i y (by omega) hy
    · obtain rfl : k = c.length := by omega
      have hltz : ¬ ((c.length : Nat) : Int) < ((c.length : Nat) : Int) := by omega
      have hall : ∀ x ∈ c, mayB x = true := fun x hx => by
        obtain ⟨i, hi⟩ := List.getElem?_of_mem hx
        exact HN.out i x (List.getElem?_eq_some_iff.1 hi).1 hi
      have HALL := Lib.hid hall
      clear hall
      by_cases h32 : c.length ≤ 32
      · have h32z : ¬ (32 : Int) < (c.length : Int) := by omega
        go_wp2_with fail
        rw [HR.out]
        exact ⟨.inl ⟨HX.out.1 HX.out.2.2.2 HALL.out h32, _, rfl, HS.out.below HB.out⟩, bl_then HB1.out HB.out⟩
      · have h32z : (32 : Int) < (c.length : Int) := by omega
        go_wp2_with fail
        rw [HR.out]
        exact ⟨.inr ⟨HX.out.2.1 h32, rfl⟩, bl_then HB1.out HB.out⟩
end Go.Proofs.Ytmkjiflliejjjaa
