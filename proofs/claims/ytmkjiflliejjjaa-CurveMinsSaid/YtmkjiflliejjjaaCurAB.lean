/- Curve: Sum. -/
import Derived.Test.YtmkjiflliejjjaaCurAA
namespace Go.Proofs.Ytmkjiflliejjjaa
open Go.RowKit Go.Shelf Go.Sort
set_option linter.unusedVariables false
set_option linter.unusedSimpArgs false
attribute [local go_sem] Oper.semAt_some
def sumAt (c : List Ln) (qs : List Cv) (k : Nat) : List Ln := (qs.take k).foldl (fun c p => lowL (sumsL c p.2)) c
theorem sumAt_zero (c : List Ln) (qs : List Cv) : sumAt c qs 0 = c := by simp [sumAt]
theorem sumAt_succ {c : List Ln} {qs : List Cv} {k : Nat} {p : Cv} (h : qs[k]? = some p) : sumAt c qs (k + 1) = lowL (sumsL (sumAt c qs k) p.2) := by
  unfold sumAt
  rw [← take_snoc' h, List.foldl_append]
  rfl
theorem elCvs : ElT Try.prog 56 24 1 24 (.slice none 0 0) := ElT.mk' Try.underlying56 (by kernel_rfl) rfl (by decide)
/-- What Sum tells of curves that may be. -/
def SumPost (c : List Ln) (qs : List Cv) (w : World) (e : Ending) (w' : World) : Prop :=
  (∃ k, k < qs.length ∧ eachB (sumAt c qs (k + 1)) = false ∧ e = .returned (.tuple #[.slice none 0 0, .int .i64 3]) ∧ Below w.heap.size w w') ∨
  ((∀ k, k < qs.length → eachB (sumAt c qs (k + 1)) = true) ∧ MadeIs (sumAt c qs qs.length) w e w')
set_option maxRecDepth 100000 in
set_option maxHeartbeats 4000000 in
theorem sum_yes (V : Value) (p0 : Cv) (qs : List Cv) (w : World) (h : CvsAt w V (p0 :: qs)) (hr : rightB (p0 :: qs) = true) (hl : ∀ k p, qs[k]? = some p → (sumAt p0.2 qs k).length * p.2.length ≤ 1000000) (hl2 : ∀ k, (sumAt p0.2 qs k).length ≤ 1000000) :
    Calls Try.prog 29 #[V] w (SumPost p0.2 qs w) := by
  have he := right_any V _ w h
  rw [hr] at he
  have hlm := h.1.len
  unfold maxLen at hlm
  simp only [List.length_cons] at hlm
  have hok := (rightB_iff.1 hr).2
  have H := Lib.hid h
  have HOK := Lib.hid hok
  have HL := Lib.hid (And.intro hl hl2)
  obtain ⟨v1, hrun, hsat⟩ := run_slice_from elCvs h.1 1 (by simp)
  rw [show (p0 :: qs).drop 1 = qs from rfl] at hsat
  obtain ⟨A1, c1, rfl⟩ := hsat.slice
  have HS1 := Lib.hid hsat
  have hV := h.1
  rcases hV with ⟨-, h0⟩ | ⟨b, o, c, rfl, hc1, hc2, hrow⟩
  · cases h0
  have hc0 : w.cell? ⟨b, o, none⟩ = some p0.1 := by
    have := hrow 0 p0 rfl 0 _ rfl
    simpa using this
  obtain ⟨A0, c0, hp0⟩ := (h.2 p0 (by simp)).slice
  have hs0 := h.2 p0 (by simp)
  obtain ⟨v0, a⟩ := p0
  simp only at hp0 hc0 hl hs0
  subst hp0
  have HS0 := Lib.hid hs0
  have HC0 := Lib.hid hc0
  obtain ⟨N, hN⟩ : ∃ N, N = qs.length + 1 := ⟨_, rfl⟩
  rw [List.length_cons, ← hN] at hrun he
  rw [List.length_cons, ← hN]
  have hN0 : 0 < N := by omega
  have hN0z : (0 : Int) < (N : Int) := by omega
  rw [show ((1 : Nat) : Int) = 1 from rfl] at hrun
  have HNN := Lib.hid hN
  obtain ⟨R, hR⟩ : ∃ R : Ending → World → Prop, R = SumPost a qs w := ⟨_, rfl⟩
  rw [← hR]
  unfold SumPost at hR
  have HR := Lib.hid hR
  clear h hr hok hl hl2 hsat hrow hs0 hc0 hR hN
  go_enter Try.func29, Try.ntmps29
  go_wp2_with (go_at_call 41; refine he.mono ?_; rintro e w1 ⟨rfl, hb⟩; have HB1 := Lib.hid hb; have hcc := bl_cell hb HC0.out; clear hb)
  go_loopg [4, 6, 16] (qs.length + 1) (fun gg s4 s6 s16 wr => ∃ k : Nat, k ≤ qs.length ∧ qs.length - k ≤ gg ∧ s16 = .int .i64 k ∧ Aside (SAt Ln.cells 2 wr s4 (sumAt a qs k)) ∧ Aside ((∀ j, j < k → eachB (sumAt a qs (j + 1)) = true) ∧ ∀ l ∈ sumAt a qs k, mayB l = true) ∧ Aside (Below w1.heap.size w1 wr))
  case atStart =>
    refine ⟨0, by omega, by omega, rfl, ?_, ⟨fun j hj => by omega, ?_⟩, Below.refl _ _⟩
    · rw [sumAt_zero]; exact HS0.out.below HB1.out
    · rw [sumAt_zero]; exact (okC_may (HOK.out _ List.mem_cons_self)).2.1
  case round =>
    obtain ⟨k, hk, hgg, rfl, HS, HE, HB⟩ := hrel
    by_cases hlt : k < qs.length
    · have hltz : (k : Int) < (qs.length : Int) := by omega
      have hgk : qs[k]? = some qs[k] := List.getElem?_eq_getElem hlt
      generalize qs[k] = p at hgk
      rcases HS1.out.below (bl_then HB1.out HB.out) with ⟨e1, e2⟩ | ⟨b2, o2, c2, e1, _, _, hrow⟩
      · subst e2; simp at hlt
      simp only [Value.slice.injEq] at e1
      obtain ⟨rfl, -, rfl⟩ := e1
      have hcp : wr.cell? ⟨b2, o2 + k, none⟩ = some p.1 := by
        have := hrow k p hgk 0 _ rfl
        simpa using this
      have hsp := (H.out.2 p (List.mem_cons_of_mem _ (List.mem_of_getElem? hgk))).below (bl_then HB1.out HB.out)
      have hmp := (okC_may (HOK.out p (List.mem_cons_of_mem _ (List.mem_of_getElem? hgk)))).2.1
      have hbo := both_any _ _ _ p.2 wr HS.out hsp HE.out.2 hmp (HL.out.1 k p hgk)
      rw [← sumAt_succ hgk] at hbo
      obtain ⟨Ap, cp, hpv⟩ := hsp.slice
      rw [hpv] at hbo hcp
      have HBO := Lib.hid hbo
      clear hrow hsp hmp hbo hpv hgk
      go_wp2_with fail
      refine HBO.out.mono ?_
      rintro e w2 ⟨⟨v2, rfl, hs2⟩, hb2⟩
      have hea := each_any v2 _ w2 hs2
      obtain ⟨A2, c2, rfl⟩ := hs2.slice
      have HS2 := Lib.hid hs2
      have HB2 := Lib.hid (bl_then HB.out hb2)
      clear hs2 hb2 hcp
      have HLL : Hid ((sumAt a qs (k + 1)).length ≤ 1000000) := Lib.hid (HL.out.2 (k + 1))
      generalize hcn : sumAt a qs (k + 1) = cn at *
      have HCN := Lib.hid hcn
      clear hcn
      cases hq : eachB cn with
      | false =>
        rw [hq] at hea
        have HQ := Lib.hid hq
        clear hq
        go_wp2_with (go_at_call 31; refine hea.mono ?_; rintro e w3 ⟨rfl, hb3⟩)
        rw [HR.out]
        exact .inl ⟨k, hlt, by rw [HCN.out]; exact HQ.out, rfl, bl_then HB1.out (bl_then HB2.out hb3)⟩
      | true =>
        rw [hq] at hea
        have HQ := Lib.hid hq
        clear hq
        go_wp2_with (go_at_call 31; refine hea.mono ?_; rintro e w3 ⟨rfl, hb3⟩; have HB3 := Lib.hid hb3; clear hb3)
        go_roundg (qs.length - (k + 1))
        case measure => omega
        case rel =>
          refine ⟨k + 1, by omega, by omega, by go_num, by rw [HCN.out]; exact HS2.out.below HB3.out, ⟨fun j hj => ?_, ?_⟩, bl_then HB2.out HB3.out⟩
          · by_cases e : j = k
            · subst e; rw [HCN.out]; exact HQ.out
            · exact HE.out.1 j (by omega)
          · rw [HCN.out]; exact (eachB_iff.1 HQ.out).2
    · obtain rfl : k = qs.length := by omega
      have hltz : ¬ ((qs.length : Nat) : Int) < ((qs.length : Nat) : Int) := by omega
      have hma := made_any _ _ wr HS.out (fun l hl => fits_of (HE.out.2 l hl)) (HL.out.2 _)
      obtain ⟨A2, c2, rfl⟩ := HS.out.slice
      have HMA := Lib.hid hma
      have HE' := Lib.hid HE.out
      have HB' := Lib.hid HB.out
      clear hma HS HE HB
      generalize hcn : sumAt a qs qs.length = cn at *
      have HCN := Lib.hid hcn
      clear hcn
      go_wp2_with fail
      refine HMA.out.mono ?_
      rintro e w4 hm
      obtain ⟨⟨hmb, v4, rfl, hs4⟩ | ⟨hmb, rfl⟩, hb4⟩ := made_is hm
      · have HF := Lib.hid (And.intro hmb (And.intro hs4 hb4))
        clear hm hmb hs4 hb4
        go_wp2_with fail
        rw [HR.out]
        exact .inr ⟨fun j hj => HE'.out.1 j hj, ⟨.inl ⟨HF.out.1, _, rfl, HF.out.2.1⟩, bl_then HB1.out (bl_then HB'.out HF.out.2.2)⟩⟩
      · have HF := Lib.hid (And.intro hmb hb4)
        clear hm hmb hb4
        go_wp2_with fail
        rw [HR.out]
        exact .inr ⟨fun j hj => HE'.out.1 j hj, ⟨.inr ⟨HF.out.1, rfl⟩, bl_then HB1.out (bl_then HB'.out HF.out.2)⟩⟩
set_option maxHeartbeats 1000000 in
theorem sum_no (V : Value) (ps : List Cv) (w : World) (h : CvsAt w V ps) (hr : rightB ps = false) :
    Calls Try.prog 29 #[V] w fun e w' => e = .returned (.tuple #[.slice none 0 0, .int .i64 2]) ∧ Below w.heap.size w w' := by
  have he := right_any V _ w h
  rw [hr] at he
  obtain ⟨A, c, rfl⟩ := h.1.slice
  clear h hr
  go_enter Try.func29, Try.ntmps29
  go_wp2_with (go_at_call 41; refine he.mono ?_; rintro e w1 ⟨rfl, hb⟩)
  go_ret2
  exact ⟨rfl, hb⟩
end Go.Proofs.Ytmkjiflliejjjaa
