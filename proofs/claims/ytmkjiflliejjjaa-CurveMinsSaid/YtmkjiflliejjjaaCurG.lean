/- Curve: made, Make, At, Slowest. -/
import Derived.Test.YtmkjiflliejjjaaCurF
namespace Go.Proofs.Ytmkjiflliejjjaa
open Go.RowKit Go.Shelf Go.Sort
set_option linter.unusedVariables false
set_option linter.unusedSimpArgs false
/-- What made tells of lines. -/
def MadePost (ls : List Ln) (w : World) (e : Ending) (w' : World) : Prop :=
  (∃ out, IsLow ls out ∧ ((out.length ≤ 32 ∧ eachB out = true ∧ ∃ v', e = .returned (.tuple #[v', .int .i64 0]) ∧ SAt Ln.cells 2 w' v' out) ∨ (¬ (out.length ≤ 32 ∧ eachB out = true) ∧ e = .returned (.tuple #[.slice none 0 0, .int .i64 3])))) ∧ Below w.heap.size w w'
set_option maxHeartbeats 1000000 in
theorem made_any (v : Value) (ls : List Ln) (w : World) (h : SAt Ln.cells 2 w v ls) (hfit : ∀ l ∈ ls, fits l) (hlen : ls.length ≤ 1000000) :
    Calls Try.prog 33 #[v] w (MadePost ls w) := by
  have hlo := lower_any v ls w h hfit hlen
  obtain ⟨A, cc, rfl⟩ := h.slice
  clear h hfit
  obtain ⟨R, hR⟩ : ∃ R : Ending → World → Prop, R = MadePost ls w := ⟨_, rfl⟩
  rw [← hR]
  have HR := Lib.hid hR
  clear hR
  go_enter Try.func33, Try.ntmps33
  go_wp2_with fail
  refine hlo.mono ?_
  clear hlo
  rintro e w1 ⟨⟨v1, out, rfl, hlow, hsat⟩, hb1⟩
  have hol := low_len hlow
  have hea := each_any v1 out w1 hsat
  obtain ⟨A1, c1, rfl⟩ := hsat.slice
  have HL := Lib.hid hlow
  have HS := Lib.hid hsat
  have HB1 := Lib.hid hb1
  clear hlow hsat hb1
  by_cases h32 : out.length ≤ 32
  · have h32z : (out.length : Int) ≤ 32 := by omega
    cases hq : eachB out with
    | true =>
      rw [hq] at hea
      have HQ := Lib.hid hq
      clear hq
      go_wp2_with (go_at_call 31; refine hea.mono ?_; rintro e w2 ⟨rfl, hb2⟩; have HB2 := Lib.hid hb2; clear hb2)
      rw [HR.out]
      exact ⟨⟨out, HL.out, Or.inl ⟨h32, HQ.out, _, rfl, HS.out.below HB2.out⟩⟩, bl_then HB1.out HB2.out⟩
    | false =>
      rw [hq] at hea
      have HQ := Lib.hid hq
      clear hq
      go_wp2_with (go_at_call 31; refine hea.mono ?_; rintro e w2 ⟨rfl, hb2⟩; have HB2 := Lib.hid hb2; clear hb2)
      all_goals try (exfalso; omega)
      rw [HR.out]
      exact ⟨⟨out, HL.out, Or.inr ⟨fun hh => by rw [HQ.out] at hh; exact absurd hh.2 (by decide), rfl⟩⟩, bl_then HB1.out HB2.out⟩
  · have h32z : (32 : Int) < (out.length : Int) := by omega
    clear hea
    go_wp2_with fail
    rw [HR.out]
    exact ⟨⟨out, HL.out, Or.inr ⟨fun hh => h32 hh.1, rfl⟩⟩, HB1.out⟩
set_option maxHeartbeats 1000000 in
theorem make_no (v : Value) (ls : List Ln) (w : World) (h : SAt Ln.cells 2 w v ls) (hq : eachB ls = false) :
    Calls Try.prog 12 #[v] w fun e w' => e = .returned (.tuple #[.slice none 0 0, .int .i64 2]) ∧ Below w.heap.size w w' := by
  have he := each_any v ls w h
  obtain ⟨A, cc, rfl⟩ := h.slice
  rw [hq] at he
  clear h hq
  go_enter Try.func12, Try.ntmps12
  go_wp2_with (go_at_call 31; refine he.mono ?_; rintro e w1 ⟨rfl, hb⟩)
  go_ret2
  exact ⟨rfl, hb⟩
set_option maxHeartbeats 1000000 in
theorem make_yes (v : Value) (ls : List Ln) (w : World) (h : SAt Ln.cells 2 w v ls) (hq : eachB ls = true) (hlen : ls.length ≤ 1000000) :
    Calls Try.prog 12 #[v] w (MadePost ls w) := by
  have he := each_any v ls w h
  rw [hq] at he
  have H := Lib.hid h
  have HF : Hid (∀ l ∈ ls, fits l) := Lib.hid fun l hl => fits_of ((eachB_iff.1 hq).2 l hl)
  obtain ⟨A, cc, rfl⟩ := h.slice
  clear h hq
  obtain ⟨R, hR⟩ : ∃ R : Ending → World → Prop, R = MadePost ls w := ⟨_, rfl⟩
  rw [← hR]
  have HR := Lib.hid hR
  clear hR
  go_enter Try.func12, Try.ntmps12
  go_wp2_with (go_at_call 31; refine he.mono ?_; rintro e w1 ⟨rfl, hb⟩; have HB := Lib.hid hb; clear hb)
  refine (made_any _ ls _ (H.out.below HB.out) HF.out hlen).mono ?_
  rintro e w2 ⟨⟨out, hl, ⟨h32, hea, v', rfl, hs⟩ | ⟨hn, rfl⟩⟩, hb2⟩
  · obtain ⟨A1, c1, rfl⟩ := hs.slice
    have HL := Lib.hid hl
    have HS := Lib.hid hs
    have HE := Lib.hid hea
    clear hl hs hea
    go_wp2_with fail
    rw [HR.out]
    exact ⟨⟨out, HL.out, Or.inl ⟨h32, HE.out, _, rfl, HS.out⟩⟩, bl_then HB.out hb2⟩
  · have HL := Lib.hid hl
    have HN := Lib.hid hn
    clear hl hn
    go_wp2_with fail
    rw [HR.out]
    exact ⟨⟨out, HL.out, Or.inr ⟨HN.out, rfl⟩⟩, bl_then HB.out hb2⟩
/-- How high a line is at a tick. -/
def atI (l : Ln) (t : Int) : Int := l.b + l.r * t
theorem at_fits {l : Ln} {t : Int} (h : mayB l = true) (h0 : 0 ≤ t) (ht : t ≤ 2147483647) : (0 ≤ l.r * t ∧ l.r * t ≤ 2147483647000000000) ∧ 0 ≤ atI l t ∧ atI l t ≤ 2147483648000000000 := by
  simp only [mayB, inB, Bool.and_eq_true, decide_eq_true_eq] at h
  have k1 := Int.mul_nonneg h.2.1 h0
  have k2 : l.r * t ≤ 1000000000 * 2147483647 := Int.mul_le_mul h.2.2 ht h0 (by omega)
  unfold atI
  omega
set_option maxHeartbeats 400000 in
theorem at1_any (l : Ln) (t : Int) (w : World) (h : mayB l = true) (h0 : 0 ≤ t) (ht : t ≤ 2147483647) :
    Calls Try.prog 39 #[.agg #[.int .i64 l.b, .int .i64 l.r], .int .i64 t] w fun e w' => e = .returned (.int .i64 (atI l t)) ∧ Below w.heap.size w w' := by
  have hf := at_fits h h0 ht
  unfold atI at *
  have hp : ∃ p, p = l.r * t := ⟨_, rfl⟩
  obtain ⟨⟨f1, f2⟩, f3, f4⟩ := hf
  have k1 : IntKind.i64.wrap (l.r * t) = l.r * t := by rw [IntWalk.i64_in _ (by omega)]
  have k2 : IntKind.i64.wrap (l.b + l.r * t) = l.b + l.r * t := by rw [IntWalk.i64_in _ (by omega)]
  go_enter Try.func39, Try.ntmps39
  go_wp2
  go_ret
  exact ⟨rfl, bl_alloc (Below.refl _ _) _⟩
/-- How high some lines are at a tick. -/
def atC : List Ln → Int → Int
  | [], _ => 0
  | x :: c, t => c.foldl (fun m l => min m (atI l t)) (atI x t)
theorem foldl_step (c : List Ln) (t : Int) (m : Int) {k : Nat} {l : Ln} (h : c[k]? = some l) : (c.take (k + 1)).foldl (fun m l => min m (atI l t)) m = min ((c.take k).foldl (fun m l => min m (atI l t)) m) (atI l t) := by
  rw [← take_snoc' h, List.foldl_append]
  rfl
theorem okC_may {c : List Ln} (h : okC c = true) : c ≠ [] ∧ (∀ l ∈ c, mayB l = true) ∧ c.length ≤ 32 ∧ NormR c.reverse := by
  simp only [okC, Bool.and_eq_true, decide_eq_true_eq] at h
  exact ⟨(eachB_iff.1 h.1).1, (eachB_iff.1 h.1).2, h.2.1, (normRB_iff _).1 h.2.2⟩
set_option maxHeartbeats 1000000 in
theorem at_no (v : Value) (c : List Ln) (t : Int) (w : World) (h : SAt Ln.cells 2 w v c) (hq : okC c = false ∨ inB t 2147483647 = false) :
    Calls Try.prog 22 #[v, .int .i64 t] w fun e w' => e = .returned (.tuple #[.int .i64 0, .int .i64 2]) ∧ Below w.heap.size w w' := by
  have hc := check_any v c w h
  have hw := fun w => within_any t 2147483647 w
  obtain ⟨A, cc, rfl⟩ := h.slice
  clear h
  cases h1 : okC c with
  | false =>
    rw [h1] at hc
    simp only [Bool.false_eq_true, if_false] at hc
    clear h1 hq
    go_enter Try.func22, Try.ntmps22
    go_wp2_with (first | (go_at_call 16; refine hc.mono ?_; rintro e w1 ⟨rfl, hb⟩) | (go_at_call 38; refine (hw _).mono ?_; rintro e w' ⟨rfl, rfl⟩))
    go_ret2
    exact ⟨rfl, hb⟩
  | true =>
    have h2 : inB t 2147483647 = false := by rcases hq with hq | hq; · rw [h1] at hq; cases hq
                                             · exact hq
    rw [h1] at hc
    simp only [if_true] at hc
    simp only [h2] at hw
    clear h1 hq h2
    go_enter Try.func22, Try.ntmps22
    go_wp2_with (first | (go_at_call 16; refine hc.mono ?_; rintro e w1 ⟨rfl, hb⟩) | (go_at_call 38; refine (hw _).mono ?_; rintro e w' ⟨rfl, rfl⟩))
    go_ret2
    exact ⟨rfl, hb⟩
end Go.Proofs.Ytmkjiflliejjjaa
