/- Curve: the document's Normal, Right. -/
import Derived.Test.YtmkjiflliejjjaaCurI
namespace Go.Proofs.Ytmkjiflliejjjaa
open Go.RowKit Go.Shelf Go.Sort
set_option linter.unusedVariables false
set_option linter.unusedSimpArgs false
theorem take_rev {c : List Ln} {k : Nat} {x : Ln} (h : c[k]? = some x) : (c.take (k + 1)).reverse = x :: (c.take k).reverse := by
  rw [← take_snoc' h, List.reverse_append]
  rfl
theorem norm_drop : ∀ (a b : List Ln), NormR (a ++ b) → NormR b
  | [], _, h => h
  | _ :: a, b, h => norm_drop a b h.tail
theorem norm_take {c : List Ln} (h : NormR c.reverse) (i : Nat) : NormR (c.take i).reverse := by
  have : c.reverse = (c.drop i).reverse ++ (c.take i).reverse := by rw [← List.reverse_append, List.take_append_drop]
  rw [this] at h
  exact norm_drop _ _ h
theorem need_iff (z x y : Ln) : needB z x y = decide ((y.b - x.b) * (z.r - x.r) ≤ (x.b - z.b) * (x.r - y.r)) := by
  unfold needB
  obtain ⟨p, hp⟩ : ∃ p, p = x.b - z.b := ⟨_, rfl⟩
  obtain ⟨q, hq⟩ : ∃ q, q = y.b - x.b := ⟨_, rfl⟩
  obtain ⟨u, hu⟩ : ∃ u, u = z.r - x.r := ⟨_, rfl⟩
  obtain ⟨v, hv⟩ : ∃ v, v = x.r - y.r := ⟨_, rfl⟩
  rw [show y.b - z.b = p + q by omega, show z.r - y.r = u + v by omega, ← hp, ← hq, ← hu, ← hv, Int.add_mul, Int.mul_add]
  congr 1
  rw [eq_iff_iff]
  omega
set_option maxRecDepth 100000 in
set_option maxHeartbeats 2000000 in
theorem normal_any (v : Value) (c : List Ln) (w : World) (h : SAt Ln.cells 2 w v c) (hm : ∀ l ∈ c, mayB l = true) :
    Calls Try.prog 17 #[v] w fun e w' => e = .returned (.bool (decide (0 < c.length) && normRB c.reverse)) ∧ Below w.heap.size w w' := by
  have hlm := h.len
  unfold maxLen at hlm
  obtain ⟨A, cc, rfl⟩ := h.slice
  have H := Lib.hid h
  have HM : Hid (∀ l ∈ c, (0 ≤ l.b ∧ l.b ≤ 1000000000) ∧ 0 ≤ l.r ∧ l.r ≤ 1000000000) := Lib.hid fun l hl => by
    have := hm l hl
    simp only [mayB, inB, Bool.and_eq_true, decide_eq_true_eq] at this
    omega
  clear h hm
  generalize hR : (decide (0 < c.length) && normRB c.reverse) = R
  have HR := Lib.hid hR
  clear hR
  go_enter Try.func17, Try.ntmps17
  go_wp2_with fail
  go_loopg [3, 4, 5, 6] (c.length + 1) (fun gg s3 s4 s5 s6 wr => ∃ k : Nat, 1 ≤ k ∧ (k ≤ c.length ∨ k = 1) ∧ c.length - k ≤ gg ∧ s3 = .int .i64 k ∧ Aside (NormR (c.take k).reverse) ∧ Aside (Below w.heap.size w wr))
  case atStart => exact ⟨1, by omega, Or.inr rfl, by omega, rfl, by cases c <;> trivial, Below.refl _ _⟩
  case round =>
    obtain ⟨k, hk1, hk, hgg, rfl, HN, HB⟩ := hrel
    by_cases hlt : k < c.length
    · have hltz : (k : Int) < (c.length : Int) := by omega
      obtain ⟨j, hj⟩ : ∃ j, k = j + 1 := ⟨k - 1, by omega⟩
      have hgy : c[k]? = some c[k] := List.getElem?_eq_getElem hlt
      have hgx : c[j]? = some c[j] := List.getElem?_eq_getElem (by omega)
      generalize c[k] = y at hgy
      generalize c[j] = x at hgx
      rcases H.out.below HB.out with ⟨e1, e2⟩ | ⟨b, o, c2, e1, _, _, hrow⟩
      · subst e2; simp at hlt
      · simp only [Value.slice.injEq] at e1
        obtain ⟨rfl, -, rfl⟩ := e1
        obtain ⟨x0, x1⟩ := LnAt.ofRow hrow hgx
        obtain ⟨y0, y1⟩ := LnAt.ofRow hrow hgy
        obtain ⟨⟨m1, m2⟩, m3, m4⟩ := HM.out x (List.mem_of_getElem? hgx)
        obtain ⟨⟨m5, m6⟩, m7, m8⟩ := HM.out y (List.mem_of_getElem? hgy)
        have n1 : (k : Int) - 1 = (j : Int) := by omega
        have n2 : (j : Int) < (c.length : Int) := by omega
        have n3 : j < c.length := by omega
        have n4 : (0 : Int) ≤ (j : Int) := by omega
        have n5 : IntKind.i64.wrap (j : Int) = (j : Int) := by rw [IntWalk.i64_in _ (by omega)]
        have HJ := Lib.hid hj
        have HROW := Lib.hid hrow
        have HGX := Lib.hid hgx
        have HGY := Lib.hid hgy
        have HSX : Hid (∀ X, Below wr.heap.size wr X → (fun w' => (w'.cell? ⟨b, o + j * 2, none⟩ = some (.int .i64 x.b) ∧ w'.cell? ⟨b, o + j * 2 + 1, none⟩ = some (.int .i64 x.r)) ∧ w'.cell? ⟨b, o + k * 2, none⟩ = some (.int .i64 y.b) ∧ w'.cell? ⟨b, o + k * 2 + 1, none⟩ = some (.int .i64 y.r)) X) :=
          Lib.hid fun X hX => ⟨⟨bl_cell hX x0, bl_cell hX x1⟩, bl_cell hX y0, bl_cell hX y1⟩
        have hbs : b < wr.heap.size := World.block_lt_of_cell? wr ⟨b, o + j * 2, none⟩ x0
        clear hrow hgx hgy hj
        go_upto_region 4 with fail
        go_cut [4, 5, 10] from 13 to 21 (fun s4 s5 s10 wc => ∃ p4 p5 : Nat, s4 = .pointer (some ⟨p4, 0, none⟩) ∧ s5 = .pointer (some ⟨p5, 0, none⟩) ∧ LnAt wc p4 0 x ∧ LnAt wc p5 0 y ∧ Aside (Below wr.heap.size wr wc))
        case first =>
          first
          | go_region_held3 (fun w' => (w'.cell? ⟨b, o + j * 2, none⟩ = some (.int .i64 x.b) ∧ w'.cell? ⟨b, o + j * 2 + 1, none⟩ = some (.int .i64 x.r)) ∧ w'.cell? ⟨b, o + k * 2, none⟩ = some (.int .i64 y.b) ∧ w'.cell? ⟨b, o + k * 2 + 1, none⟩ = some (.int .i64 y.r))
              (exact HSX.out _ (by repeat (first | exact Below.refl _ _ | refine bl_drew ?_ | refine bl_drewN ?_ _ | refine bl_alloc ?_ _ | refine bl_set ?_ (by simp) _)))
              (fail)
          | fail "held3"
          all_goals
            go_wp2_with fail
            go_meet
            case rel => exact ⟨_, _, rfl, rfl, ⟨by go_simp, by go_simp⟩, ⟨by go_simp, by go_simp⟩, by repeat (first | exact Below.refl _ _ | refine bl_drew ?_ | refine bl_drewN ?_ _ | refine bl_alloc ?_ _ | refine bl_set ?_ (by simp) _)⟩
        case rest =>
          obtain ⟨p4, p5, rfl, rfl, ⟨a0, a1⟩, ⟨b0, b1⟩, HBC⟩ := hcut
          simp only [Nat.zero_add] at a1 b1
          have hN2 := HN.out
          by_cases hbad : y.b ≤ x.b ∨ x.r ≤ y.r
          · have hno : normRB c.reverse = false := by
              rw [Bool.eq_false_iff]
              intro hh
              have h1 := norm_take ((normRB_iff _).1 hh) (k + 1)
              rw [take_rev HGY.out, HJ.out, take_rev HGX.out] at h1
              have := h1.head
              omega
            by_cases hyb : y.b ≤ x.b
            · go_wp2_with fail
              go_ret
              exact ⟨by rw [← HR.out, hno]; simp, bl_then HB.out HBC.out⟩
            · have hyr : x.r ≤ y.r := by omega
              go_wp2_with fail
              go_ret
              exact ⟨by rw [← HR.out, hno]; simp, bl_then HB.out HBC.out⟩
          · have h1 : x.b < y.b := by omega
            have h2 : y.r < x.r := by omega
            clear hbad
            by_cases hk2 : k = 1
            · have hkz : ¬ (1 : Int) < (k : Int) := by omega
              have hkn : ¬ 1 < k := by omega
              have HK2 := Lib.hid hk2
              clear hk2
              go_wp2_with fail
              go_roundg (c.length - (k + 1))
              case measure => omega
              case rel =>
                refine ⟨k + 1, by omega, by omega, by omega, by go_num, ?_, bl_then HB.out HBC.out⟩
                have hj0 : j = 0 := by have := HJ.out; have := HK2.out; omega
                rw [take_rev HGY.out, HJ.out, take_rev HGX.out, hj0]
                exact ⟨h1, h2⟩
            · have hkz : (1 : Int) < (k : Int) := by omega
              have hkn : 1 < k := by omega
              obtain ⟨i, hi⟩ : ∃ i, j = i + 1 := ⟨j - 1, by have := HJ.out; omega⟩
              have hil : i < c.length := by omega
              have hgz : c[i]? = some c[i] := List.getElem?_eq_getElem hil
              generalize c[i] = z at hgz
              obtain ⟨z0, z1⟩ := LnAt.ofRow HROW.out hgz
              have z0 := bl_cell HBC.out z0
              have z1 := bl_cell HBC.out z1
              obtain ⟨⟨m9, m10⟩, m11, m12⟩ := HM.out z (List.mem_of_getElem? hgz)
              have q1 : (k : Int) - 2 = (i : Int) := by have := HJ.out; omega
              have q2 : (i : Int) < (c.length : Int) := by omega
              have q4 : (0 : Int) ≤ (i : Int) := by omega
              have q5 : IntKind.i64.wrap (i : Int) = (i : Int) := by rw [IntWalk.i64_in _ (by omega)]
              have w1 := mul_fits (p := x.b - z.b) (u := x.r - y.r) (by omega) (by omega) (by omega) (by omega)
              have w2 := mul_fits (p := y.b - x.b) (u := z.r - x.r) (by omega) (by omega) (by omega) (by omega)
              have hni := need_iff z x y
              have HI := Lib.hid hi
              have HGZ := Lib.hid hgz
              have HNI := Lib.hid hni
              have hcs : b < wc.heap.size := by have := HBC.out.size; omega
              clear hi hgz hni hk2 hN2
              have hck : ∀ p, (p = p4 ∨ p = p5) → p < wc.heap.size := by
                rintro p (rfl | rfl)
                · exact World.block_lt_of_cell? wc ⟨_, 0, none⟩ a0
                · exact World.block_lt_of_cell? wc ⟨_, 0, none⟩ b0
              have hp4 := hck p4 (Or.inl rfl)
              have hp5 := hck p5 (Or.inr rfl)
              clear hck
              by_cases hnd : (y.b - x.b) * (z.r - x.r) ≤ (x.b - z.b) * (x.r - y.r)
              · have hno : normRB c.reverse = false := by
                  rw [Bool.eq_false_iff]
                  intro hh
                  have h1 := norm_take ((normRB_iff _).1 hh) (k + 1)
                  rw [take_rev HGY.out, HJ.out, take_rev HGX.out, HI.out, take_rev HGZ.out] at h1
                  have h2 := h1.2.1
                  rw [HNI.out] at h2
                  exact absurd hnd (of_decide_eq_false h2)
                go_wp2_with fail
                go_ret
                exact ⟨by rw [← HR.out, hno]; simp, bl_then HB.out (bl_then HBC.out (bl_alloc (Below.refl _ _) _))⟩
              · have HND := Lib.hid hnd
                go_wp2_with fail
                go_roundg (c.length - (k + 1))
                case measure => omega
                case rel =>
                  refine ⟨k + 1, by omega, by omega, by omega, by go_num, ?_, bl_then HB.out (bl_then HBC.out (bl_alloc (Below.refl _ _) _))⟩
                  have h3 := HN.out
                  rw [HJ.out, take_rev HGX.out, HI.out, take_rev HGZ.out] at h3
                  rw [take_rev HGY.out, HJ.out, take_rev HGX.out, HI.out, take_rev HGZ.out]
                  exact ⟨⟨h1, h2⟩, by rw [HNI.out]; exact decide_eq_false (by have := HND.out; omega), h3⟩
    · have hltz : ¬ (k : Int) < (c.length : Int) := by omega
      have hall : c.take k = c := List.take_of_length_le (by omega)
      have hnr : normRB c.reverse = true := (normRB_iff _).2 (by have := HN.out; rwa [hall] at this)
      have HNR := Lib.hid hnr
      clear hnr hall
      by_cases h0 : 0 < c.length
      · have h0z : (0 : Int) < (c.length : Int) := by omega
        go_wp2_with fail
        go_ret
        exact ⟨by rw [← HR.out, HNR.out]; simp [h0], HB.out⟩
      · have h0z : ¬ (0 : Int) < (c.length : Int) := by omega
        go_wp2_with fail
        go_ret
        exact ⟨by rw [← HR.out, HNR.out]; simp [h0], HB.out⟩
set_option maxRecDepth 100000 in
set_option maxHeartbeats 1000000 in
theorem rright_any (v : Value) (c : List Ln) (w : World) (h : SAt Ln.cells 2 w v c) :
    Calls Try.prog 20 #[v] w fun e w' => e = .returned (.bool (okC c)) ∧ Below w.heap.size w w' := by
  have hlm := h.len
  unfold maxLen at hlm
  obtain ⟨A, cc, rfl⟩ := h.slice
  have H := Lib.hid h
  clear h
  generalize hR : okC c = R
  have HR := Lib.hid hR
  clear hR
  by_cases hlo : c.length < 1
  · have hlz : (c.length : Int) < 1 := by omega
    have hno : okC c = false := by
      have : c = [] := List.eq_nil_of_length_eq_zero (by omega)
      subst this
      rfl
    go_enter Try.func20, Try.ntmps20
    go_wp2_with fail
    go_ret
    exact ⟨by rw [← HR.out, hno]; rfl, Below.refl _ _⟩
  · by_cases hhi : 32 < c.length
    · have hlz : ¬ (c.length : Int) < 1 := by omega
      have hhz : (32 : Int) < (c.length : Int) := by omega
      have hno : okC c = false := by rw [Bool.eq_false_iff]; intro hh; have := (okC_may hh).2.2.1; omega
      have HNO := Lib.hid hno
      clear hno
      go_enter Try.func20, Try.ntmps20
      go_wp2_with fail
      go_ret
      exact ⟨by rw [← HR.out, HNO.out]; rfl, Below.refl _ _⟩
    · have hlz : ¬ (c.length : Int) < 1 := by omega
      have hhz : (c.length : Int) ≤ 32 := by omega
      have hlo1 : 1 ≤ c.length := by omega
      have h32 : c.length ≤ 32 := by omega
      clear hlm hlo hhi
      go_enter Try.func20, Try.ntmps20
      go_wp2_with fail
      go_loopg [3] (c.length + 1) (fun gg s3 wr => ∃ k : Nat, k ≤ c.length ∧ c.length - k ≤ gg ∧ s3 = .int .i64 k ∧ Aside (∀ (j : Nat), j < k → ∀ m, c[j]? = some m → mayB m = true) ∧ Aside (Below w.heap.size w wr))
      case atStart => exact ⟨0, by omega, by omega, rfl, fun j hj => absurd hj (Nat.not_lt_zero _), Below.refl _ _⟩
      case round =>
        obtain ⟨k, hk, hgg, rfl, HN, HB⟩ := hrel
        by_cases hlt : k < c.length
        · have hltz : (k : Int) < (c.length : Int) := by omega
          have hgk : c[k]? = some c[k] := List.getElem?_eq_getElem hlt
          generalize c[k] = l at hgk
          rcases H.out.below HB.out with ⟨e1, e2⟩ | ⟨b, o, c2, e1, _, _, hrow⟩
          · subst e2; simp at hlt
          · simp only [Value.slice.injEq] at e1
            obtain ⟨rfl, -, rfl⟩ := e1
            obtain ⟨x0, x1⟩ := LnAt.ofRow hrow hgk
            have HK := Lib.hid hgk
            have hmy := fun w => rmay_any l w
            clear hrow hgk
            cases hq : mayB l with
            | true =>
              rw [hq] at hmy
              have HQ := Lib.hid hq
              clear hq
              go_wp2_with (go_at_call 34; refine (hmy _).mono ?_; rintro e w2 ⟨rfl, hb2⟩)
              go_roundg (c.length - (k + 1))
              case measure => omega
              case rel =>
                refine ⟨k + 1, by omega, by omega, by go_num, (show Aside _ from fun j hj m hm => ?_), bl_then HB.out hb2⟩
                rcases Nat.lt_succ_iff_lt_or_eq.1 hj with hj | rfl
                · exact HN.out j hj m hm
                · rw [HK.out] at hm
                  cases hm
                  exact HQ.out
            | false =>
              rw [hq] at hmy
              have HQ := Lib.hid hq
              clear hq
              go_wp2_with (go_at_call 34; refine (hmy _).mono ?_; rintro e w2 ⟨rfl, hb2⟩)
              go_ret
              refine ⟨?_, bl_then HB.out hb2⟩
              have hno : okC c = false := by
                rw [Bool.eq_false_iff]
                intro hh
                have := (okC_may hh).2.1 l (List.mem_of_getElem? HK.out)
                rw [HQ.out] at this
                cases this
              rw [← HR.out, hno]
              rfl
        · obtain rfl : k = c.length := by omega
          have hltz : ¬ ((c.length : Nat) : Int) < ((c.length : Nat) : Int) := by omega
          have hall : ∀ l ∈ c, mayB l = true := fun l hl => by
            obtain ⟨j, hj⟩ := List.getElem?_of_mem hl
            exact HN.out j (List.getElem?_eq_some_iff.1 hj).1 l hj
          have hnm := normal_any _ c wr (H.out.below HB.out) hall
          have hok : okC c = (decide (0 < c.length) && normRB c.reverse) := by
            have he : eachB c = true := eachB_iff.2 ⟨by rintro rfl; simp at hlo1, hall⟩
            simp [okC, he, h32, show 0 < c.length from hlo1]
          rw [← hok] at hnm
          have HOK := Lib.hid hok
          clear hall hok
          go_wp2_with (go_at_call 17; refine hnm.mono ?_; rintro e w2 ⟨rfl, hb2⟩)
          go_ret
          exact ⟨by rw [← HR.out]; rfl, bl_then HB.out hb2⟩
end Go.Proofs.Ytmkjiflliejjjaa
