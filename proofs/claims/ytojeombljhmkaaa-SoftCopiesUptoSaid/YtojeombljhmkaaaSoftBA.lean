/- Soft: the document's Life, named, Find. -/
import Derived.Test.YtojeombljhmkaaaSoftU
namespace Go.Proofs.Ytojeombljhmkaaa
open Go.RowKit Go.Shelf Go.Sort
set_option linter.unusedVariables false
set_option linter.unusedSimpArgs false
attribute [local go_sem] Oper.semAt_some
set_option maxHeartbeats 400000 in
theorem rlife_any (p : Int) (w : World) :
    Calls Try.prog 21 #[.int .i64 p] w fun e w' => e = .returned (.int .i64 (lifeI p)) ∧ w = w' := by
  unfold lifeI
  by_cases h1 : p < 1
  · rw [if_pos (.inl h1)]
    go_enter Try.func21, Try.ntmps21
    go_wp2
    go_ret
    exact ⟨rfl, rfl⟩
  · by_cases h2 : 1000000 < p
    · rw [if_pos (.inr h2)]
      go_enter Try.func21, Try.ntmps21
      go_wp2
      go_ret
      exact ⟨rfl, rfl⟩
    · rw [if_neg (by omega)]
      have h3 : 1 ≤ p := by omega
      have h4 : p ≤ 1000000 := by omega
      clear h1 h2
      by_cases h5 : 0 < (21 * p) % 4
      · have he : 21 * p / 4 + 1 = (21 * p + 3) / 4 := by omega
        rw [← he]
        go_enter Try.func21, Try.ntmps21
        go_wp2
        all_goals try (exfalso; omega)
        go_ret
        exact ⟨rfl, rfl⟩
      · have he : 21 * p / 4 = (21 * p + 3) / 4 := by omega
        rw [← he]
        go_enter Try.func21, Try.ntmps21
        go_wp2
        all_goals try (exfalso; omega)
        go_ret
        exact ⟨rfl, rfl⟩
set_option maxHeartbeats 400000 in
theorem rnamed_any (s : ByteArray) (w : World) :
    Calls Try.prog 51 #[.string s] w fun e w' => e = .returned (.bool (namedB s)) ∧ w = w' := by
  have hem : (⟨#[]⟩ : ByteArray).toList = [] := by rw [Lib.toList_data]
  by_cases h1 : s.toList = []
  · have hn : namedB s = false := by unfold namedB; simp [h1]
    have hb : s.toList.isEmpty = true := by rw [h1]; rfl
    rw [hn]
    clear hn h1
    go_enter Try.func51, Try.ntmps51
    go_wp2
    go_ret
    exact ⟨by first | rfl | simp, rfl⟩
  · have hb : s.toList.isEmpty = false := by simpa using h1
    by_cases h2 : s.size ≤ 60
    · have hn : namedB s = true := by unfold namedB; simp [h1]; omega
      have hz : (s.size : Int) ≤ 60 := by omega
      rw [hn]
      clear hn h1
      go_enter Try.func51, Try.ntmps51
      go_wp2
      go_ret
      exact ⟨by first | rfl | (simp; omega), rfl⟩
    · have hn : namedB s = false := by unfold namedB; simp [h1]; omega
      have hz : ¬ (s.size : Int) ≤ 60 := by omega
      rw [hn]
      clear hn h1
      go_enter Try.func51, Try.ntmps51
      go_wp2
      go_ret
      exact ⟨by first | rfl | (simp; omega), rfl⟩
/-- The place of a name. -/
def placeI (L : List Th) (s : ByteArray) : Int := match L.findIdx? (fun x => decide (x.name = s)) with | none => -1 | some k => (k : Int)
theorem place_none {L : List Th} {s : ByteArray} (h : ∀ x ∈ L, x.name ≠ s) : placeI L s = -1 := by
  unfold placeI
  rw [List.findIdx?_eq_none_iff.2 fun x hx => by simpa using h x hx]
theorem place_some {L : List Th} {s : ByteArray} {k : Nat} {x : Th} (hk : L[k]? = some x) (hx : x.name = s) (h : ∀ j y, j < k → L[j]? = some y → y.name ≠ s) : placeI L s = (k : Int) := by
  unfold placeI
  obtain ⟨hkl, rfl⟩ := List.getElem?_eq_some_iff.1 hk
  have : L.findIdx? (fun x => decide (x.name = s)) = some k := List.findIdx?_eq_some_iff_getElem.2 ⟨hkl, by simpa using hx, fun j hj => by simpa using h j _ hj (List.getElem?_eq_getElem _)⟩
  rw [this]
set_option maxRecDepth 100000 in
set_option maxHeartbeats 1000000 in
theorem rfind_any (now : Int) (v : Value) (L : List Th) (s : ByteArray) (w : World) (h : SAt Th.cells 4 w v L) :
    Calls Try.prog 20 #[.agg #[.int .i64 now, v], .string s] w fun e w' => e = .returned (.int .i64 (placeI L s)) ∧ Below w.heap.size w w' := by
  have hlm := h.len
  unfold maxLen at hlm
  obtain ⟨A, c, rfl⟩ := h.slice
  have H := Lib.hid h
  obtain ⟨Q, hQ⟩ : ∃ Q : Ending → World → Prop, Q = fun e w' => e = .returned (.int .i64 (placeI L s)) ∧ Below w.heap.size w w' := ⟨_, rfl⟩
  rw [← hQ]
  have HQ := Lib.hid hQ
  clear hQ h
  have hb1 := bl_alloc (Below.refl w.heap.size w) (.cells #[.int .i64 now, .slice A L.length c] 47)
  have hc1 : (w.alloc (.cells #[.int .i64 now, .slice A L.length c] 47)).cell? ⟨w.heap.size, 1, none⟩ = some (.slice A L.length c) := by go_simp
  obtain ⟨w1, hw1⟩ : ∃ w1, w1 = w.alloc (.cells #[.int .i64 now, .slice A L.length c] 47) := ⟨_, rfl⟩
  rw [← hw1] at hb1 hc1
  have HB1 := Lib.hid hb1
  have HC1 := Lib.hid hc1
  have HW1 := Lib.hid hw1
  clear hb1 hc1 hw1
  go_enter Try.func20, Try.ntmps20
  go_wp2_with fail
  rw [← HW1.out]
  go_loopg [5] (L.length + 1) (fun gg s5 wr => ∃ k : Nat, k ≤ L.length ∧ L.length - k ≤ gg ∧ s5 = .int .i64 k ∧ wr = w1 ∧ Aside (∀ j y, j < k → L[j]? = some y → y.name ≠ s))
  case atStart => exact ⟨0, by omega, by omega, rfl, rfl, fun j y hj => absurd hj (by omega)⟩
  case round =>
    obtain ⟨k, hk, hgg, rfl, rfl, HN⟩ := hrel
    have hc1 := HC1.out
    by_cases hlt : k < L.length
    · have hltz : (k : Int) < (L.length : Int) := by omega
      have hgk : L[k]? = some L[k] := List.getElem?_eq_getElem hlt
      generalize L[k] = x at hgk
      rcases H.out.below HB1.out with ⟨-, q2⟩ | ⟨b, o, c', q1, _, _, hrow⟩
      · subst q2; simp at hlt
      · simp only [Value.slice.injEq] at q1
        obtain ⟨rfl, -, rfl⟩ := q1
        obtain ⟨c0, c1', c2, c3⟩ := th_row hrow hgk
        have HK := Lib.hid hgk
        clear hrow hgk
        by_cases hxs : x.name = s
        · have hb : (x.name.toList == s.toList) = true := by rw [hxs]; simp
          have HXS := Lib.hid hxs
          clear hxs
          go_wp2_with fail
          rw [HQ.out]
          exact ⟨by rw [place_some HK.out HXS.out HN.out]; rfl, HB1.out⟩
        · have hb : (x.name.toList == s.toList) = false := by
            cases h4 : x.name.toList == s.toList with
            | false => rfl
            | true => exact absurd (toList_inj (beq_iff_eq.1 h4)) hxs
          have HXS := Lib.hid hxs
          clear hxs
          go_wp2_with fail
          go_roundg (L.length - (k + 1))
          case measure => omega
          case rel =>
            refine ⟨k + 1, by omega, by omega, by go_num, rfl, (show ∀ j y, j < k + 1 → L[j]? = some y → y.name ≠ s from fun j y hj hy => ?_)⟩
            by_cases he : j = k
            · subst he; rw [HK.out] at hy; cases hy; exact HXS.out
            · exact HN.out j y (by omega) hy
    · obtain rfl : k = L.length := by omega
      have hltz : ¬ (L.length : Int) < (L.length : Int) := by omega
      go_wp2_with fail
      rw [HQ.out]
      refine ⟨?_, HB1.out⟩
      rw [place_none fun x hx => by
        obtain ⟨j, hj⟩ := List.getElem?_of_mem hx
        exact HN.out j x (List.getElem?_eq_some_iff.1 hj).1 hj]
end Go.Proofs.Ytojeombljhmkaaa
