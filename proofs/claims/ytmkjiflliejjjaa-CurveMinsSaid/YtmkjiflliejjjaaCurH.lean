/- Curve: At, Slowest. -/
import Derived.Test.YtmkjiflliejjjaaCurG
namespace Go.Proofs.Ytmkjiflliejjjaa
open Go.RowKit Go.Shelf Go.Sort
set_option linter.unusedVariables false
set_option linter.unusedSimpArgs false
theorem fold_range (t : Int) (ht0 : 0 ≤ t) (ht : t ≤ 2147483647) : ∀ (c : List Ln) (m : Int), (∀ l ∈ c, mayB l = true) → 0 ≤ m → m ≤ 2147483648000000000 → 0 ≤ c.foldl (fun m l => min m (atI l t)) m ∧ c.foldl (fun m l => min m (atI l t)) m ≤ 2147483648000000000
  | [], m, _, h0, h1 => ⟨h0, h1⟩
  | l :: c, m, h, h0, h1 => by
    have hf := at_fits (h l (by simp)) ht0 ht
    exact fold_range t ht0 ht c (min m (atI l t)) (fun x hx => h x (List.mem_cons_of_mem _ hx)) (by omega) (by omega)
set_option maxRecDepth 100000 in
set_option maxHeartbeats 1000000 in
theorem at_yes (v : Value) (c : List Ln) (t : Int) (w : World) (h : SAt Ln.cells 2 w v c) (hq : okC c = true) (hi : inB t 2147483647 = true) :
    Calls Try.prog 22 #[v, .int .i64 t] w fun e w' => e = .returned (.tuple #[.int .i64 (atC c t), .int .i64 0]) ∧ Below w.heap.size w w' := by
  have hc := check_any v c w h
  have hw := fun w => within_any t 2147483647 w
  rw [if_pos hq] at hc
  simp only [hi] at hw
  obtain ⟨h1, h2, h3, h4⟩ := okC_may hq
  have hti : 0 ≤ t ∧ t ≤ 2147483647 := by simpa [inB] using hi
  obtain ⟨ht0, ht1⟩ := hti
  match c, h, hc, h1, h2, h3 with
  | x :: r, h, hc, _, h2, h3 =>
    have hrl : r.length ≤ 31 := by simp at h3; omega
    obtain ⟨v', hrun, hsat⟩ := run_slice_from elCv h 1 (by simp)
    simp only [List.drop_succ_cons, List.drop_zero] at hsat
    rw [show ((1 : Nat) : Int) = 1 from rfl] at hrun
    have H := Lib.hid h
    have HS := Lib.hid hsat
    have HM := Lib.hid h2
    rcases h with ⟨-, hh⟩ | ⟨b, o, cc, rfl, hcc, hcm, hrow⟩
    · cases hh
    · obtain ⟨x0, x1⟩ := LnAt.ofRow hrow (show (x :: r)[0]? = some x from rfl)
      simp only [Nat.zero_mul, Nat.add_zero] at x0 x1
      obtain ⟨A5, c5, rfl⟩ := hsat.slice
      have hax := fun w => at1_any x t w (h2 x (by simp)) ht0 ht1
      have hl0 : 0 < (x :: r).length := by simp
      have hl1 : (0 : Int) < ((x :: r).length : Int) := by simp only [List.length_cons]; omega
      have X0 := Lib.hid x0
      have X1 := Lib.hid x1
      clear hrow hsat h2 x0 x1
      unfold atC
      generalize (x :: r).length = N at *
      go_enter Try.func22, Try.ntmps22
      go_wp2_with (first | (go_at_call 16; refine hc.mono ?_; rintro e w1 ⟨rfl, hb⟩; have x0 := bl_cell hb X0.out; have x1 := bl_cell hb X1.out; have HB := Lib.hid hb; clear hb hc) | (go_at_call 38; refine (hw _).mono ?_; rintro e w' ⟨rfl, rfl⟩) | (go_at_call 39; refine (hax _).mono ?_; rintro e w2 ⟨rfl, hb2⟩; have HB2 := Lib.hid hb2; clear hb2))
      go_loopg [6, 8, 25] (r.length + 1) (fun gg s6 s8 s25 wr => ∃ k : Nat, k ≤ r.length ∧ r.length - k ≤ gg ∧ s25 = .int .i64 k ∧ s6 = .int .i64 ((r.take k).foldl (fun m l => min m (atI l t)) (atI x t)) ∧ Aside (Below w.heap.size w wr))
      case atStart => exact ⟨0, by omega, by omega, rfl, rfl, bl_then HB.out HB2.out⟩
      case round =>
        obtain ⟨k, hk, hgg, rfl, rfl, HBW⟩ := hrel
        by_cases hlt : k < r.length
        · have hltz : (k : Int) < (r.length : Int) := by omega
          have hgk : r[k]? = some r[k] := List.getElem?_eq_getElem hlt
          generalize r[k] = l at hgk
          rcases HS.out.below HBW.out with ⟨e1, e2⟩ | ⟨b2, o2, c2, e1, _, _, hrow2⟩
          · subst e2; simp at hlt
          · simp only [Value.slice.injEq] at e1
            obtain ⟨rfl, -, rfl⟩ := e1
            obtain ⟨c0, c1⟩ := LnAt.ofRow hrow2 hgk
            have hal := fun w => at1_any l t w (HM.out l (List.mem_cons_of_mem _ (List.mem_of_getElem? hgk))) ht0 ht1
            have hfs := foldl_step r t (atI x t) hgk
            generalize (r.take k).foldl (fun m l => min m (atI l t)) (atI x t) = m at *
            have HFS := Lib.hid hfs
            clear hrow2 hgk hfs
            go_wp2_with (go_at_call 39; refine (hal _).mono ?_; rintro e w4 ⟨rfl, hb4⟩; have HB4 := Lib.hid hb4; clear hb4)
            go_roundg (r.length - (k + 1))
            case measure => omega
            case rel => exact ⟨k + 1, by omega, by omega, by go_num, by rw [HFS.out], bl_then HBW.out (bl_then (bl_alloc (Below.refl _ _) _) HB4.out)⟩
        · obtain rfl : k = r.length := by omega
          have hltz : ¬ ((r.length : Nat) : Int) < ((r.length : Nat) : Int) := by omega
          rw [List.take_length]
          generalize hm : r.foldl (fun m l => min m (atI l t)) (atI x t) = m
          have HMM := Lib.hid hm
          clear hm
          go_wp2_with fail
          go_ret2
          exact ⟨by rw [HMM.out]; rfl, HBW.out⟩
set_option maxHeartbeats 1000000 in
theorem slowest_no (v : Value) (c : List Ln) (w : World) (h : SAt Ln.cells 2 w v c) (hq : okC c = false) :
    Calls Try.prog 23 #[v] w fun e w' => e = .returned (.tuple #[.int .i64 0, .int .i64 2]) ∧ Below w.heap.size w w' := by
  have hc := check_any v c w h
  rw [if_neg (by simp [hq])] at hc
  obtain ⟨A, cc, rfl⟩ := h.slice
  clear h
  go_enter Try.func23, Try.ntmps23
  go_wp2_with (go_at_call 16; refine hc.mono ?_; rintro e w1 ⟨rfl, hb⟩)
  go_ret2
  exact ⟨rfl, hb⟩
set_option maxHeartbeats 1000000 in
theorem slowest_yes (v : Value) (c : List Ln) (l : Ln) (w : World) (h : SAt Ln.cells 2 w v c) (hq : okC c = true) (hl : c[c.length - 1]? = some l) :
    Calls Try.prog 23 #[v] w fun e w' => e = .returned (.tuple #[.int .i64 l.r, .int .i64 0]) ∧ Below w.heap.size w w' := by
  have hc := check_any v c w h
  rw [if_pos hq] at hc
  have hlt : c.length - 1 < c.length := (List.getElem?_eq_some_iff.1 hl).1
  have h32 := (okC_may hq).2.2.1
  rcases h with ⟨-, rfl⟩ | ⟨b, o, cc, rfl, hcc, hcm, hrow⟩
  · simp at hlt
  · obtain ⟨x0, x1⟩ := LnAt.ofRow hrow hl
    have X1 := Lib.hid x1
    obtain ⟨m, hm⟩ : ∃ m, m = c.length - 1 := ⟨_, rfl⟩
    rw [← hm] at hlt X1
    have hn1 : (c.length : Int) - 1 = (m : Int) := by omega
    have hn2 : (m : Int) < (c.length : Int) := by omega
    have hn3 : IntKind.i64.wrap (m : Int) = (m : Int) := by rw [IntWalk.i64_in _ (by omega)]
    have hn4 : (0 : Int) ≤ (m : Int) := by omega
    clear hrow hl x0 x1 hq hm
    generalize c.length = N at *
    go_enter Try.func23, Try.ntmps23
    go_wp2_with (go_at_call 16; refine hc.mono ?_; rintro e w1 ⟨rfl, hb⟩; have x1 := bl_cell hb X1.out)
    go_ret2
    exact ⟨rfl, hb⟩
end Go.Proofs.Ytmkjiflliejjjaa
