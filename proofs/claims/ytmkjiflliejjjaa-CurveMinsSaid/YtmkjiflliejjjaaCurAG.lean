/- Curve: the document's Sum. -/
import Derived.Test.YtmkjiflliejjjaaCurAF
namespace Go.Proofs.Ytmkjiflliejjjaa
open Go.RowKit Go.Shelf Go.Sort
set_option linter.unusedVariables false
set_option linter.unusedSimpArgs false
attribute [local go_sem] Oper.semAt_some
theorem sums_take {a b : List Ln} {i j : Nat} {x y : Ln} (hx : a[i]? = some x) (hy : b[j]? = some y) : sumsL (a.take i) b ++ (b.take (j + 1)).map (sumI x) = (sumsL (a.take i) b ++ (b.take j).map (sumI x)) ++ [sumI x y] := by
  rw [← take_snoc' hy, List.map_append, List.append_assoc]
  rfl
theorem sums_row {a b : List Ln} {i : Nat} {x : Ln} (hx : a[i]? = some x) : sumsL (a.take i) b ++ b.map (sumI x) = sumsL (a.take (i + 1)) b := by
  rw [← take_snoc' hx]
  simp [sumsL]
set_option maxRecDepth 100000 in
set_option maxHeartbeats 4000000 in
theorem rsum_any (va vb : Value) (a b : List Ln) (w : World) (ha : SAt Ln.cells 2 w va a) (hb : SAt Ln.cells 2 w vb b) (hma : ∀ l ∈ a, mayB l = true) (hmb : ∀ l ∈ b, mayB l = true) (hla : a.length ≤ 1000) (hlb : b.length ≤ 1000) :
    Calls Try.prog 30 #[va, vb] w fun e w' => (∃ v', e = .returned v' ∧ SAt Ln.cells 2 w' v' (sumsL a b)) ∧ Below w.heap.size w w' := by
  obtain ⟨A, c, rfl⟩ := ha.slice
  obtain ⟨B, d, rfl⟩ := hb.slice
  have HA := Lib.hid ha
  have HB2 := Lib.hid hb
  have HMM := Lib.hid (And.intro hma hmb)
  clear ha hb hma hmb
  obtain ⟨R, hR⟩ : ∃ R : Ending → World → Prop, R = fun e w' => (∃ v', e = .returned v' ∧ SAt Ln.cells 2 w' v' (sumsL a b)) ∧ Below w.heap.size w w' := ⟨_, rfl⟩
  rw [← hR]
  have HR := Lib.hid hR
  clear hR
  have HLEN : Hid (∀ i j, i ≤ a.length → j ≤ b.length → (sumsL (a.take i) b).length + j ≤ 1001000) := Lib.hid fun i j hi hj => by
    rw [sums_len, List.length_take, Nat.min_eq_left hi]
    have := Nat.mul_le_mul (Nat.le_trans hi hla) hlb
    omega
  go_enter Try.func30, Try.ntmps30
  go_wp2_with fail
  go_loopg [5, 6, 7] (a.length + 1) (fun gg s5 s6 s7 wr => ∃ i : Nat, i ≤ a.length ∧ a.length - i ≤ gg ∧ s6 = .int .i64 i ∧ Aside (wr.ownsRow w.heap.size 39 2 s5 (sumsL (a.take i) b).length ((sumsL (a.take i) b).flatMap Ln.cells)) ∧ Aside (Below w.heap.size w wr))
  case atStart => exact ⟨0, by omega, by omega, rfl, by simp [sumsL]; exact World.ownsRow_nil _ _ _ _, Below.refl _ _⟩
  case round =>
    obtain ⟨i, hi, hgg, rfl, HO, HB⟩ := hrel
    by_cases hlt : i < a.length
    · have hltz : (i : Int) < (a.length : Int) := by omega
      have hgx : a[i]? = some a[i] := List.getElem?_eq_getElem hlt
      generalize a[i] = x at hgx
      have HX := Lib.hid hgx
      have hmx := HMM.out.1 x (List.mem_of_getElem? hgx)
      have HMX := Lib.hid hmx
      have HO1 := Lib.hid HO.out
      have HB1 := Lib.hid HB.out
      clear hgx hmx HO HB
      go_wp2_with fail
      obtain ⟨wa, hwa⟩ : ∃ wa, wa = wr := ⟨_, rfl⟩
      subst hwa
      go_loopg [5, 7] (b.length + 1) (fun gg s5 s7 wr => ∃ j : Nat, j ≤ b.length ∧ b.length - j ≤ gg ∧ s7 = .int .i64 j ∧ Aside (wr.ownsRow w.heap.size 39 2 s5 (sumsL (a.take i) b ++ (b.take j).map (sumI x)).length ((sumsL (a.take i) b ++ (b.take j).map (sumI x)).flatMap Ln.cells)) ∧ Aside (Below w.heap.size w wr))
      case atStart => exact ⟨0, by omega, by omega, rfl, (show World.ownsRow _ _ _ _ _ _ _ from by simpa using HO1.out), HB1.out⟩
      case round =>
        obtain ⟨j, hj, hgg2, rfl, HO, HB⟩ := hrel
        by_cases hlt2 : j < b.length
        · have hltz2 : (j : Int) < (b.length : Int) := by omega
          have hgy : b[j]? = some b[j] := List.getElem?_eq_getElem hlt2
          generalize b[j] = y at hgy
          rcases HA.out.below HB.out with ⟨e1, e2⟩ | ⟨b1, o1, c1, e1, _, _, hrow⟩
          · subst e2; simp at hlt
          rcases HB2.out.below HB.out with ⟨e3, e4⟩ | ⟨b2, o2, c2, e3, _, _, hrow2⟩
          · subst e4; simp at hlt2
          simp only [Value.slice.injEq] at e1 e3
          obtain ⟨rfl, -, rfl⟩ := e1
          obtain ⟨rfl, -, rfl⟩ := e3
          obtain ⟨x0, x1⟩ := LnAt.ofRow hrow HX.out
          obtain ⟨y0, y1⟩ := LnAt.ofRow hrow2 hgy
          have hmy := HMM.out.2 y (List.mem_of_getElem? hgy)
          have hmx := HMX.out
          simp only [mayB, inB, Bool.and_eq_true, decide_eq_true_eq] at hmx hmy
          have s1 : IntKind.i64.wrap (x.b + y.b) = x.b + y.b := by rw [IntWalk.i64_in _ (by omega)]
          have s2 : IntKind.i64.wrap (x.r + y.r) = x.r + y.r := by rw [IntWalk.i64_in _ (by omega)]
          have HY := Lib.hid hgy
          have hst := sums_take HX.out hgy
          have hlen := HLEN.out i (j + 1) hi (by omega)
          obtain ⟨L, hL⟩ : ∃ L, L = sumsL (a.take i) b ++ (b.take j).map (sumI x) := ⟨_, rfl⟩
          have hLl : L.length + 1 ≤ 1001000 := by rw [hL, List.length_append, List.length_map, List.length_take]; omega
          have HO2 := HO.out
          rw [← hL] at HO2 hst
          obtain ⟨A5, c5, rfl⟩ := own_form HO2
          have HOO := Lib.hid HO2
          have HST := Lib.hid hst
          have HBB := Lib.hid HB.out
          generalize hN : L.length = N at *
          have HN := Lib.hid hN
          have hbs1 : b1 < wr.heap.size := World.block_lt_of_cell? wr ⟨b1, _, none⟩ x0
          have hbs2 : b2 < wr.heap.size := World.block_lt_of_cell? wr ⟨b2, _, none⟩ y0
          have HL1 : Hid (L.length + [sumI x y].length ≤ maxLen ∧ (L.length + [sumI x y].length) * 16 ≤ 140737488355328) := Lib.hid (by rw [hN]; simp only [maxLen, List.length_cons, List.length_nil]; omega)
          have HBW : Hid (w.heap.size ≤ wr.heap.size) := Lib.hid HB.out.size
          obtain ⟨w0, hw0⟩ : ∃ w0, w0 = wr := ⟨_, rfl⟩
          subst hw0
          clear hrow hrow2 hgy hst hL HO2 hN hlen hmx hmy HO HB hLl
          go_wp2_with fail
          go_region_law (refine step_app rfl (.tmp 20) (.tmp 44) rfl elLs (fun _ => rfl) ln_one (base := w.heap.size) (v := .slice A5 N c5) (src := .slice (some ⟨w0.heap.size, 0, none⟩) 1 1) (xs := L) (ys := [sumI x y]) (by go_simp) (by go_simp) HN.out.symm ?_ ?_ ?_ HL1.out.1 HL1.out.2 ?_; (· exact own_lies HOO.out (by repeat (first | exact Below.refl _ _ | refine bl_alloc ?_ _ | refine bl_drew ?_ | refine bl_drewN ?_ _))); (· exact sat_oneL _ (sumI x y) rfl); (· have := HBW.out; simp <;> omega); intro v9 w9 hown9 hb9; have hb9 : Below w.heap.size w w9 := Below.trans (by repeat (first | exact HBB.out | refine bl_alloc ?_ _ | refine bl_drew ?_ | refine bl_drewN ?_ _)) hb9)
          all_goals
            have HB9 := Lib.hid (And.intro hown9 hb9)
            clear hown9 hb9
            go_wp2_with fail
            go_roundg (b.length - (j + 1))
            case measure => omega
            case rel => exact ⟨j + 1, by omega, by omega, by go_num, by rw [HST.out]; exact HB9.out.1, HB9.out.2⟩
        · obtain rfl : j = b.length := by omega
          have hltz2 : ¬ ((b.length : Nat) : Int) < ((b.length : Nat) : Int) := by omega
          have ho := HO.out
          rw [List.take_length, sums_row HX.out] at ho
          have HO2 := Lib.hid ho
          have HBB := Lib.hid HB.out
          clear ho HO HB
          go_wp2_with fail
          go_roundg (a.length - (i + 1))
          case measure => omega
          case rel => exact ⟨i + 1, by omega, by omega, by go_num, HO2.out, HBB.out⟩
    · obtain rfl : i = a.length := by omega
      have hltz : ¬ ((a.length : Nat) : Int) < ((a.length : Nat) : Int) := by omega
      have ho := HO.out
      rw [List.take_length] at ho
      have hsat := SAt.ofOwn (enc := Ln.cells) (fun _ => rfl) rfl ho
      have HS := Lib.hid (And.intro hsat HB.out)
      obtain ⟨A5, c5, rfl⟩ := own_form ho
      clear ho hsat HO HB
      go_wp2_with fail
      rw [HR.out]
      exact ⟨⟨_, rfl, HS.out.1⟩, HS.out.2⟩
end Go.Proofs.Ytmkjiflliejjjaa
