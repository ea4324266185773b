/- Curve: lines, a range over a function. -/
import Derived.Test.YtmkjiflliejjjaaCurJ
namespace Go.Proofs.Ytmkjiflliejjjaa
open Go.RowKit Go.Shelf Go.Sort
set_option linter.unusedVariables false
set_option linter.unusedSimpArgs false
attribute [local go_sem] Oper.semAt_some
/-- A curve's value and its lines. -/
abbrev Cv := Value × List Ln
def Cv.cells (p : Cv) : List Value := [p.1]
/-- A slice of curves. -/
def CvsAt (w : World) (V : Value) (ps : List Cv) : Prop := SAt Cv.cells 1 w V ps ∧ ∀ p ∈ ps, SAt Ln.cells 2 w p.1 p.2
def allLines (ps : List Cv) : List Ln := ps.flatMap fun p => p.2
theorem all_snoc {ps : List Cv} {k : Nat} {p : Cv} (h : ps[k]? = some p) : allLines (ps.take (k + 1)) = allLines (ps.take k) ++ p.2 := by
  unfold allLines
  rw [← take_snoc' h, List.flatMap_append]
  simp
theorem all_prefix {ps : List Cv} {k : Nat} {p : Cv} (h : ps[k]? = some p) (j : Nat) : allLines (ps.take k) ++ p.2.take j <+: allLines ps := by
  have h1 : allLines ps = allLines (ps.take (k + 1)) ++ allLines (ps.drop (k + 1)) := by
    unfold allLines
    rw [← List.flatMap_append, List.take_append_drop]
  rw [h1, all_snoc h, List.append_assoc]
  refine (List.prefix_append_right_inj _).2 ?_
  exact (List.take_prefix j p.2).trans (List.prefix_append _ _)
set_option maxRecDepth 100000 in
set_option maxHeartbeats 2000000 in
theorem lines1_any (n : Nat) (hn : 1 ≤ n) (l bs : Nat) (V : Value) (ps : List Cv) (Kp : World → World → Prop) (hKt : ∀ {A B C : World}, Kp A B → Kp B C → Kp A C) (hKr : ∀ A, Kp A A) (hKa : ∀ (A : World) o, Kp A (A.alloc o))
    (J Jx : List Ln → World → Prop) (W : World) (hJ : AbidesFrom W.heap.size J)
    (hY : ∀ pre x W1, J pre W1 → pre.length < (allLines ps).length → YieldAt Fence.wide (n - 1) Try.prog l #[x.val] W1 fun e W' =>
      (e = .returned (.bool true) ∧ J (pre ++ [x]) W' ∧ Kp W1 W') ∨ (e = .returned (.bool false) ∧ Jx (pre ++ [x]) W'))
    (hbs : W.cell? ⟨bs, 0, none⟩ = some V) (hS : ∀ X, Kp W X → CvsAt X V ps) (h0 : J [] W) :
    CallsIn Fence.wide n Try.prog 53 #[.func (.yield l) #[] #[], .pointer (some ⟨bs, 0, none⟩)] W fun e W' => (∃ v, e = .returned v) ∧ ((∃ ys, ys = allLines ps ∧ J ys W') ∨ (∃ pre, pre <+: allLines ps ∧ Jx pre W')) := by
  refine callsIn_wide.2 ?_
  have hs0 := hS W (hKr _)
  have hlm := hs0.1.len
  unfold maxLen at hlm
  obtain ⟨A, c, rfl⟩ := hs0.1.slice
  have HS := Lib.hid hS
  have HJA := Lib.hid hJ
  have HY := Lib.hid hY
  have HJ0 := Lib.hid h0
  have HKT : Hid (∀ A B C : World, Kp A B → Kp B C → Kp A C) := Lib.hid fun A B C => hKt
  have HKR := Lib.hid hKr
  have HKA := Lib.hid hKa
  clear hJ hY h0 hS hs0 hKt hKr hKa
  obtain ⟨R, hR⟩ : ∃ R : Ending → World → Prop, R = fun e W' => (∃ v, e = .returned v) ∧ ((∃ ys, ys = allLines ps ∧ J ys W') ∨ (∃ pre, pre <+: allLines ps ∧ Jx pre W')) := ⟨_, rfl⟩
  rw [← hR]
  have HR := Lib.hid hR
  clear hR
  go_enter Try.func53, Try.ntmps53
  go_wp2_with fail
  go_loopg [4, 6, 9] (ps.length + 1) (fun gg s4 s6 s9 wr => ∃ k : Nat, k ≤ ps.length ∧ ps.length - k ≤ gg ∧ s9 = .int .i64 k ∧ Aside (J (allLines (ps.take k)) wr) ∧ Aside (Kp W wr))
  case atStart => exact ⟨0, by omega, by omega, rfl, HJ0.out, HKR.out _⟩
  case round =>
    obtain ⟨k, hk, hgg, rfl, HJ, HB⟩ := hrel
    by_cases hlt : k < ps.length
    · have hltz : (k : Int) < (ps.length : Int) := by omega
      have hgk : ps[k]? = some ps[k] := List.getElem?_eq_getElem hlt
      generalize ps[k] = p at hgk
      obtain ⟨hsa, hsb⟩ := HS.out wr HB.out
      have hsp := hsb p (List.mem_of_getElem? hgk)
      have hpl := hsp.len
      unfold maxLen at hpl
      obtain ⟨q, ls⟩ := p
      simp only at hsp hpl
      obtain ⟨Aq, cq, rfl⟩ := hsp.slice
      rcases hsa with ⟨h1, h2⟩ | ⟨b, o, c', h1, _, _, hrow⟩
      · subst h2; simp at hlt
      · simp only [Value.slice.injEq] at h1
        obtain ⟨rfl, -, rfl⟩ := h1
        have c0 : wr.cell? ⟨b, o + k, none⟩ = some (.slice Aq ls.length cq) := by
          have := hrow k _ hgk 0 _ rfl
          simpa using this
        have HK := Lib.hid hgk
        clear hrow hgk hsb hsp
        go_wp2_with fail
        obtain ⟨wa, hwa⟩ : ∃ wa, wa = wr := ⟨_, rfl⟩
        subst hwa
        go_loopg [6, 15] (ls.length + 1) (fun gg s6 s15 wr => ∃ j : Nat, j ≤ ls.length ∧ ls.length - j ≤ gg ∧ s15 = .int .i64 j ∧ Aside (J (allLines (ps.take k) ++ ls.take j) wr) ∧ Aside (Kp W wr))
        case atStart => exact ⟨0, by omega, by omega, rfl, by rw [List.take_zero, List.append_nil]; exact HJ.out, HB.out⟩
        case round =>
          obtain ⟨j, hj, hg2, rfl, HJ2, HB2⟩ := hrel
          by_cases hlj : j < ls.length
          · have hljz : (j : Int) < (ls.length : Int) := by omega
            have hgj : ls[j]? = some ls[j] := List.getElem?_eq_getElem hlj
            generalize ls[j] = x at hgj
            have hsx := (HS.out wr HB2.out).2 _ (List.mem_of_getElem? HK.out)
            rcases hsx with ⟨h1, h2⟩ | ⟨b2, o2, c2, h1, _, _, hrow2⟩
            · simp only at h2; subst h2; simp at hlj
            · simp only [Value.slice.injEq] at h1
              obtain ⟨rfl, -, rfl⟩ := h1
              obtain ⟨x0, x1⟩ := LnAt.ofRow hrow2 hgj
              have HGJ := Lib.hid hgj
              have hJ1 : J (allLines (ps.take k) ++ ls.take j) (wr.alloc (.cells #[.int .i64 x.b, .int .i64 x.r] 39)) := HJA.out _ _ _ none HJ2.out (World.grownBy_alloc _ _ none) (by rintro r ⟨⟩)
              have hlen2 : (allLines (ps.take k) ++ ls.take j).length < (allLines ps).length := by
                have := (all_prefix HK.out (j + 1)).length_le
                simp only [List.length_append, List.length_take] at this ⊢
                omega
              obtain ⟨fn, tmps, assign, body, hy, hR⟩ := HY.out _ x _ hJ1 hlen2
              have HKB : Hid (Kp W (wr.alloc (.cells #[.int .i64 x.b, .int .i64 x.r] 39))) := Lib.hid (HKT.out _ _ _ HB2.out (HKA.out _ _))
              clear hrow2 hgj hJ1 hlen2
              unfold Ln.val at hy
              go_upto_region 6 with fail
              refine (wpIn_wide (n := n)).1 ?_
              gi_wp2
              refine hR.mono ?_
              rintro e W3 (⟨rfl, hJ3, hk3⟩ | ⟨rfl, hJx3⟩)
              · have HJ3 : Hid (J (allLines (ps.take k) ++ ls.take (j + 1)) W3) := Lib.hid (by rw [← take_snoc' HGJ.out, ← List.append_assoc]; exact hJ3)
                have HK3 := Lib.hid (HKT.out _ _ _ HKB.out hk3)
                clear hJ3 hy hR hk3
                gi_wp2
                go_wp2_with fail
                go_roundg (ls.length - (j + 1))
                case measure => omega
                case rel => exact ⟨j + 1, by omega, by omega, by go_num, HJ3.out, HK3.out⟩
              · have HJ3 : Hid (Jx (allLines (ps.take k) ++ ls.take (j + 1)) W3) := Lib.hid (by rw [← take_snoc' HGJ.out, ← List.append_assoc]; exact hJx3)
                clear hJx3 hy hR
                gi_wp2
                go_wp2_with fail
                refine bodyPost_ret (results_none rfl _ _ _) rfl ?_
                rw [HR.out]
                exact ⟨⟨_, rfl⟩, .inr ⟨_, all_prefix HK.out _, HJ3.out⟩⟩
          · obtain rfl : j = ls.length := by omega
            have hljz : ¬ ((ls.length : Nat) : Int) < ((ls.length : Nat) : Int) := by omega
            go_wp2_with fail
            go_roundg (ps.length - (k + 1))
            case measure => omega
            case rel =>
              refine ⟨k + 1, by omega, by omega, by go_num, ?_, HB2.out⟩
              have := HJ2.out
              rw [List.take_length] at this
              rw [all_snoc HK.out]
              exact this
    · obtain rfl : k = ps.length := by omega
      have hltz : ¬ ((ps.length : Nat) : Int) < ((ps.length : Nat) : Int) := by omega
      go_wp2_with fail
      go_end0
      rw [HR.out]
      exact ⟨⟨_, rfl⟩, .inl ⟨_, rfl, by simpa using HJ.out⟩⟩
set_option maxHeartbeats 400000 in
theorem lines_any (A : Option Addr) (k c : Nat) (w : World) :
    Calls Try.prog 40 #[.slice A k c] w fun e w' => e = .returned (.func (.func 53) #[] #[.pointer (some ⟨w.heap.size, 0, none⟩)]) ∧ w' = w.alloc (.cells #[.slice A k c] 56) := by
  go_enter Try.func40, Try.ntmps40
  go_wp2
  go_ret
  exact ⟨rfl, rfl⟩
end Go.Proofs.Ytmkjiflliejjjaa
