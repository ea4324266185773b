/- Curve: slices.Values over lines. -/
import Derived.Test.YtmkjiflliejjjaaCurA
import Derived.Test.YtmkjiflliejjjaaSeq
import Derived.Test.YtmkjiflliejjjaaApp
namespace Go.Proofs.Ytmkjiflliejjjaa
open Go.RowKit Go.Shelf
set_option linter.unusedVariables false
set_option linter.unusedSimpArgs false
attribute [local go_sem] Oper.semAt_some
theorem below_grown {w W : World} (h : Below w.heap.size w W) : w.grownBy W none := ⟨h.os, h.tape, h.output, h.size, fun k hk _ => h.block k hk⟩
theorem take_snoc' {α : Type} {ys : List α} {k : Nat} {y : α} (h : ys[k]? = some y) : ys.take k ++ [y] = ys.take (k + 1) := by
  obtain ⟨hk, rfl⟩ := List.getElem?_eq_some_iff.1 h
  rw [List.take_succ_eq_append_getElem hk]
set_option maxRecDepth 100000 in
set_option maxHeartbeats 1000000 in
/-- slices.Values's iterator over lines. -/
theorem values1_ln (n : Nat) (hn : 1 ≤ n) (l bs n₀ : Nat) (v : Value) (ls : List Ln) (J Jx : List Ln → World → Prop) (W : World) (hJ : AbidesFrom W.heap.size J) (hn0 : n₀ ≤ W.heap.size) (hbs0 : bs < n₀)
    (hY : ∀ pre x W1, J pre W1 → pre.length < ls.length → YieldAt Fence.wide (n - 1) Try.prog l #[x.val] W1 fun e W' =>
      (e = .returned (.bool true) ∧ J (pre ++ [x]) W' ∧ Below n₀ W1 W') ∨ (e = .returned (.bool false) ∧ Jx (pre ++ [x]) W'))
    (hbs : W.cell? ⟨bs, 0, none⟩ = some v) (hS : ∀ X, Below n₀ W X → SAt Ln.cells 2 X v ls) (h0 : J [] W) :
    CallsIn Fence.wide n Try.prog 72 #[.func (.yield l) #[] #[], .pointer (some ⟨bs, 0, none⟩)] W fun e W' => (∃ v, e = .returned v) ∧ ((∃ ys, ys = ls ∧ J ys W') ∨ (∃ pre, pre <+: ls ∧ Jx pre W')) := by
  refine callsIn_wide.2 ?_
  have hs0 := hS W (Below.refl _ _)
  have hlm := hs0.len
  unfold maxLen at hlm
  obtain ⟨A, c, rfl⟩ := hs0.slice
  have HS := Lib.hid hS
  have HJA := Lib.hid hJ
  have HY := Lib.hid hY
  have HJ0 := Lib.hid h0
  clear hJ hY h0 hS hs0
  obtain ⟨R, hR⟩ : ∃ R : Ending → World → Prop, R = fun e W' => (∃ v, e = .returned v) ∧ ((∃ ys, ys = ls ∧ J ys W') ∨ (∃ pre, pre <+: ls ∧ Jx pre W')) := ⟨_, rfl⟩
  rw [← hR]
  have HR := Lib.hid hR
  clear hR
  go_enter Try.func72, Try.ntmps72
  go_wp2_with fail
  go_loopg [7] (ls.length + 1) (fun gg s7 wr => ∃ k : Nat, k ≤ ls.length ∧ ls.length - k ≤ gg ∧ s7 = .int .i64 k ∧ Aside (J (ls.take k) wr) ∧ Aside (Below n₀ W wr))
  case atStart => exact ⟨0, by omega, by omega, rfl, HJ0.out, Below.refl _ _⟩
  case round =>
    obtain ⟨k, hk, hgg, rfl, HJ, HB⟩ := hrel
    by_cases hlt : k < ls.length
    · have hltz : (k : Int) < (ls.length : Int) := by omega
      have hgk : ls[k]? = some ls[k] := List.getElem?_eq_getElem hlt
      generalize ls[k] = x at hgk
      rcases HS.out wr HB.out with ⟨h1, h2⟩ | ⟨b, o, c', h1, _, _, hrow⟩
      · subst h2; simp at hlt
      · simp only [Value.slice.injEq] at h1
        obtain ⟨rfl, -, rfl⟩ := h1
        obtain ⟨c0, c1⟩ := LnAt.ofRow hrow hgk
        have HK := Lib.hid hgk
        have hsz : W.heap.size ≤ wr.heap.size := HB.out.size
        have hJ1 : J (ls.take k) (wr.alloc (.cells #[.int .i64 x.b, .int .i64 x.r] 39)) := HJA.out _ _ _ none HJ.out (World.grownBy_alloc _ _ none) (by rintro r ⟨⟩)
        have hB1 : Below n₀ W (wr.alloc (.cells #[.int .i64 x.b, .int .i64 x.r] 39)) := HB.out.alloc (by omega) _
        obtain ⟨fn, tmps, assign, body, hy, hR⟩ := HY.out (ls.take k) x _ hJ1 (by simp; omega)
        have HB1 := Lib.hid hB1
        clear hrow hgk hJ1 hB1
        unfold Ln.val at hy
        go_upto_region 3 with fail
        refine (wpIn_wide (n := n)).1 ?_
        gi_wp2
        refine hR.mono ?_
        rintro e W3 (⟨rfl, hJ3, hk3⟩ | ⟨rfl, hJx3⟩)
        · have HJ3 : Hid (J (ls.take (k + 1)) W3) := Lib.hid (by rw [← take_snoc' HK.out]; exact hJ3)
          clear hJ3 hy hR
          gi_wp2
          go_wp2_with fail
          go_roundg (ls.length - (k + 1))
          case measure => omega
          case rel => exact ⟨k + 1, by omega, by omega, by go_num, HJ3.out, HB1.out.trans hk3⟩
        · have HJ3 : Hid (Jx (ls.take (k + 1)) W3) := Lib.hid (by rw [← take_snoc' HK.out]; exact hJx3)
          clear hJx3 hy hR
          gi_wp2
          go_wp2_with fail
          refine bodyPost_ret (results_none rfl _ _ _) rfl ?_
          rw [HR.out]
          exact ⟨⟨_, rfl⟩, .inr ⟨_, List.take_prefix _ _, HJ3.out⟩⟩
    · obtain rfl : k = ls.length := by omega
      have hltz : ¬ ((ls.length : Nat) : Int) < ((ls.length : Nat) : Int) := by omega
      go_wp2_with fail
      go_end0
      rw [HR.out]
      exact ⟨⟨_, rfl⟩, .inl ⟨_, rfl, by simpa using HJ.out⟩⟩
set_option maxHeartbeats 400000 in
theorem values_ln (A : Option Addr) (k c : Nat) (w : World) :
    Calls Try.prog 62 #[.slice A k c] w fun e w' => e = .returned (.func (.func 72) #[] #[.pointer (some ⟨w.heap.size, 0, none⟩)]) ∧ w' = w.alloc (.cells #[.slice A k c] 22) := by
  go_enter Try.func62, Try.ntmps62
  go_wp2
  go_ret
  exact ⟨rfl, rfl⟩
theorem values_stops (n : Nat) (hn : 1 ≤ n) (bs : Nat) (v : Value) (ls : List Ln) (w : World) (hbs : w.cell? ⟨bs, 0, none⟩ = some v) (hS : SAt Ln.cells 2 w v ls) :
    SeqStopsK Fence.wide n Try.prog 72 #[.pointer (some ⟨bs, 0, none⟩)] (fun x : Ln => #[.agg (Ln.cells x).toArray]) (Below w.heap.size) (fun ys => ys = ls) (fun pre => pre <+: ls) ls.length w := fun l J Jx W hW hJ hJx hY h0 =>
  values1_ln n hn l bs w.heap.size v ls J Jx W hJ hW.size (World.block_lt_of_cell? w ⟨bs, 0, none⟩ hbs) hY (bl_cell hW hbs) (fun X hX => hS.below (hW.trans hX)) h0
end Go.Proofs.Ytmkjiflliejjjaa
