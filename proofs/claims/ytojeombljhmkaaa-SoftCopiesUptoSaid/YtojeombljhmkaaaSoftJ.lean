/- Soft: All, its iterator. -/
import Derived.Test.YtojeombljhmkaaaSoftI
import Derived.Test.YtojeombljhmkaaaSeq
namespace Go.Proofs.Ytojeombljhmkaaa
open Go.RowKit Go.Shelf
set_option linter.unusedVariables false
set_option linter.unusedSimpArgs false
attribute [local go_sem] Oper.semAt_some
theorem below_grown {w W : World} (h : Below w.heap.size w W) : w.grownBy W none := ⟨h.os, h.tape, h.output, h.size, fun k hk _ => h.block k hk⟩
theorem take_snoc' {α : Type} {ys : List α} {k : Nat} {y : α} (h : ys[k]? = some y) : ys.take k ++ [y] = ys.take (k + 1) := by
  obtain ⟨hk, rfl⟩ := List.getElem?_eq_some_iff.1 h
  rw [List.take_succ_eq_append_getElem hk]
theorem th_row {w : World} {b o : Nat} {xs : List Th} (h : RowAt Th.cells 4 w b o xs) {j : Nat} {x : Th} (hj : xs[j]? = some x) :
    w.cell? ⟨b, o + j * 4, none⟩ = some (.string x.name) ∧ w.cell? ⟨b, o + j * 4 + 1, none⟩ = some (.int .i64 x.period) ∧ w.cell? ⟨b, o + j * 4 + 2, none⟩ = some (.int .i64 x.next) ∧ w.cell? ⟨b, o + j * 4 + 3, none⟩ = some (.int .i64 x.forgot) :=
  ⟨h j x hj 0 _ rfl, h j x hj 1 _ rfl, h j x hj 2 _ rfl, h j x hj 3 _ rfl⟩
set_option maxRecDepth 100000 in
set_option maxHeartbeats 1000000 in
theorem all_it (Kp : World → World → Prop) (hKr : ∀ A, Kp A A) (hKt : ∀ {A B C}, Kp A B → Kp B C → Kp A C) (hKa : ∀ A o, Kp A (A.alloc o)) (n : Nat) (hn : 1 ≤ n) (l bs : Nat) (v : Value) (ls : List Th) (J Jx : List Th → World → Prop) (W : World) (hJ : AbidesFrom W.heap.size J)
    (hY : ∀ pre x W1, J pre W1 → pre.length < ls.length → YieldAt Fence.wide (n - 1) Try.prog l #[x.val] W1 fun e W' =>
      (e = .returned (.bool true) ∧ J (pre ++ [x]) W' ∧ Kp W1 W') ∨ (e = .returned (.bool false) ∧ Jx (pre ++ [x]) W'))
    (hbs : W.cell? ⟨bs, 0, none⟩ = some v) (hS : ∀ X, Kp W X → SAt Th.cells 4 X v ls) (h0 : J [] W) :
    CallsIn Fence.wide n Try.prog 45 #[.func (.yield l) #[] #[], .pointer (some ⟨bs, 0, none⟩)] W fun e W' => (∃ v, e = .returned v) ∧ ((∃ ys, ys = ls ∧ J ys W') ∨ (∃ pre, pre <+: ls ∧ Jx pre W')) := by
  refine callsIn_wide.2 ?_
  have hs0 := hS W (hKr W)
  have hlm := hs0.len
  unfold maxLen at hlm
  obtain ⟨A, c, rfl⟩ := hs0.slice
  have HS := Lib.hid hS
  have HJA := Lib.hid hJ
  have HY := Lib.hid hY
  have HJ0 := Lib.hid h0
  have HKA := Lib.hid hKa
  have HKT : Hid (∀ A B C, Kp A B → Kp B C → Kp A C) := Lib.hid fun A B C => hKt
  have HK0 := Lib.hid (hKr W)
  clear hJ hY h0 hS hs0 hKr hKt hKa
  obtain ⟨R, hR⟩ : ∃ R : Ending → World → Prop, R = fun e W' => (∃ v, e = .returned v) ∧ ((∃ ys, ys = ls ∧ J ys W') ∨ (∃ pre, pre <+: ls ∧ Jx pre W')) := ⟨_, rfl⟩
  rw [← hR]
  have HR := Lib.hid hR
  clear hR
  go_enter Try.func45, Try.ntmps45
  go_wp2_with fail
  refine wp_scope_straight ?_
  go_wp2_with fail
  refine wp_label ?_
  go_wp2_with fail
  go_loopg [7] (ls.length + 1) (fun gg s7 wr => ∃ k : Nat, k ≤ ls.length ∧ ls.length - k ≤ gg ∧ s7 = .int .i64 k ∧ Aside (J (ls.take k) wr) ∧ Aside (Kp W wr))
  case atStart => exact ⟨0, by omega, by omega, rfl, HJ0.out, HK0.out⟩
  case round =>
    obtain ⟨k, hk, hgg, rfl, HJ, HB⟩ := hrel
    by_cases hlt : k < ls.length
    · have hltz : (k : Int) < (ls.length : Int) := by omega
      have hgk : ls[k]? = some ls[k] := List.getElem?_eq_getElem hlt
      generalize ls[k] = x at hgk
      rcases HS.out wr HB.out with ⟨h1, h2⟩ | ⟨b, o, c', h1, _, _, hrow⟩
      · subst h2; simp at hlt
      · simp only [Value.slice.injEq] at h1
        obtain ⟨rfl, -, rfl⟩ := h1
        obtain ⟨c0, c1, c2, c3⟩ := th_row hrow hgk
        have HK := Lib.hid hgk
        have hJ1 : J (ls.take k) (wr.alloc (.cells #[.string x.name, .int .i64 x.period, .int .i64 x.next, .int .i64 x.forgot] 35)) := HJA.out _ _ _ none HJ.out (World.grownBy_alloc _ _ none) (by rintro r ⟨⟩)
        have hB1 : Kp W (wr.alloc (.cells #[.string x.name, .int .i64 x.period, .int .i64 x.next, .int .i64 x.forgot] 35)) := HKT.out _ _ _ HB.out (HKA.out _ _)
        obtain ⟨fn, tmps, assign, body, hy, hR⟩ := HY.out (ls.take k) x _ hJ1 (by simp; omega)
        have HB1 := Lib.hid hB1
        clear hrow hgk hJ1 hB1
        go_upto_region 3 with fail
        refine (wpIn_wide (n := n)).1 ?_
        gi_wp2
        refine hR.mono ?_
        rintro e W3 (⟨rfl, hJ3, hk3⟩ | ⟨rfl, hJx3⟩)
        · have HJ3 : Hid (J (ls.take (k + 1)) W3) := Lib.hid (by rw [← take_snoc' HK.out]; exact hJ3)
          clear hJ3 hy hR
          gi_wp2
          go_wp2_with fail
          go_roundg (ls.length - (k + 1))
          case measure => omega
          case rel => exact ⟨k + 1, by omega, by omega, by go_num, HJ3.out, HKT.out _ _ _ HB1.out hk3⟩
        · have HJ3 : Hid (Jx (ls.take (k + 1)) W3) := Lib.hid (by rw [← take_snoc' HK.out]; exact hJx3)
          clear hJx3 hy hR
          gi_wp2
          go_wp2_with fail
          go_end0
          rw [HR.out]
          exact ⟨⟨_, rfl⟩, .inr ⟨_, List.take_prefix _ _, HJ3.out⟩⟩
    · obtain rfl : k = ls.length := by omega
      have hltz : ¬ ((ls.length : Nat) : Int) < ((ls.length : Nat) : Int) := by omega
      go_wp2_with fail
      go_end0
      rw [HR.out]
      exact ⟨⟨_, rfl⟩, .inl ⟨_, rfl, by simpa using HJ.out⟩⟩
theorem own_sat {w : World} {base : Nat} {v : Value} {L : List Th} (h : w.ownsRow base 35 4 v L.length (L.flatMap Th.cells)) : SAt Th.cells 4 w v L := SAt.ofOwn (fun _ => rfl) rfl h
/-- What All tells: a func that goes over things that lie in blocks of its own. -/
def AllAt (w w' : World) (bs : Nat) (v : Value) (L : List Th) : Prop := w.heap.size ≤ bs ∧ w'.cell? ⟨bs, 0, none⟩ = some v ∧ w'.ownsRow w.heap.size 35 4 v L.length (L.flatMap Th.cells) ∧ Below w.heap.size w w'
set_option maxHeartbeats 400000 in
theorem allf_none (v : Value) (w : World) (h : NoTab w v) :
    Calls Try.prog 23 #[v] w fun e w' => ∃ bs u, e = .returned (.func (.func 45) #[] #[.pointer (some ⟨bs, 0, none⟩)]) ∧ AllAt w w' bs u [] := by
  have hn := all_none v w h
  clear h
  go_enter Try.func23, Try.ntmps23
  go_wp2_with (go_at_call 44; refine hn.mono ?_; rintro e w' ⟨rfl, rfl⟩)
  go_ret
  exact ⟨_, _, rfl, Nat.le_refl _, by go_simp, World.ownsRow_nil _ _ _ _, by repeat (first | exact Below.refl _ _ | refine bl_alloc ?_ _ | refine bl_set ?_ (by simp <;> omega) _)⟩
set_option maxHeartbeats 400000 in
theorem allf_any (p r : Nat) (now : Int) (es : List (Nat × Th)) (L : List Th) (w : World) (h : TAt w p r now es) (hL : IsL L es) (hlen : es.length ≤ 1000000) :
    Calls Try.prog 23 #[.pointer (some ⟨p, 0, none⟩)] w fun e w' => ∃ bs u, e = .returned (.func (.func 45) #[] #[.pointer (some ⟨bs, 0, none⟩)]) ∧ AllAt w w' bs u L := by
  have hn := all_any p r now es L w h hL hlen
  clear h hL
  go_enter Try.func23, Try.ntmps23
  go_wp2_with (go_at_call 44; refine hn.mono ?_; rintro e w' ⟨⟨v, rfl, hown⟩, hb⟩; obtain ⟨A, c, rfl⟩ := own_form hown; have HO := Lib.hid hown; have HB := Lib.hid hb; clear hown hb)
  go_ret
  refine ⟨_, _, rfl, HB.out.size, by go_simp, own_lies HO.out ?_, ?_⟩
  · repeat (first | exact Below.refl _ _ | refine bl_alloc ?_ _ | refine bl_set ?_ (by simp <;> omega) _)
  · repeat (first | exact HB.out | refine bl_alloc ?_ _ | refine bl_set ?_ (by simp <;> omega) _)
end Go.Proofs.Ytojeombljhmkaaa
