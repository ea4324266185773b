/- Curve: within, may, each, needless. -/
import Derived.Test.YtmkjiflliejjjaaCurP
import Derived.Test.YtmkjiflliejjjaaSlices
import Derived.Deep.Light
import Derived.Deep.QuietTactic
import Derived.Shelf.GgClosure.Gives
import Derived.Shelf.SlicesQ.Load
import Derived.Laws.EntriesVeiled
namespace Go.Proofs.Ytmkjiflliejjjaa
open Go.RowKit Go.Shelf
set_option linter.unusedVariables false
set_option linter.unusedSimpArgs false
abbrev Ln.val (l : Ln) : Value := .agg #[.int .i64 l.b, .int .i64 l.r]
def Ln.cells (l : Ln) : List Value := [.int .i64 l.b, .int .i64 l.r]
def Ln0 : Ln := ⟨0, 0⟩
instance : Inhabited Ln := ⟨Ln0⟩
def LnAt (w : World) (b o : Nat) (l : Ln) : Prop := w.cell? ⟨b, o, none⟩ = some (.int .i64 l.b) ∧ w.cell? ⟨b, o + 1, none⟩ = some (.int .i64 l.r)
theorem LnAt.below {w W : World} {b o : Nat} {l : Ln} (h : LnAt w b o l) (hb : Below w.heap.size w W) : LnAt W b o l := by
  obtain ⟨h0, h1⟩ := h
  exact ⟨bl_cell hb h0, bl_cell hb h1⟩
theorem LnAt.ofRow {w : World} {b o : Nat} {xs : List Ln} (h : RowAt Ln.cells 2 w b o xs) {j : Nat} {x : Ln} (hj : xs[j]? = some x) : LnAt w b (o + j * 2) x :=
  ⟨h j x hj 0 _ rfl, h j x hj 1 _ rfl⟩

set_option maxHeartbeats 400000 in
/-- slices.IndexFunc at structs: the first place at which it is so, or -1. -/
theorem idx_ln (g : Nat) (lb : Array Value) (eg : ∀ args w, (callFunc g args).run Try.prog w = .ok (.enter g args) w) (b off n c : Nat) (vs : Nat → Ln) (p : Nat → Bool) (w : World) (hbig : n ≤ 9223372036854775807)
    (hc : ∀ j, j < n → LnAt w b (off + j * 2) (vs j)) (hp : ∀ W j, j < n → Below w.heap.size w W → Calls Try.prog g (#[(vs j).val] ++ lb) W fun e w' => e = .returned (.bool (p j)) ∧ Below w.heap.size w w') :
    Calls Try.prog 60 #[.slice (some ⟨b, off, none⟩) n c, .func (.func g) #[] lb] w fun e w' => ∃ r : Int, e = .returned (.int .i64 r) ∧ IdxIs p n r ∧ Below w.heap.size w w' := by
  have hcW : ∀ (W : World), Below w.heap.size w W → ∀ j, j < n → LnAt W b (off + j * 2) (vs j) := fun W hW j hj => (hc j hj).below hW
  clear hc
  go_enter Try.func60, Try.ntmps60
  go_wp2
  go_loopg [5, 8] n (fun gg _ s8 wr => ∃ kk : Nat, kk ≤ n ∧ n - kk ≤ gg ∧ s8 = .int .i64 kk ∧ Aside (Below w.heap.size w wr) ∧ Aside (∀ j, j < kk → p j = false))
  case atStart => exact ⟨0, Nat.zero_le _, by omega, rfl, Below.refl _ w, fun j hj => absurd hj (Nat.not_lt_zero _)⟩
  case round =>
    obtain ⟨kk, hkk, hg, rfl, BW, A⟩ := hrel
    by_cases hlt : kk < n
    · have hltz : (kk : Int) < (n : Int) := by omega
      have l2 := hcW wr BW.out kk hlt
      have hcall := hp wr kk hlt BW.out
      clear hcW hp
      generalize vs kk = y at l2 hcall
      simp only [Ln.val] at hcall
      obtain ⟨c0, c1⟩ := l2
      cases hq : p kk with
      | true =>
        rw [hq] at hcall
        have HQ := Lib.hid hq
        clear hq
        go_wp2_with (go_at_fn g; refine hcall.mono ?_; rintro e w' ⟨rfl, hb'⟩)
        go_ret
        exact ⟨_, rfl, Or.inr ⟨kk, hlt, rfl, HQ.out, A.out⟩, hb'⟩
      | false =>
        rw [hq] at hcall
        have HQ := Lib.hid hq
        clear hq
        go_wp2_with (go_at_fn g; refine hcall.mono ?_; rintro e w' ⟨rfl, hb'⟩)
        go_roundg (n - (kk + 1))
        case measure => omega
        case rel =>
          refine ⟨kk + 1, by omega, by omega, by go_num, hb', (show Aside _ from fun j hj => ?_)⟩
          by_cases e : j = kk
          · subst e
            exact HQ.out
          · exact A.out j (by omega)
    · have hltz : ¬ (kk : Int) < (n : Int) := by omega
      have : kk = n := by omega
      subst this
      go_wp2
      go_ret
      exact ⟨_, rfl, Or.inl ⟨rfl, A.out⟩, BW.out⟩

set_option maxHeartbeats 400000 in
theorem idxnil_ln (fv : Value) (w : World) :
    Calls Try.prog 60 #[.slice none 0 0, fv] w fun e w' => e = .returned (.int .i64 (-1)) ∧ w = w' := by
  go_enter Try.func60, Try.ntmps60
  go_wp2
  go_loopg [5, 8] 0 (fun _ _ s8 wr => s8 = .int .i64 0 ∧ w = wr)
  case atStart => exact ⟨rfl, rfl⟩
  case round =>
    obtain ⟨rfl, rfl⟩ := hrel
    go_wp2
    go_ret
    exact ⟨rfl, rfl⟩


set_option maxHeartbeats 400000 in
/-- slices.ContainsFunc at structs. -/
theorem has_ln (g : Nat) (lb : Array Value) (eg : ∀ args w, (callFunc g args).run Try.prog w = .ok (.enter g args) w) (b off n c : Nat) (vs : Nat → Ln) (p : Nat → Bool) (w : World) (hbig : n ≤ 9223372036854775807)
    (hc : ∀ j, j < n → LnAt w b (off + j * 2) (vs j)) (hp : ∀ W j, j < n → Below w.heap.size w W → Calls Try.prog g (#[(vs j).val] ++ lb) W fun e w' => e = .returned (.bool (p j)) ∧ Below w.heap.size w w') :
    Calls Try.prog 45 #[.slice (some ⟨b, off, none⟩) n c, .func (.func g) #[] lb] w fun e w' => e = .returned (.bool ((List.range n).any p)) ∧ Below w.heap.size w w' := by
  have H := idx_ln g lb eg b off n c vs p w hbig hc hp
  clear hc hp
  go_enter Try.func45, Try.ntmps45
  go_wp2_with (go_at_call 60; refine H.mono ?_; rintro e w' ⟨r, rfl, hr, hb'⟩; have HR := Lib.hid hr; clear hr)
  go_ret
  exact ⟨by rw [← HR.out.any]; rfl, hb'⟩

theorem any_range_ln (xs : List Ln) (d : Ln) (p : Ln → Bool) : (List.range xs.length).any (fun j => p (xs.getD j d)) = xs.any p := by
  rw [Bool.eq_iff_iff, List.any_eq_true, List.any_eq_true]
  constructor
  · rintro ⟨j, hj, h⟩
    have hj := List.mem_range.1 hj
    exact ⟨xs[j], List.getElem_mem _, by simpa [List.getD, hj] using h⟩
  · rintro ⟨x, hx, h⟩
    obtain ⟨j, hj, rfl⟩ := List.mem_iff_getElem.1 hx
    exact ⟨j, List.mem_range.2 hj, by simpa [List.getD, hj] using h⟩

set_option maxHeartbeats 400000 in
/-- slices.ContainsFunc over a slice of structs, nil too. -/
theorem any_ln (g : Nat) (lb : Array Value) (eg : ∀ args w, (callFunc g args).run Try.prog w = .ok (.enter g args) w) (v : Value) (xs : List Ln) (p : Ln → Bool) (w : World)
    (hs : SAt Ln.cells 2 w v xs) (hp : ∀ W x, x ∈ xs → Below w.heap.size w W → Calls Try.prog g (#[Ln.val x] ++ lb) W fun e w' => e = .returned (.bool (p x)) ∧ Below W.heap.size W w') :
    Calls Try.prog 45 #[v, .func (.func g) #[] lb] w fun e w' => e = .returned (.bool (xs.any p)) ∧ Below w.heap.size w w' := by
  have hlen := hs.len
  rcases hs with ⟨rfl, rfl⟩ | ⟨b, o, c, rfl, _, _, hrow⟩
  · go_enter Try.func45, Try.ntmps45
    go_wp2_with (go_at_call 60; refine (idxnil_ln _ _).mono ?_; rintro e w' ⟨rfl, rfl⟩)
    go_ret
    exact ⟨rfl, Below.refl _ _⟩
  · unfold maxLen at hlen
    have hget : ∀ j, j < xs.length → xs[j]? = some (xs.getD j Ln0) := fun j hj => by simp [List.getD, hj]
    rw [← any_range_ln xs Ln0 p]
    exact has_ln g lb eg b o xs.length c (fun j => xs.getD j Ln0) (fun j => p (xs.getD j Ln0)) w (by omega) (fun j hj => LnAt.ofRow hrow (hget j hj))
      (fun W j hj hW => (hp W (xs.getD j Ln0) (List.mem_of_getElem? (hget j hj)) hW).mono fun e w' ⟨he, hb⟩ => ⟨he, hW.trans (hb.mono hW.size)⟩)


def inB (n m : Int) : Bool := decide (0 ≤ n) && decide (n ≤ m)
set_option maxHeartbeats 400000 in
theorem within_any (n m : Int) (w : World) :
    Calls Try.prog 38 #[.int .i64 n, .int .i64 m] w fun e w' => e = .returned (.bool (inB n m)) ∧ w = w' := by
  unfold inB
  go_enter Try.func38, Try.ntmps38
  by_cases h1 : 0 ≤ n <;> by_cases h2 : n ≤ m
  all_goals
    go_wp2
    go_ret
    exact ⟨by simp [h1, h2], rfl⟩
def mayB (l : Ln) : Bool := inB l.b 1000000000 && inB l.r 1000000000
set_option maxHeartbeats 400000 in
theorem may_any (l : Ln) (w : World) :
    Calls Try.prog 32 #[.agg #[.int .i64 l.b, .int .i64 l.r]] w fun e w' => e = .returned (.bool (mayB l)) ∧ Below w.heap.size w w' := by
  unfold mayB
  cases h1 : inB l.b 1000000000 <;> cases h2 : inB l.r 1000000000
  all_goals
    go_enter Try.func32, Try.ntmps32
    go_wp2_with (go_at_call 38; refine (within_any _ _ _).mono ?_; rintro e w' ⟨rfl, rfl⟩)
    go_ret
    exact ⟨rfl, bl_alloc (Below.refl _ _) _⟩
theorem en_may : ∀ args w, (callFunc 32 args).run Try.prog w = .ok (.enter 32 args) w := enters_of Try.func32 (by kernel_rfl) rfl
theorem en_each1 : ∀ args w, (callFunc 46 args).run Try.prog w = .ok (.enter 46 args) w := enters_of Try.func46 (by kernel_rfl) rfl
set_option maxHeartbeats 400000 in
theorem each1_any (l : Ln) (b : Nat) (w : World) (hc : w.cell? ⟨b, 0, none⟩ = some (.func (.func 32) #[] #[])) :
    Calls Try.prog 46 #[.agg #[.int .i64 l.b, .int .i64 l.r], .pointer (some ⟨b, 0, none⟩)] w fun e w' => e = .returned (.bool (!mayB l)) ∧ Below w.heap.size w w' := by
  have hb : b < w.heap.size := World.block_lt_of_cell? w ⟨b, 0, none⟩ hc
  have eg := en_may
  have hm := fun w => may_any l w
  generalize mayB l = m at *
  go_enter Try.func46, Try.ntmps46
  go_wp2_with (go_at_call 32; refine (hm _).mono ?_; rintro e w' ⟨rfl, hb'⟩)
  go_ret
  exact ⟨rfl, bl_then (bl_alloc (Below.refl _ _) _) hb'⟩
/-- Are there lines, and may each be? -/
def eachB (ls : List Ln) : Bool := decide (0 < ls.length) && !(ls.any fun l => !mayB l)
theorem eachB_iff {ls : List Ln} : eachB ls = true ↔ ls ≠ [] ∧ ∀ l ∈ ls, mayB l = true := by
  unfold eachB
  rw [Bool.and_eq_true, decide_eq_true_eq, Bool.not_eq_true', List.any_eq_false]
  constructor
  · rintro ⟨h1, h2⟩
    exact ⟨by rintro rfl; simp at h1, fun l hl => by simpa using h2 l hl⟩
  · rintro ⟨h1, h2⟩
    exact ⟨List.length_pos_iff.2 h1, fun l hl => by simp [h2 l hl]⟩
set_option maxHeartbeats 400000 in
theorem each_any (v : Value) (ls : List Ln) (w : World) (h : SAt Ln.cells 2 w v ls) :
    Calls Try.prog 31 #[v, .func (.func 32) #[] #[]] w fun e w' => e = .returned (.bool (eachB ls)) ∧ Below w.heap.size w w' := by
  have hany := any_ln 46 #[.pointer (some ⟨w.heap.size, 0, none⟩)] en_each1 v ls (fun l => !mayB l) (w.alloc (.cells #[.func (.func 32) #[] #[]] 61)) (h.below (bl_alloc (Below.refl _ _) _))
    (fun W x _ hW => each1_any x w.heap.size W (bl_cell hW (by go_simp)))
  have hlm := h.len
  unfold maxLen at hlm
  obtain ⟨A, c, rfl⟩ := h.slice
  unfold eachB
  generalize (ls.any fun l => !mayB l) = q at *
  clear h
  by_cases hl : 0 < ls.length
  · have hlz : (0 : Int) < (ls.length : Int) := by omega
    go_enter Try.func31, Try.ntmps31
    go_wp2_with (go_at_call 45; refine hany.mono ?_; rintro e w' ⟨rfl, hb⟩)
    go_ret
    exact ⟨by simp [hl], bl_then (bl_alloc (Below.refl _ _) _) hb⟩
  · have hlz : ¬ (0 : Int) < (ls.length : Int) := by omega
    go_enter Try.func31, Try.ntmps31
    go_wp2_with fail
    go_ret
    exact ⟨by simp [hl], bl_alloc (Below.refl _ _) _⟩
/-- Numbers whose products fit. -/
def fits (l : Ln) : Prop := (0 ≤ l.b ∧ l.b ≤ 2000000000) ∧ 0 ≤ l.r ∧ l.r ≤ 2000000000
theorem fits_of {l : Ln} (h : mayB l = true) : fits l := by
  simp only [mayB, inB, Bool.and_eq_true, decide_eq_true_eq] at h
  unfold fits
  omega
theorem mul_fits {p u : Int} (h1 : -2000000000 ≤ p) (h2 : p ≤ 2000000000) (h3 : -2000000000 ≤ u) (h4 : u ≤ 2000000000) : -4000000000000000000 ≤ p * u ∧ p * u ≤ 4000000000000000000 := by
  have k1 := Int.mul_nonneg (show 0 ≤ p + 2000000000 by omega) (show 0 ≤ u + 2000000000 by omega)
  have k2 := Int.mul_nonneg (show 0 ≤ 2000000000 - p by omega) (show 0 ≤ u + 2000000000 by omega)
  have k3 := Int.mul_nonneg (show 0 ≤ p + 2000000000 by omega) (show 0 ≤ 2000000000 - u by omega)
  have k4 := Int.mul_nonneg (show 0 ≤ 2000000000 - p by omega) (show 0 ≤ 2000000000 - u by omega)
  simp only [Int.add_mul, Int.mul_add, Int.sub_mul, Int.mul_sub] at k1 k2 k3 k4
  omega
set_option maxHeartbeats 400000 in
theorem needless_any (x y z : Ln) (w : World) (hx : fits x) (hy : fits y) (hz : fits z) :
    Calls Try.prog 52 #[.agg #[.int .i64 x.b, .int .i64 x.r], .agg #[.int .i64 y.b, .int .i64 y.r], .agg #[.int .i64 z.b, .int .i64 z.r]] w fun e w' => e = .returned (.bool (needB x y z)) ∧ Below w.heap.size w w' := by
  obtain ⟨⟨a1, a2⟩, a3, a4⟩ := hx
  obtain ⟨⟨b1, b2⟩, b3, b4⟩ := hy
  obtain ⟨⟨c1, c2⟩, c3, c4⟩ := hz
  have m1 := mul_fits (p := z.b - x.b) (u := x.r - y.r) (by omega) (by omega) (by omega) (by omega)
  have m2 := mul_fits (p := y.b - x.b) (u := x.r - z.r) (by omega) (by omega) (by omega) (by omega)
  unfold needB
  go_enter Try.func52, Try.ntmps52
  go_wp2_with fail
  go_ret
  exact ⟨by simp, bl_alloc (bl_alloc (bl_alloc (Below.refl _ _) _) _) _⟩
end Go.Proofs.Ytmkjiflliejjjaa
