/- Soft: Life, named, none. -/
import Derived.Test.YtojeombljhmkaaaSlices
import Derived.Test.YtojeombljhmkaaaMaps
import Derived.Test.YtojeombljhmkaaaApp
import Derived.Deep.Light
import Derived.Deep.QuietTactic
import Derived.Shelf.GgClosure.Gives
import Derived.Shelf.SlicesQ.Load
import Derived.Laws.EntriesVeiled
import Derived.IntWalk
namespace Go.Proofs.Ytojeombljhmkaaa
open Go.RowKit Go.Shelf
set_option linter.unusedVariables false
set_option linter.unusedSimpArgs false
attribute [local go_sem] Oper.semAt_some
/-- A thing. -/
structure Th where
  name : ByteArray
  period : Int
  next : Int
  forgot : Int
def Th.cells (x : Th) : List Value := [.string x.name, .int .i64 x.period, .int .i64 x.next, .int .i64 x.forgot]
abbrev Th.val (x : Th) : Value := .agg #[.string x.name, .int .i64 x.period, .int .i64 x.next, .int .i64 x.forgot]
/-- The life of a period. -/
def lifeI (p : Int) : Int := if p < 1 ∨ 1000000 < p then 0 else (21 * p + 3) / 4
set_option maxHeartbeats 400000 in
theorem life_any (p : Int) (w : World) :
    Calls Try.prog 15 #[.int .i64 p] w fun e w' => e = .returned (.int .i64 (lifeI p)) ∧ w = w' := by
  unfold lifeI
  by_cases h1 : p < 1
  · rw [if_pos (.inl h1)]
    go_enter Try.func15, Try.ntmps15
    go_wp2
    go_ret
    exact ⟨rfl, rfl⟩
  · by_cases h2 : 1000000 < p
    · rw [if_pos (.inr h2)]
      go_enter Try.func15, Try.ntmps15
      go_wp2
      go_ret
      exact ⟨rfl, rfl⟩
    · rw [if_neg (by omega)]
      have h3 : 1 ≤ p := by omega
      have h4 : p ≤ 1000000 := by omega
      clear h1 h2
      go_enter Try.func15, Try.ntmps15
      go_wp2
      go_ret
      exact ⟨rfl, rfl⟩
def namedB (s : ByteArray) : Bool := !(s.toList.isEmpty || decide (60 < s.size))
set_option maxHeartbeats 400000 in
theorem named1_any (s : ByteArray) (w : World) :
    Calls Try.prog 48 #[.string s] w fun e w' => e = .returned (.bool (!namedB s)) ∧ w = w' := by
  unfold namedB
  by_cases h1 : s.toList = []
  · have h1b : s.toList.isEmpty = true := by simp [h1]
    go_enter Try.func48, Try.ntmps48
    go_wp2
    go_ret
    exact ⟨by simp [h1], rfl⟩
  · have h1b : s.toList.isEmpty = false := by simpa using h1
    go_enter Try.func48, Try.ntmps48
    go_wp2
    go_ret
    have hc : ((60 : Int) < (s.size : Int)) ↔ 60 < s.size := by omega
    exact ⟨by simp [h1b, hc], rfl⟩

set_option maxHeartbeats 400000 in
/-- slices.IndexFunc at elements of one cell: the first place at which it is so, or -1. -/
theorem idx_str (g : Nat) (lb : Array Value) (eg : ∀ args w, (callFunc g args).run Try.prog w = .ok (.enter g args) w) (b off n c : Nat) (vs : Nat → Value) (p : Nat → Bool) (w : World) (hbig : n ≤ 9223372036854775807)
    (hc : ∀ j, j < n → w.cell? ⟨b, off + j, none⟩ = some (vs j)) (hp : ∀ W j, j < n → Below w.heap.size w W → Calls Try.prog g (#[vs j] ++ lb) W fun e w' => e = .returned (.bool (p j)) ∧ Below w.heap.size w w') :
    Calls Try.prog 57 #[.slice (some ⟨b, off, none⟩) n c, .func (.func g) #[] lb] w fun e w' => ∃ r : Int, e = .returned (.int .i64 r) ∧ IdxIs p n r ∧ Below w.heap.size w w' := by
  have hcW : ∀ (W : World), Below w.heap.size w W → ∀ j, j < n → W.cell? ⟨b, off + j, none⟩ = some (vs j) := fun W hW j hj => bl_cell hW (hc j hj)
  clear hc
  go_enter Try.func57, Try.ntmps57
  go_wp2
  go_loopg [5, 8] n (fun gg _ s8 wr => ∃ kk : Nat, kk ≤ n ∧ n - kk ≤ gg ∧ s8 = .int .i64 kk ∧ Aside (Below w.heap.size w wr) ∧ Aside (∀ j, j < kk → p j = false))
  case atStart => exact ⟨0, Nat.zero_le _, by omega, rfl, Below.refl _ w, fun j hj => absurd hj (Nat.not_lt_zero _)⟩
  case round =>
    obtain ⟨kk, hkk, hg, rfl, BW, A⟩ := hrel
    by_cases hlt : kk < n
    · have hltz : (kk : Int) < (n : Int) := by omega
      have l2 := hcW wr BW.out kk hlt
      have hcall := hp wr kk hlt BW.out
      clear hcW hp
      generalize vs kk = y at l2 hcall
      cases hq : p kk with
      | true =>
        rw [hq] at hcall
        have HQ := Lib.hid hq
        clear hq
        go_wp2_with (go_at_fn g; refine hcall.mono ?_; rintro e w' ⟨rfl, hb'⟩)
        go_ret
        exact ⟨_, rfl, Or.inr ⟨kk, hlt, rfl, HQ.out, A.out⟩, hb'⟩
      | false =>
        rw [hq] at hcall
        have HQ := Lib.hid hq
        clear hq
        go_wp2_with (go_at_fn g; refine hcall.mono ?_; rintro e w' ⟨rfl, hb'⟩)
        go_roundg (n - (kk + 1))
        case measure => omega
        case rel =>
          refine ⟨kk + 1, by omega, by omega, by go_num, hb', (show Aside _ from fun j hj => ?_)⟩
          by_cases e : j = kk
          · subst e
            exact HQ.out
          · exact A.out j (by omega)
    · have hltz : ¬ (kk : Int) < (n : Int) := by omega
      have : kk = n := by omega
      subst this
      go_wp2
      go_ret
      exact ⟨_, rfl, Or.inl ⟨rfl, A.out⟩, BW.out⟩

set_option maxHeartbeats 400000 in
/-- slices.ContainsFunc at elements of one cell. -/
theorem has_str (g : Nat) (lb : Array Value) (eg : ∀ args w, (callFunc g args).run Try.prog w = .ok (.enter g args) w) (b off n c : Nat) (vs : Nat → Value) (p : Nat → Bool) (w : World) (hbig : n ≤ 9223372036854775807)
    (hc : ∀ j, j < n → w.cell? ⟨b, off + j, none⟩ = some (vs j)) (hp : ∀ W j, j < n → Below w.heap.size w W → Calls Try.prog g (#[vs j] ++ lb) W fun e w' => e = .returned (.bool (p j)) ∧ Below w.heap.size w w') :
    Calls Try.prog 47 #[.slice (some ⟨b, off, none⟩) n c, .func (.func g) #[] lb] w fun e w' => e = .returned (.bool ((List.range n).any p)) ∧ Below w.heap.size w w' := by
  have H := idx_str g lb eg b off n c vs p w hbig hc hp
  clear hc hp
  go_enter Try.func47, Try.ntmps47
  go_wp2_with (go_at_call 57; refine H.mono ?_; rintro e w' ⟨r, rfl, hr, hb'⟩; have HR := Lib.hid hr; clear hr)
  go_ret
  exact ⟨by rw [← HR.out.any]; rfl, hb'⟩

theorem any_range_str {α : Type} (xs : List α) (d : α) (p : α → Bool) : (List.range xs.length).any (fun j => p (xs.getD j d)) = xs.any p := by
  rw [Bool.eq_iff_iff, List.any_eq_true, List.any_eq_true]
  constructor
  · rintro ⟨j, hj, h⟩
    have hj := List.mem_range.1 hj
    exact ⟨xs[j], List.getElem_mem _, by simpa [List.getD, hj] using h⟩
  · rintro ⟨x, hx, h⟩
    obtain ⟨j, hj, rfl⟩ := List.mem_iff_getElem.1 hx
    exact ⟨j, List.mem_range.2 hj, by simpa [List.getD, hj] using h⟩
set_option maxHeartbeats 400000 in
theorem idxnil_str (fv : Value) (w : World) :
    Calls Try.prog 57 #[.slice none 0 0, fv] w fun e w' => e = .returned (.int .i64 (-1)) ∧ w = w' := by
  go_enter Try.func57, Try.ntmps57
  go_wp2
  go_loopg [5, 8] 0 (fun _ _ s8 wr => s8 = .int .i64 0 ∧ w = wr)
  case atStart => exact ⟨rfl, rfl⟩
  case round =>
    obtain ⟨rfl, rfl⟩ := hrel
    go_wp2
    go_ret
    exact ⟨rfl, rfl⟩
set_option maxHeartbeats 400000 in
/-- slices.ContainsFunc over a slice of one-cell things, nil too. -/
theorem any_str {α : Type} (ev : α → Value) (d : α) (g : Nat) (lb : Array Value) (eg : ∀ args w, (callFunc g args).run Try.prog w = .ok (.enter g args) w) (v : Value) (xs : List α) (p : α → Bool) (w : World)
    (hs : SAt (fun x => [ev x]) 1 w v xs) (hp : ∀ W x, x ∈ xs → Below w.heap.size w W → Calls Try.prog g (#[ev x] ++ lb) W fun e w' => e = .returned (.bool (p x)) ∧ Below W.heap.size W w') :
    Calls Try.prog 47 #[v, .func (.func g) #[] lb] w fun e w' => e = .returned (.bool (xs.any p)) ∧ Below w.heap.size w w' := by
  have hlen := hs.len
  rcases hs with ⟨rfl, rfl⟩ | ⟨b, o, c, rfl, _, _, hrow⟩
  · go_enter Try.func47, Try.ntmps47
    go_wp2_with (go_at_call 57; refine (idxnil_str _ _).mono ?_; rintro e w' ⟨rfl, rfl⟩)
    go_ret
    exact ⟨rfl, Below.refl _ _⟩
  · unfold maxLen at hlen
    have hget : ∀ j, j < xs.length → xs[j]? = some (xs.getD j d) := fun j hj => by simp [List.getD, hj]
    rw [← any_range_str xs d p]
    exact has_str g lb eg b o xs.length c (fun j => ev (xs.getD j d)) (fun j => p (xs.getD j d)) w (by omega) (fun j hj => by simpa using hrow j _ (hget j hj) 0 _ rfl)
      (fun W j hj hW => (hp W (xs.getD j d) (List.mem_of_getElem? (hget j hj)) hW).mono fun e w' ⟨he, hb⟩ => ⟨he, hW.trans (hb.mono hW.size)⟩)


theorem en_named1 : ∀ args w, (callFunc 48 args).run Try.prog w = .ok (.enter 48 args) w := enters_of Try.func48 (by kernel_rfl) rfl
set_option maxHeartbeats 400000 in
theorem named_any (s : ByteArray) (b : Nat) (w : World) (h : w.cell? ⟨b, 0, none⟩ = some (.string s)) :
    Calls Try.prog 31 #[.slice (some ⟨b, 0, none⟩) 1 1] w fun e w' => e = .returned (.bool (namedB s)) ∧ Below w.heap.size w w' := by
  have hs : SAt (fun x : ByteArray => [Value.string x]) 1 w (.slice (some ⟨b, 0, none⟩) 1 1) [s] := Or.inr ⟨b, 0, 1, rfl, by simp, by simp [maxLen], fun j x hj i u hu => by
    cases j with
    | succ j => simp at hj
    | zero =>
      simp at hj
      subst hj
      cases i with
      | succ i => simp at hu
      | zero => simp at hu; subst hu; simpa using h⟩
  have hany := any_str (fun x : ByteArray => Value.string x) s 48 #[] en_named1 _ [s] (fun x => !namedB x) w hs (fun W x _ _ => (named1_any x W).mono fun e w' ⟨he, hw⟩ => ⟨he, hw ▸ Below.refl _ _⟩)
  simp only [List.any_cons, List.any_nil, Bool.or_false] at hany
  generalize namedB s = q at *
  go_enter Try.func31, Try.ntmps31
  go_wp2_with (go_at_call 47; refine hany.mono ?_; rintro e w' ⟨rfl, hb⟩)
  go_ret
  exact ⟨by simp, hb⟩
end Go.Proofs.Ytojeombljhmkaaa
