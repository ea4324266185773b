/- tspec: Check. -/
import Derived.Test.YtmkjiflliejjjaaSlices
import Derived.Deep.Light
import Derived.Shelf.GgClosure.Gives
import Derived.Shelf.SlicesQ.Load
namespace Go.Proofs.Ytmkjiflliejjjaa
open Go.RowKit Go.Shelf
set_option linter.unusedVariables false
set_option linter.unusedSimpArgs false
/-- A spec. -/
structure Sp where (peak rate burst most least : Int)
def Sp.cells (s : Sp) : List Value := [.int .i64 s.peak, .int .i64 s.rate, .int .i64 s.burst, .int .i64 s.most, .int .i64 s.least]
abbrev Sp.val (s : Sp) : Value := .agg #[.int .i64 s.peak, .int .i64 s.rate, .int .i64 s.burst, .int .i64 s.most, .int .i64 s.least]
def SpAt (w : World) (b o : Nat) (s : Sp) : Prop := w.cell? ⟨b, o, none⟩ = some (.int .i64 s.peak) ∧ w.cell? ⟨b, o + 1, none⟩ = some (.int .i64 s.rate) ∧ w.cell? ⟨b, o + 2, none⟩ = some (.int .i64 s.burst) ∧ w.cell? ⟨b, o + 3, none⟩ = some (.int .i64 s.most) ∧ w.cell? ⟨b, o + 4, none⟩ = some (.int .i64 s.least)
theorem SpAt.below {w W : World} {b o : Nat} {s : Sp} (h : SpAt w b o s) (hb : Below w.heap.size w W) : SpAt W b o s := by
  obtain ⟨h0, h1, h2, h3, h4⟩ := h
  exact ⟨bl_cell hb h0, bl_cell hb h1, bl_cell hb h2, bl_cell hb h3, bl_cell hb h4⟩
theorem SpAt.ofRow {w : World} {b o : Nat} {xs : List Sp} (h : RowAt Sp.cells 5 w b o xs) {j : Nat} {x : Sp} (hj : xs[j]? = some x) : SpAt w b (o + j * 5) x :=
  ⟨h j x hj 0 _ rfl, h j x hj 1 _ rfl, h j x hj 2 _ rfl, h j x hj 3 _ rfl, h j x hj 4 _ rfl⟩
def twB (n l m : Int) : Bool := decide (l ≤ n) && decide (n ≤ m)
def tflaw1B (s : Sp) : Bool := !twB s.rate 1 1000000 || !twB s.peak s.rate 1000000
def tflaw2B (s : Sp) : Bool := !twB s.most 1 2000 || !twB s.least 1 s.most
def tflaw3B (s : Sp) : Bool := !twB s.burst s.most 10000000
set_option maxHeartbeats 400000 in
theorem twithin_any (n l m : Int) (w : World) :
    Calls Try.prog 68 #[.int .i64 n, .int .i64 l, .int .i64 m] w fun e w' => e = .returned (.bool (twB n l m)) ∧ w = w' := by
  unfold twB
  go_enter Try.func68, Try.ntmps68
  go_wp2
  all_goals go_ret
  all_goals (refine ⟨?_, rfl⟩; simp_all <;> omega)
set_option maxHeartbeats 400000 in
theorem tflaw1 (s : Sp) (w : World) :
    Calls Try.prog 67 #[.agg #[.int .i64 s.peak, .int .i64 s.rate, .int .i64 s.burst, .int .i64 s.most, .int .i64 s.least]] w fun e w' => e = .returned (.bool (tflaw1B s)) ∧ Below w.heap.size w w' := by
  go_enter Try.func67, Try.ntmps67
  go_wp2_with (go_at_call 68; refine (twithin_any _ _ _ _).mono ?_; rintro e w' ⟨rfl, rfl⟩)
  all_goals go_ret
  all_goals exact ⟨by simp [tflaw1B, *], bl_alloc (Below.refl _ _) _⟩
set_option maxHeartbeats 400000 in
theorem tflaw2 (s : Sp) (w : World) :
    Calls Try.prog 69 #[.agg #[.int .i64 s.peak, .int .i64 s.rate, .int .i64 s.burst, .int .i64 s.most, .int .i64 s.least]] w fun e w' => e = .returned (.bool (tflaw2B s)) ∧ Below w.heap.size w w' := by
  go_enter Try.func69, Try.ntmps69
  go_wp2_with (go_at_call 68; refine (twithin_any _ _ _ _).mono ?_; rintro e w' ⟨rfl, rfl⟩)
  all_goals go_ret
  all_goals exact ⟨by simp [tflaw2B, *], bl_alloc (Below.refl _ _) _⟩
set_option maxHeartbeats 400000 in
theorem tflaw3 (s : Sp) (w : World) :
    Calls Try.prog 70 #[.agg #[.int .i64 s.peak, .int .i64 s.rate, .int .i64 s.burst, .int .i64 s.most, .int .i64 s.least]] w fun e w' => e = .returned (.bool (tflaw3B s)) ∧ Below w.heap.size w w' := by
  go_enter Try.func70, Try.ntmps70
  go_wp2_with (go_at_call 68; refine (twithin_any _ _ _ _).mono ?_; rintro e w' ⟨rfl, rfl⟩)
  all_goals go_ret
  all_goals exact ⟨by simp [tflaw3B, *], bl_alloc (Below.refl _ _) _⟩
set_option maxHeartbeats 400000 in
theorem tflaws_any (w : World) :
    Calls Try.prog 58 #[] w fun e w' => e = .returned (.slice (some ⟨w.heap.size, 0, none⟩) 3 3) ∧ w' = w.alloc (.cells #[.func (.func 67) #[] #[], .func (.func 69) #[] #[], .func (.func 70) #[] #[]] 53) := by
  go_enter Try.func58, Try.ntmps58
  go_wp2
  go_ret
  exact ⟨rfl, rfl⟩
def tflawB (s : Sp) : Nat → Bool
  | 0 => tflaw1B s
  | 1 => tflaw2B s
  | _ => tflaw3B s
def tflawV : Nat → Value
  | 0 => .func (.func 67) #[] #[]
  | 1 => .func (.func 69) #[] #[]
  | _ => .func (.func 70) #[] #[]
set_option maxHeartbeats 400000 in
theorem tcheck1 (s : Sp) (b j : Nat) (w : World) (hl : SpAt w b 0 s) (hj : j < 3) :
    Calls Try.prog 59 #[tflawV j, .pointer (some ⟨b, 0, none⟩)] w fun e w' => e = .returned (.bool (tflawB s j)) ∧ Below w.heap.size w w' := by
  obtain ⟨c0, c1, c2, c3, c4⟩ := hl
  match j, hj with
  | 0, _ =>
    unfold tflawV tflawB
    go_enter Try.func59, Try.ntmps59
    go_wp2_with (go_at_call 67; refine (tflaw1 s _).mono ?_; rintro e w' ⟨rfl, hb⟩)
    go_ret
    exact ⟨rfl, hb⟩
  | 1, _ =>
    unfold tflawV tflawB
    go_enter Try.func59, Try.ntmps59
    go_wp2_with (go_at_call 69; refine (tflaw2 s _).mono ?_; rintro e w' ⟨rfl, hb⟩)
    go_ret
    exact ⟨rfl, hb⟩
  | 2, _ =>
    unfold tflawV tflawB
    go_enter Try.func59, Try.ntmps59
    go_wp2_with (go_at_call 70; refine (tflaw3 s _).mono ?_; rintro e w' ⟨rfl, hb⟩)
    go_ret
    exact ⟨rfl, hb⟩

set_option maxHeartbeats 400000 in
/-- slices.IndexFunc at elements of one cell: the first place at which it is so, or -1. -/
theorem idx_tfl (g : Nat) (lb : Array Value) (eg : ∀ args w, (callFunc g args).run Try.prog w = .ok (.enter g args) w) (b off n c : Nat) (vs : Nat → Value) (p : Nat → Bool) (w : World) (hbig : n ≤ 9223372036854775807)
    (hc : ∀ j, j < n → w.cell? ⟨b, off + j, none⟩ = some (vs j)) (hp : ∀ W j, j < n → Below w.heap.size w W → Calls Try.prog g (#[vs j] ++ lb) W fun e w' => e = .returned (.bool (p j)) ∧ Below w.heap.size w w') :
    Calls Try.prog 66 #[.slice (some ⟨b, off, none⟩) n c, .func (.func g) #[] lb] w fun e w' => ∃ r : Int, e = .returned (.int .i64 r) ∧ IdxIs p n r ∧ Below w.heap.size w w' := by
  have hcW : ∀ (W : World), Below w.heap.size w W → ∀ j, j < n → W.cell? ⟨b, off + j, none⟩ = some (vs j) := fun W hW j hj => bl_cell hW (hc j hj)
  clear hc
  go_enter Try.func66, Try.ntmps66
  go_wp2
  go_loopg [5, 8] n (fun gg _ s8 wr => ∃ kk : Nat, kk ≤ n ∧ n - kk ≤ gg ∧ s8 = .int .i64 kk ∧ Aside (Below w.heap.size w wr) ∧ Aside (∀ j, j < kk → p j = false))
  case atStart => exact ⟨0, Nat.zero_le _, by omega, rfl, Below.refl _ w, fun j hj => absurd hj (Nat.not_lt_zero _)⟩
  case round =>
    obtain ⟨kk, hkk, hg, rfl, BW, A⟩ := hrel
    by_cases hlt : kk < n
    · have hltz : (kk : Int) < (n : Int) := by omega
      have l2 := hcW wr BW.out kk hlt
      have hcall := hp wr kk hlt BW.out
      clear hcW hp
      generalize vs kk = y at l2 hcall
      cases hq : p kk with
      | true =>
        rw [hq] at hcall
        have HQ := Lib.hid hq
        clear hq
        go_wp2_with (go_at_fn g; refine hcall.mono ?_; rintro e w' ⟨rfl, hb'⟩)
        go_ret
        exact ⟨_, rfl, Or.inr ⟨kk, hlt, rfl, HQ.out, A.out⟩, hb'⟩
      | false =>
        rw [hq] at hcall
        have HQ := Lib.hid hq
        clear hq
        go_wp2_with (go_at_fn g; refine hcall.mono ?_; rintro e w' ⟨rfl, hb'⟩)
        go_roundg (n - (kk + 1))
        case measure => omega
        case rel =>
          refine ⟨kk + 1, by omega, by omega, by go_num, hb', (show Aside _ from fun j hj => ?_)⟩
          by_cases e : j = kk
          · subst e
            exact HQ.out
          · exact A.out j (by omega)
    · have hltz : ¬ (kk : Int) < (n : Int) := by omega
      have : kk = n := by omega
      subst this
      go_wp2
      go_ret
      exact ⟨_, rfl, Or.inl ⟨rfl, A.out⟩, BW.out⟩

set_option maxHeartbeats 400000 in
/-- slices.ContainsFunc at elements of one cell. -/
theorem has_tfl (g : Nat) (lb : Array Value) (eg : ∀ args w, (callFunc g args).run Try.prog w = .ok (.enter g args) w) (b off n c : Nat) (vs : Nat → Value) (p : Nat → Bool) (w : World) (hbig : n ≤ 9223372036854775807)
    (hc : ∀ j, j < n → w.cell? ⟨b, off + j, none⟩ = some (vs j)) (hp : ∀ W j, j < n → Below w.heap.size w W → Calls Try.prog g (#[vs j] ++ lb) W fun e w' => e = .returned (.bool (p j)) ∧ Below w.heap.size w w') :
    Calls Try.prog 57 #[.slice (some ⟨b, off, none⟩) n c, .func (.func g) #[] lb] w fun e w' => e = .returned (.bool ((List.range n).any p)) ∧ Below w.heap.size w w' := by
  have H := idx_tfl g lb eg b off n c vs p w hbig hc hp
  clear hc hp
  go_enter Try.func57, Try.ntmps57
  go_wp2_with (go_at_call 66; refine H.mono ?_; rintro e w' ⟨r, rfl, hr, hb'⟩; have HR := Lib.hid hr; clear hr)
  go_ret
  exact ⟨by rw [← HR.out.any]; rfl, hb'⟩

theorem any_range_tfl {α : Type} (xs : List α) (d : α) (p : α → Bool) : (List.range xs.length).any (fun j => p (xs.getD j d)) = xs.any p := by
  rw [Bool.eq_iff_iff, List.any_eq_true, List.any_eq_true]
  constructor
  · rintro ⟨j, hj, h⟩
    have hj := List.mem_range.1 hj
    exact ⟨xs[j], List.getElem_mem _, by simpa [List.getD, hj] using h⟩
  · rintro ⟨x, hx, h⟩
    obtain ⟨j, hj, rfl⟩ := List.mem_iff_getElem.1 hx
    exact ⟨j, List.mem_range.2 hj, by simpa [List.getD, hj] using h⟩
set_option maxHeartbeats 400000 in
theorem idxnil_tfl (fv : Value) (w : World) :
    Calls Try.prog 66 #[.slice none 0 0, fv] w fun e w' => e = .returned (.int .i64 (-1)) ∧ w = w' := by
  go_enter Try.func66, Try.ntmps66
  go_wp2
  go_loopg [5, 8] 0 (fun _ _ s8 wr => s8 = .int .i64 0 ∧ w = wr)
  case atStart => exact ⟨rfl, rfl⟩
  case round =>
    obtain ⟨rfl, rfl⟩ := hrel
    go_wp2
    go_ret
    exact ⟨rfl, rfl⟩
set_option maxHeartbeats 400000 in
/-- slices.ContainsFunc over a slice of one-cell things, nil too. -/
theorem any_tfl {α : Type} (ev : α → Value) (d : α) (g : Nat) (lb : Array Value) (eg : ∀ args w, (callFunc g args).run Try.prog w = .ok (.enter g args) w) (v : Value) (xs : List α) (p : α → Bool) (w : World)
    (hs : SAt (fun x => [ev x]) 1 w v xs) (hp : ∀ W x, x ∈ xs → Below w.heap.size w W → Calls Try.prog g (#[ev x] ++ lb) W fun e w' => e = .returned (.bool (p x)) ∧ Below W.heap.size W w') :
    Calls Try.prog 57 #[v, .func (.func g) #[] lb] w fun e w' => e = .returned (.bool (xs.any p)) ∧ Below w.heap.size w w' := by
  have hlen := hs.len
  rcases hs with ⟨rfl, rfl⟩ | ⟨b, o, c, rfl, _, _, hrow⟩
  · go_enter Try.func57, Try.ntmps57
    go_wp2_with (go_at_call 66; refine (idxnil_tfl _ _).mono ?_; rintro e w' ⟨rfl, rfl⟩)
    go_ret
    exact ⟨rfl, Below.refl _ _⟩
  · unfold maxLen at hlen
    have hget : ∀ j, j < xs.length → xs[j]? = some (xs.getD j d) := fun j hj => by simp [List.getD, hj]
    rw [← any_range_tfl xs d p]
    exact has_tfl g lb eg b o xs.length c (fun j => ev (xs.getD j d)) (fun j => p (xs.getD j d)) w (by omega) (fun j hj => by simpa using hrow j _ (hget j hj) 0 _ rfl)
      (fun W j hj hW => (hp W (xs.getD j d) (List.mem_of_getElem? (hget j hj)) hW).mono fun e w' ⟨he, hb⟩ => ⟨he, hW.trans (hb.mono hW.size)⟩)


/-- May a spec be? -/
def okSp (s : Sp) : Bool := !((List.range 3).any (tflawB s))
theorem okSp_iff (s : Sp) : okSp s = true ↔ (1 ≤ s.rate ∧ s.rate ≤ s.peak ∧ s.peak ≤ 1000000 ∧ 1 ≤ s.least ∧ s.least ≤ s.most ∧ s.most ≤ 2000 ∧ s.most ≤ s.burst ∧ s.burst ≤ 10000000) := by
  have : okSp s = !(tflaw1B s || (tflaw2B s || (tflaw3B s || false))) := rfl
  rw [this]
  simp only [tflaw1B, tflaw2B, tflaw3B, twB, Bool.or_false, Bool.not_or, Bool.and_eq_true, Bool.not_not, decide_eq_true_eq]
  omega
set_option maxHeartbeats 400000 in
theorem tcheck_any (s : Sp) (w : World) :
    Calls Try.prog 43 #[.agg #[.int .i64 s.peak, .int .i64 s.rate, .int .i64 s.burst, .int .i64 s.most, .int .i64 s.least]] w fun e w' => e = .returned (.int .i64 (if okSp s = true then 0 else 2)) ∧ Below w.heap.size w w' := by
  unfold okSp
  have eg : ∀ args w, (callFunc 59 args).run Try.prog w = .ok (.enter 59 args) w := enters_of Try.func59 (by kernel_rfl) rfl
  have hh := has_tfl 59 #[.pointer (some ⟨w.heap.size, 0, none⟩)] eg (w.heap.size + 1) 0 3 3 tflawV (tflawB s)
    ((w.alloc (.cells #[.int .i64 s.peak, .int .i64 s.rate, .int .i64 s.burst, .int .i64 s.most, .int .i64 s.least] 51)).alloc (.cells #[.func (.func 67) #[] #[], .func (.func 69) #[] #[], .func (.func 70) #[] #[]] 53))
    (by omega)
    (fun j hj => by
      match j, hj with
      | 0, _ => unfold tflawV; go_simp
      | 1, _ => unfold tflawV; go_simp
      | 2, _ => unfold tflawV; go_simp)
    (fun W j hj hW => (tcheck1 s w.heap.size j W (SpAt.below (by unfold SpAt; go_simp) hW) hj).mono fun e w' ⟨he, hb⟩ => ⟨he, hW.trans (hb.mono hW.size)⟩)
  generalize (List.range 3).any (tflawB s) = q at hh
  go_enter Try.func43, Try.ntmps43
  cases q
  all_goals
    go_wp2_with (first | (go_at_call 58; refine (tflaws_any _).mono ?_; rintro e w' ⟨rfl, rfl⟩) | (go_at_call 57; refine hh.mono ?_; rintro e w' ⟨rfl, hb⟩))
    go_ret
    exact ⟨by simp, (bl_alloc (bl_alloc (Below.refl _ _) _) _).trans (hb.mono (by simp; omega))⟩
end Go.Proofs.Ytmkjiflliejjjaa
