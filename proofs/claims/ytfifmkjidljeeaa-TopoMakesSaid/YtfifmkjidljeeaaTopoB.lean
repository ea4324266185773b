/- Walks of topo: ContainsFunc over the flaws, Check. -/
import Derived.Test.YtfifmkjidljeeaaTopoA
import Derived.Deep.Light
import Derived.Shelf.GgClosure.Gives
import Derived.Shelf.SlicesQ.Load
namespace Go.Proofs.Ytfifmkjidljeeaa
open Go.RowKit Go.Shelf

set_option maxHeartbeats 400000 in
/-- slices.IndexFunc at elements of one cell: the first place at which it is so, or -1. -/
theorem idx_fl (g : Nat) (lb : Array Value) (eg : ∀ args w, (callFunc g args).run Try.prog w = .ok (.enter g args) w) (b off n c : Nat) (vs : Nat → Value) (p : Nat → Bool) (w : World) (hbig : n ≤ 9223372036854775807)
    (hc : ∀ j, j < n → w.cell? ⟨b, off + j, none⟩ = some (vs j)) (hp : ∀ W j, j < n → Below w.heap.size w W → Calls Try.prog g (#[vs j] ++ lb) W fun e w' => e = .returned (.bool (p j)) ∧ Below w.heap.size w w') :
    Calls Try.prog 41 #[.slice (some ⟨b, off, none⟩) n c, .func (.func g) #[] lb] w fun e w' => ∃ r : Int, e = .returned (.int .i64 r) ∧ IdxIs p n r ∧ Below w.heap.size w w' := by
  have hcW : ∀ (W : World), Below w.heap.size w W → ∀ j, j < n → W.cell? ⟨b, off + j, none⟩ = some (vs j) := fun W hW j hj => bl_cell hW (hc j hj)
  clear hc
  go_enter Try.func41, Try.ntmps41
  go_wp2
  go_loopg [5, 8] n (fun gg _ s8 wr => ∃ kk : Nat, kk ≤ n ∧ n - kk ≤ gg ∧ s8 = .int .i64 kk ∧ Aside (Below w.heap.size w wr) ∧ Aside (∀ j, j < kk → p j = false))
  case atStart => exact ⟨0, Nat.zero_le _, by omega, rfl, Below.refl _ w, fun j hj => absurd hj (Nat.not_lt_zero _)⟩
  case round =>
    obtain ⟨kk, hkk, hg, rfl, BW, A⟩ := hrel
    by_cases hlt : kk < n
    · have hltz : (kk : Int) < (n : Int) := by omega
      have l2 := hcW wr BW.out kk hlt
      have hcall := hp wr kk hlt BW.out
      clear hcW hp
      generalize vs kk = y at l2 hcall
      cases hq : p kk with
      | true =>
        rw [hq] at hcall
        have HQ := Lib.hid hq
        clear hq
        go_wp2_with (go_at_fn g; refine hcall.mono ?_; rintro e w' ⟨rfl, hb'⟩)
        go_ret
        exact ⟨_, rfl, Or.inr ⟨kk, hlt, rfl, HQ.out, A.out⟩, hb'⟩
      | false =>
        rw [hq] at hcall
        have HQ := Lib.hid hq
        clear hq
        go_wp2_with (go_at_fn g; refine hcall.mono ?_; rintro e w' ⟨rfl, hb'⟩)
        go_roundg (n - (kk + 1))
        case measure => omega
        case rel =>
          refine ⟨kk + 1, by omega, by omega, by go_num, hb', (show Aside _ from fun j hj => ?_)⟩
          by_cases e : j = kk
          · subst e
            exact HQ.out
          · exact A.out j (by omega)
    · have hltz : ¬ (kk : Int) < (n : Int) := by omega
      have : kk = n := by omega
      subst this
      go_wp2
      go_ret
      exact ⟨_, rfl, Or.inl ⟨rfl, A.out⟩, BW.out⟩

set_option maxHeartbeats 400000 in
/-- slices.ContainsFunc at elements of one cell. -/
theorem has_fl (g : Nat) (lb : Array Value) (eg : ∀ args w, (callFunc g args).run Try.prog w = .ok (.enter g args) w) (b off n c : Nat) (vs : Nat → Value) (p : Nat → Bool) (w : World) (hbig : n ≤ 9223372036854775807)
    (hc : ∀ j, j < n → w.cell? ⟨b, off + j, none⟩ = some (vs j)) (hp : ∀ W j, j < n → Below w.heap.size w W → Calls Try.prog g (#[vs j] ++ lb) W fun e w' => e = .returned (.bool (p j)) ∧ Below w.heap.size w w') :
    Calls Try.prog 26 #[.slice (some ⟨b, off, none⟩) n c, .func (.func g) #[] lb] w fun e w' => e = .returned (.bool ((List.range n).any p)) ∧ Below w.heap.size w w' := by
  have H := idx_fl g lb eg b off n c vs p w hbig hc hp
  clear hc hp
  go_enter Try.func26, Try.ntmps26
  go_wp2_with (go_at_call 41; refine H.mono ?_; rintro e w' ⟨r, rfl, hr, hb'⟩; have HR := Lib.hid hr; clear hr)
  go_ret
  exact ⟨by rw [← HR.out.any]; rfl, hb'⟩

theorem any_range_fl {α : Type} (xs : List α) (d : α) (p : α → Bool) : (List.range xs.length).any (fun j => p (xs.getD j d)) = xs.any p := by
  rw [Bool.eq_iff_iff, List.any_eq_true, List.any_eq_true]
  constructor
  · rintro ⟨j, hj, h⟩
    have hj := List.mem_range.1 hj
    exact ⟨xs[j], List.getElem_mem _, by simpa [List.getD, hj] using h⟩
  · rintro ⟨x, hx, h⟩
    obtain ⟨j, hj, rfl⟩ := List.mem_iff_getElem.1 hx
    exact ⟨j, List.mem_range.2 hj, by simpa [List.getD, hj] using h⟩
set_option maxHeartbeats 400000 in
theorem idxnil_fl (fv : Value) (w : World) :
    Calls Try.prog 41 #[.slice none 0 0, fv] w fun e w' => e = .returned (.int .i64 (-1)) ∧ w = w' := by
  go_enter Try.func41, Try.ntmps41
  go_wp2
  go_loopg [5, 8] 0 (fun _ _ s8 wr => s8 = .int .i64 0 ∧ w = wr)
  case atStart => exact ⟨rfl, rfl⟩
  case round =>
    obtain ⟨rfl, rfl⟩ := hrel
    go_wp2
    go_ret
    exact ⟨rfl, rfl⟩
set_option maxHeartbeats 400000 in
/-- slices.ContainsFunc over a slice of one-cell things, nil too. -/
theorem any_fl {α : Type} (ev : α → Value) (d : α) (g : Nat) (lb : Array Value) (eg : ∀ args w, (callFunc g args).run Try.prog w = .ok (.enter g args) w) (v : Value) (xs : List α) (p : α → Bool) (w : World)
    (hs : SAt (fun x => [ev x]) 1 w v xs) (hp : ∀ W x, x ∈ xs → Below w.heap.size w W → Calls Try.prog g (#[ev x] ++ lb) W fun e w' => e = .returned (.bool (p x)) ∧ Below W.heap.size W w') :
    Calls Try.prog 26 #[v, .func (.func g) #[] lb] w fun e w' => e = .returned (.bool (xs.any p)) ∧ Below w.heap.size w w' := by
  have hlen := hs.len
  rcases hs with ⟨rfl, rfl⟩ | ⟨b, o, c, rfl, _, _, hrow⟩
  · go_enter Try.func26, Try.ntmps26
    go_wp2_with (go_at_call 41; refine (idxnil_fl _ _).mono ?_; rintro e w' ⟨rfl, rfl⟩)
    go_ret
    exact ⟨rfl, Below.refl _ _⟩
  · unfold maxLen at hlen
    have hget : ∀ j, j < xs.length → xs[j]? = some (xs.getD j d) := fun j hj => by simp [List.getD, hj]
    rw [← any_range_fl xs d p]
    exact has_fl g lb eg b o xs.length c (fun j => ev (xs.getD j d)) (fun j => p (xs.getD j d)) w (by omega) (fun j hj => by simpa using hrow j _ (hget j hj) 0 _ rfl)
      (fun W j hj hW => (hp W (xs.getD j d) (List.mem_of_getElem? (hget j hj)) hW).mono fun e w' ⟨he, hb⟩ => ⟨he, hW.trans (hb.mono hW.size)⟩)



def okLink (l : Lk) (n : Int) : Bool := wi n 1 16 && !((List.range 4).any (flawB l n))

set_option maxHeartbeats 400000 in
theorem check_any (l : Lk) (n : Int) (w : World) :
    Calls Try.prog 8 #[.agg #[.int .i64 l.a, .int .i64 l.b, .int .i64 l.c, .int .i64 l.d, .int .i64 l.e, .int .i64 l.f, .int .i64 l.g, .int .i64 l.h], .int .i64 n] w fun e w' => e = .returned (.int .i64 (if okLink l n = true then 0 else 2)) ∧ Below w.heap.size w w' := by
  unfold okLink
  have eg : ∀ args w, (callFunc 28 args).run Try.prog w = .ok (.enter 28 args) w := enters_of Try.func28 (by kernel_rfl) rfl
  cases hq : wi n 1 16 with
  | false =>
    go_enter Try.func8, Try.ntmps8
    go_wp2_with (go_at_call 25; refine (within_int _ _ _ _).mono ?_; rintro e w' ⟨rfl, rfl⟩)
    go_ret
    exact ⟨by simp, bl_alloc (Below.refl _ _) _⟩
  | true =>
    have hn : 1 ≤ n ∧ n ≤ 16 := by simpa [wi] using hq
    have hh := has_fl 28 #[.pointer (some ⟨w.heap.size, 0, none⟩)] eg (w.heap.size + 2) 0 4 4 (flawV (w.heap.size + 1)) (flawB l n)
      (((w.alloc (.cells #[.int .i64 l.a, .int .i64 l.b, .int .i64 l.c, .int .i64 l.d, .int .i64 l.e, .int .i64 l.f, .int .i64 l.g, .int .i64 l.h] 23)).alloc (.cells #[.int .i64 n] 3)).alloc (.cells #[.func (.func 42) #[] #[.pointer (some ⟨w.heap.size + 1, 0, none⟩)], .func (.func 43) #[] #[], .func (.func 45) #[] #[], .func (.func 46) #[] #[]] 68))
      (by omega)
      (fun j hj => by
        match j, hj with
        | 0, _ => unfold flawV; go_simp
        | 1, _ => unfold flawV; go_simp
        | 2, _ => unfold flawV; go_simp
        | 3, _ => unfold flawV; go_simp)
      (fun W j hj hW => (check1 l n w.heap.size (w.heap.size + 1) j W (LkAt.below (by unfold LkAt; go_simp) hW) (bl_cell hW (by go_simp)) hn.1 hn.2 hj).mono fun e w' ⟨he, hb⟩ => ⟨he, hW.trans (hb.mono hW.size)⟩)
    generalize (List.range 4).any (flawB l n) = q at hh
    go_enter Try.func8, Try.ntmps8
    cases q
    all_goals
      go_wp2_with (first | (go_at_call 25; refine (within_int _ _ _ _).mono ?_; rintro e w' ⟨rfl, rfl⟩) | (go_at_call 27; refine (flaws_any _ _).mono ?_; rintro e w' ⟨rfl, rfl⟩) | (go_at_call 26; refine hh.mono ?_; rintro e w' ⟨rfl, hb⟩))
      go_ret
      exact ⟨by simp, (bl_alloc (bl_alloc (bl_alloc (Below.refl _ _) _) _) _).trans (hb.mono (by simp; omega))⟩
end Go.Proofs.Ytfifmkjidljeeaa
