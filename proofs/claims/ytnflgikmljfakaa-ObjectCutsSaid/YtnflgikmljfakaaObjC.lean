/- Object: may, the document's Right. -/
import Derived.Test.YtnflgikmljfakaaObjB
import Derived.Deep.QuietTactic
import Derived.Shelf.GgClosure.Gives
import Derived.Shelf.SlicesQ.Load
import Derived.Laws.EntriesVeiled
import Derived.IntWalk
namespace Go.Proofs.Ytnflgikmljfakaa
open Go.RowKit Go.Shelf
set_option linter.unusedVariables false
set_option linter.unusedSimpArgs false
attribute [local go_sem] Oper.semAt_some
def wordB (n : Int) : Bool := wiB n 0 4294967295
theorem may1_any (n : Int) (w : World) : Calls Try.prog 32 #[.int .i64 n] w fun e w' => e = .returned (.bool (!wordB n)) ∧ Below w.heap.size w w' := by
  go_enter Try.func32, Try.ntmps32
  go_wp2_with (go_at_call 33; refine (within64_any _ _ _ _).mono ?_; rintro e w' ⟨rfl, rfl⟩)
  go_ret
  exact ⟨rfl, Below.refl _ _⟩
theorem en_may1 : ∀ args w, (callFunc 32 args).run Try.prog w = .ok (.enter 32 args) w := enters_of Try.func32 (by kernel_rfl) rfl
set_option maxHeartbeats 400000 in
/-- slices.IndexFunc at elements of one cell: the first place at which it is so, or -1. -/
theorem idx_i64 (g : Nat) (lb : Array Value) (eg : ∀ args w, (callFunc g args).run Try.prog w = .ok (.enter g args) w) (b off n c : Nat) (vs : Nat → Value) (p : Nat → Bool) (w : World) (hbig : n ≤ 9223372036854775807)
    (hc : ∀ j, j < n → w.cell? ⟨b, off + j, none⟩ = some (vs j)) (hp : ∀ W j, j < n → Below w.heap.size w W → Calls Try.prog g (#[vs j] ++ lb) W fun e w' => e = .returned (.bool (p j)) ∧ Below w.heap.size w w') :
    Calls Try.prog 46 #[.slice (some ⟨b, off, none⟩) n c, .func (.func g) #[] lb] w fun e w' => ∃ r : Int, e = .returned (.int .i64 r) ∧ IdxIs p n r ∧ Below w.heap.size w w' := by
  have hcW : ∀ (W : World), Below w.heap.size w W → ∀ j, j < n → W.cell? ⟨b, off + j, none⟩ = some (vs j) := fun W hW j hj => bl_cell hW (hc j hj)
  clear hc
  go_enter Try.func46, Try.ntmps46
  go_wp2
  go_loopg [5, 8] n (fun gg _ s8 wr => ∃ kk : Nat, kk ≤ n ∧ n - kk ≤ gg ∧ s8 = .int .i64 kk ∧ Aside (Below w.heap.size w wr) ∧ Aside (∀ j, j < kk → p j = false))
  case atStart => exact ⟨0, Nat.zero_le _, by omega, rfl, Below.refl _ w, fun j hj => absurd hj (Nat.not_lt_zero _)⟩
  case round =>
    obtain ⟨kk, hkk, hg, rfl, BW, A⟩ := hrel
    by_cases hlt : kk < n
    · have hltz : (kk : Int) < (n : Int) := by omega
      have l2 := hcW wr BW.out kk hlt
      have hcall := hp wr kk hlt BW.out
      clear hcW hp
      generalize vs kk = y at l2 hcall
      cases hq : p kk with
      | true =>
        rw [hq] at hcall
        have HQ := Lib.hid hq
        clear hq
        go_wp2_with (go_at_fn g; refine hcall.mono ?_; rintro e w' ⟨rfl, hb'⟩)
        go_ret
        exact ⟨_, rfl, Or.inr ⟨kk, hlt, rfl, HQ.out, A.out⟩, hb'⟩
      | false =>
        rw [hq] at hcall
        have HQ := Lib.hid hq
        clear hq
        go_wp2_with (go_at_fn g; refine hcall.mono ?_; rintro e w' ⟨rfl, hb'⟩)
        go_roundg (n - (kk + 1))
        case measure => omega
        case rel =>
          refine ⟨kk + 1, by omega, by omega, by go_num, hb', (show Aside _ from fun j hj => ?_)⟩
          by_cases e : j = kk
          · subst e
            exact HQ.out
          · exact A.out j (by omega)
    · have hltz : ¬ (kk : Int) < (n : Int) := by omega
      have : kk = n := by omega
      subst this
      go_wp2
      go_ret
      exact ⟨_, rfl, Or.inl ⟨rfl, A.out⟩, BW.out⟩

set_option maxHeartbeats 400000 in
/-- slices.ContainsFunc at elements of one cell. -/
theorem has_i64 (g : Nat) (lb : Array Value) (eg : ∀ args w, (callFunc g args).run Try.prog w = .ok (.enter g args) w) (b off n c : Nat) (vs : Nat → Value) (p : Nat → Bool) (w : World) (hbig : n ≤ 9223372036854775807)
    (hc : ∀ j, j < n → w.cell? ⟨b, off + j, none⟩ = some (vs j)) (hp : ∀ W j, j < n → Below w.heap.size w W → Calls Try.prog g (#[vs j] ++ lb) W fun e w' => e = .returned (.bool (p j)) ∧ Below w.heap.size w w') :
    Calls Try.prog 35 #[.slice (some ⟨b, off, none⟩) n c, .func (.func g) #[] lb] w fun e w' => e = .returned (.bool ((List.range n).any p)) ∧ Below w.heap.size w w' := by
  have H := idx_i64 g lb eg b off n c vs p w hbig hc hp
  clear hc hp
  go_enter Try.func35, Try.ntmps35
  go_wp2_with (go_at_call 46; refine H.mono ?_; rintro e w' ⟨r, rfl, hr, hb'⟩; have HR := Lib.hid hr; clear hr)
  go_ret
  exact ⟨by rw [← HR.out.any]; rfl, hb'⟩

theorem any_range_i64 {α : Type} (xs : List α) (d : α) (p : α → Bool) : (List.range xs.length).any (fun j => p (xs.getD j d)) = xs.any p := by
  rw [Bool.eq_iff_iff, List.any_eq_true, List.any_eq_true]
  constructor
  · rintro ⟨j, hj, h⟩
    have hj := List.mem_range.1 hj
    exact ⟨xs[j], List.getElem_mem _, by simpa [List.getD, hj] using h⟩
  · rintro ⟨x, hx, h⟩
    obtain ⟨j, hj, rfl⟩ := List.mem_iff_getElem.1 hx
    exact ⟨j, List.mem_range.2 hj, by simpa [List.getD, hj] using h⟩
set_option maxHeartbeats 400000 in
theorem idxnil_i64 (fv : Value) (w : World) :
    Calls Try.prog 46 #[.slice none 0 0, fv] w fun e w' => e = .returned (.int .i64 (-1)) ∧ w = w' := by
  go_enter Try.func46, Try.ntmps46
  go_wp2
  go_loopg [5, 8] 0 (fun _ _ s8 wr => s8 = .int .i64 0 ∧ w = wr)
  case atStart => exact ⟨rfl, rfl⟩
  case round =>
    obtain ⟨rfl, rfl⟩ := hrel
    go_wp2
    go_ret
    exact ⟨rfl, rfl⟩
set_option maxHeartbeats 400000 in
/-- slices.ContainsFunc over a slice of one-cell things, nil too. -/
theorem any_i64 {α : Type} (ev : α → Value) (d : α) (g : Nat) (lb : Array Value) (eg : ∀ args w, (callFunc g args).run Try.prog w = .ok (.enter g args) w) (v : Value) (xs : List α) (p : α → Bool) (w : World)
    (hs : SAt (fun x => [ev x]) 1 w v xs) (hp : ∀ W x, x ∈ xs → Below w.heap.size w W → Calls Try.prog g (#[ev x] ++ lb) W fun e w' => e = .returned (.bool (p x)) ∧ Below W.heap.size W w') :
    Calls Try.prog 35 #[v, .func (.func g) #[] lb] w fun e w' => e = .returned (.bool (xs.any p)) ∧ Below w.heap.size w w' := by
  have hlen := hs.len
  rcases hs with ⟨rfl, rfl⟩ | ⟨b, o, c, rfl, _, _, hrow⟩
  · go_enter Try.func35, Try.ntmps35
    go_wp2_with (go_at_call 46; refine (idxnil_i64 _ _).mono ?_; rintro e w' ⟨rfl, rfl⟩)
    go_ret
    exact ⟨rfl, Below.refl _ _⟩
  · unfold maxLen at hlen
    have hget : ∀ j, j < xs.length → xs[j]? = some (xs.getD j d) := fun j hj => by simp [List.getD, hj]
    rw [← any_range_i64 xs d p]
    exact has_i64 g lb eg b o xs.length c (fun j => ev (xs.getD j d)) (fun j => p (xs.getD j d)) w (by omega) (fun j hj => by simpa using hrow j _ (hget j hj) 0 _ rfl)
      (fun W j hj hW => (hp W (xs.getD j d) (List.mem_of_getElem? (hget j hj)) hW).mono fun e w' ⟨he, hb⟩ => ⟨he, hW.trans (hb.mono hW.size)⟩)

def mayB (q : Ob) : Bool := wiB q.c 0 255 && (wiB q.t 0 255 && (wiB q.ws.length 1 64 && q.ws.all wordB))
theorem any_not (ws : List Int) : (!(ws.any fun n => !wordB n)) = ws.all wordB := by
  rw [List.not_any_eq_all_not]
  simp
set_option maxRecDepth 100000 in
set_option maxHeartbeats 1000000 in
theorem may_any (q : Ob) (w : World) (h : WsAt w q.v q.ws) :
    Calls Try.prog 19 #[.agg #[.int .i64 q.c, .int .i64 q.t, q.v]] w fun e w' => e = .returned (.bool (mayB q)) ∧ Below w.heap.size w w' := by
  obtain ⟨v, c, t, ws⟩ := q
  dsimp only at h ⊢
  obtain ⟨A, cc, rfl⟩ := ws_form h
  have hb1 := bl_alloc (Below.refl w.heap.size w) (.cells #[.int .i64 c, .int .i64 t, .slice A ws.length cc] 32)
  have HB1 := Lib.hid hb1
  have HWS := Lib.hid (ws_below h hb1)
  unfold mayB
  dsimp only
  clear h hb1
  cases h1 : wiB c 0 255 with
  | false =>
    go_enter Try.func19, Try.ntmps19
    go_wp2_with (go_at_call 34; refine (within_any _ _ _ _).mono ?_; rintro e w' ⟨rfl, rfl⟩)
    go_ret
    exact ⟨by simp, HB1.out⟩
  | true =>
    cases h2 : wiB t 0 255 with
    | false =>
      go_enter Try.func19, Try.ntmps19
      go_wp2_with (go_at_call 34; refine (within_any _ _ _ _).mono ?_; rintro e w' ⟨rfl, rfl⟩)
      go_ret
      exact ⟨by simp, HB1.out⟩
    | true =>
      cases h3 : wiB ws.length 1 64 with
      | false =>
        go_enter Try.func19, Try.ntmps19
        go_wp2_with (go_at_call 34; refine (within_any _ _ _ _).mono ?_; rintro e w' ⟨rfl, rfl⟩)
        go_ret
        exact ⟨by simp, HB1.out⟩
      | true =>
        have hpos : 0 < ws.length := by unfold wiB at h3; simp at h3; omega
        obtain ⟨b, o, c2, hv, hrow⟩ := ws_sat HWS.out hpos
        have hlen := ws_len HWS.out
        have hs : SAt iC 1 (w.alloc (.cells #[.int .i64 c, .int .i64 t, .slice A ws.length cc] 32)) (.slice A ws.length cc) ws := by
          rcases HWS.out with h | ⟨A', c', -, rfl⟩
          · exact h
          · simp at hpos
        have HA := Lib.hid (any_i64 (fun n => .int .i64 n) 0 32 #[] en_may1 (.slice A ws.length cc) ws (fun n => !wordB n) _ hs (fun W x _ _ => may1_any x W))
        clear hpos hv hrow hlen hs
        go_enter Try.func19, Try.ntmps19
        go_wp2_with (first | (go_at_call 34; refine (within_any _ _ _ _).mono ?_; rintro e w' ⟨rfl, rfl⟩) | (go_at_call 35; refine HA.out.mono ?_; rintro e w' ⟨rfl, hb⟩; have HB2 := Lib.hid (bl_then HB1.out hb); clear hb))
        go_ret
        exact ⟨by rw [any_not]; simp, HB2.out⟩
theorem raw1_any (q : Ob) (w : World) (h : WsAt w q.v q.ws) :
    Calls Try.prog 18 #[.agg #[.int .i64 q.c, .int .i64 q.t, q.v]] w fun e w' => e = .returned (.bool (!mayB q)) ∧ Below w.heap.size w w' := by
  obtain ⟨A, cc, hv⟩ := ws_form h
  have hb1 := bl_alloc (Below.refl w.heap.size w) (.cells #[.int .i64 q.c, .int .i64 q.t, .slice A q.ws.length cc] 32)
  have HM := Lib.hid (may_any q _ (ws_below h hb1))
  have HB1 := Lib.hid hb1
  rw [hv] at HM ⊢
  clear h hb1
  go_enter Try.func18, Try.ntmps18
  go_wp2_with (go_at_call 19; refine HM.out.mono ?_; rintro e w' ⟨rfl, hb⟩)
  go_ret
  exact ⟨rfl, bl_then HB1.out hb⟩
theorem en_raw1 : ∀ args w, (callFunc 18 args).run Try.prog w = .ok (.enter 18 args) w := enters_of Try.func18 (by kernel_rfl) rfl
set_option maxHeartbeats 400000 in
/-- slices.IndexFunc at structs: the first place at which it is so, or -1. -/
theorem idx_ob (g : Nat) (lb : Array Value) (eg : ∀ args w, (callFunc g args).run Try.prog w = .ok (.enter g args) w) (b off n c : Nat) (vs : Nat → Ob) (p : Nat → Bool) (w : World) (hbig : n ≤ 9223372036854775807)
    (hc : ∀ j, j < n → ObAt w b (off + j * 3) (vs j)) (hp : ∀ W j, j < n → Below w.heap.size w W → Calls Try.prog g (#[(vs j).val] ++ lb) W fun e w' => e = .returned (.bool (p j)) ∧ Below w.heap.size w w') :
    Calls Try.prog 31 #[.slice (some ⟨b, off, none⟩) n c, .func (.func g) #[] lb] w fun e w' => ∃ r : Int, e = .returned (.int .i64 r) ∧ IdxIs p n r ∧ Below w.heap.size w w' := by
  have hcW : ∀ (W : World), Below w.heap.size w W → ∀ j, j < n → ObAt W b (off + j * 3) (vs j) := fun W hW j hj => (hc j hj).below hW
  clear hc
  go_enter Try.func31, Try.ntmps31
  go_wp2
  go_loopg [5, 8] n (fun gg _ s8 wr => ∃ kk : Nat, kk ≤ n ∧ n - kk ≤ gg ∧ s8 = .int .i64 kk ∧ Aside (Below w.heap.size w wr) ∧ Aside (∀ j, j < kk → p j = false))
  case atStart => exact ⟨0, Nat.zero_le _, by omega, rfl, Below.refl _ w, fun j hj => absurd hj (Nat.not_lt_zero _)⟩
  case round =>
    obtain ⟨kk, hkk, hg, rfl, BW, A⟩ := hrel
    by_cases hlt : kk < n
    · have hltz : (kk : Int) < (n : Int) := by omega
      have l2 := hcW wr BW.out kk hlt
      have hcall := hp wr kk hlt BW.out
      clear hcW hp
      generalize vs kk = y at l2 hcall
      simp only [Ob.val] at hcall
      obtain ⟨c0, c1, c2⟩ := l2
      cases hq : p kk with
      | true =>
        rw [hq] at hcall
        have HQ := Lib.hid hq
        clear hq
        go_wp2_with (go_at_fn g; refine hcall.mono ?_; rintro e w' ⟨rfl, hb'⟩)
        go_ret
        exact ⟨_, rfl, Or.inr ⟨kk, hlt, rfl, HQ.out, A.out⟩, hb'⟩
      | false =>
        rw [hq] at hcall
        have HQ := Lib.hid hq
        clear hq
        go_wp2_with (go_at_fn g; refine hcall.mono ?_; rintro e w' ⟨rfl, hb'⟩)
        go_roundg (n - (kk + 1))
        case measure => omega
        case rel =>
          refine ⟨kk + 1, by omega, by omega, by go_num, hb', (show Aside _ from fun j hj => ?_)⟩
          by_cases e : j = kk
          · subst e
            exact HQ.out
          · exact A.out j (by omega)
    · have hltz : ¬ (kk : Int) < (n : Int) := by omega
      have : kk = n := by omega
      subst this
      go_wp2
      go_ret
      exact ⟨_, rfl, Or.inl ⟨rfl, A.out⟩, BW.out⟩

set_option maxHeartbeats 400000 in
theorem idxnil_ob (fv : Value) (w : World) :
    Calls Try.prog 31 #[.slice none 0 0, fv] w fun e w' => e = .returned (.int .i64 (-1)) ∧ w = w' := by
  go_enter Try.func31, Try.ntmps31
  go_wp2
  go_loopg [5, 8] 0 (fun _ _ s8 wr => s8 = .int .i64 0 ∧ w = wr)
  case atStart => exact ⟨rfl, rfl⟩
  case round =>
    obtain ⟨rfl, rfl⟩ := hrel
    go_wp2
    go_ret
    exact ⟨rfl, rfl⟩

set_option maxHeartbeats 400000 in
/-- slices.ContainsFunc at structs. -/
theorem has_ob (g : Nat) (lb : Array Value) (eg : ∀ args w, (callFunc g args).run Try.prog w = .ok (.enter g args) w) (b off n c : Nat) (vs : Nat → Ob) (p : Nat → Bool) (w : World) (hbig : n ≤ 9223372036854775807)
    (hc : ∀ j, j < n → ObAt w b (off + j * 3) (vs j)) (hp : ∀ W j, j < n → Below w.heap.size w W → Calls Try.prog g (#[(vs j).val] ++ lb) W fun e w' => e = .returned (.bool (p j)) ∧ Below w.heap.size w w') :
    Calls Try.prog 17 #[.slice (some ⟨b, off, none⟩) n c, .func (.func g) #[] lb] w fun e w' => e = .returned (.bool ((List.range n).any p)) ∧ Below w.heap.size w w' := by
  have H := idx_ob g lb eg b off n c vs p w hbig hc hp
  clear hc hp
  go_enter Try.func17, Try.ntmps17
  go_wp2_with (go_at_call 31; refine H.mono ?_; rintro e w' ⟨r, rfl, hr, hb'⟩; have HR := Lib.hid hr; clear hr)
  go_ret
  exact ⟨by rw [← HR.out.any]; rfl, hb'⟩

theorem any_range_ob (xs : List Ob) (d : Ob) (p : Ob → Bool) : (List.range xs.length).any (fun j => p (xs.getD j d)) = xs.any p := by
  rw [Bool.eq_iff_iff, List.any_eq_true, List.any_eq_true]
  constructor
  · rintro ⟨j, hj, h⟩
    have hj := List.mem_range.1 hj
    exact ⟨xs[j], List.getElem_mem _, by simpa [List.getD, hj] using h⟩
  · rintro ⟨x, hx, h⟩
    obtain ⟨j, hj, rfl⟩ := List.mem_iff_getElem.1 hx
    exact ⟨j, List.mem_range.2 hj, by simpa [List.getD, hj] using h⟩

set_option maxHeartbeats 400000 in
/-- slices.ContainsFunc over a slice of structs, nil too. -/
theorem any_ob (g : Nat) (lb : Array Value) (eg : ∀ args w, (callFunc g args).run Try.prog w = .ok (.enter g args) w) (v : Value) (xs : List Ob) (p : Ob → Bool) (w : World)
    (hs : SAt Ob.cells 3 w v xs) (hp : ∀ W x, x ∈ xs → Below w.heap.size w W → Calls Try.prog g (#[Ob.val x] ++ lb) W fun e w' => e = .returned (.bool (p x)) ∧ Below W.heap.size W w') :
    Calls Try.prog 17 #[v, .func (.func g) #[] lb] w fun e w' => e = .returned (.bool (xs.any p)) ∧ Below w.heap.size w w' := by
  have hlen := hs.len
  rcases hs with ⟨rfl, rfl⟩ | ⟨b, o, c, rfl, _, _, hrow⟩
  · go_enter Try.func17, Try.ntmps17
    go_wp2_with (go_at_call 31; refine (idxnil_ob _ _).mono ?_; rintro e w' ⟨rfl, rfl⟩)
    go_ret
    exact ⟨rfl, Below.refl _ _⟩
  · unfold maxLen at hlen
    have hget : ∀ j, j < xs.length → xs[j]? = some (xs.getD j Ob0) := fun j hj => by simp [List.getD, hj]
    rw [← any_range_ob xs Ob0 p]
    exact has_ob g lb eg b o xs.length c (fun j => xs.getD j Ob0) (fun j => p (xs.getD j Ob0)) w (by omega) (fun j hj => ObAt.ofRow hrow (hget j hj))
      (fun W j hj hW => (hp W (xs.getD j Ob0) (List.mem_of_getElem? (hget j hj)) hW).mono fun e w' ⟨he, hb⟩ => ⟨he, hW.trans (hb.mono hW.size)⟩)

/-- Is there one that may not be? -/
theorem bad_any (V : Value) (qs : List Ob) (w : World) (h : ObsAt w V qs) :
    Calls Try.prog 17 #[V, .func (.func 18) #[] #[]] w fun e w' => e = .returned (.bool (qs.any fun q => !mayB q)) ∧ Below w.heap.size w w' :=
  any_ob 18 #[] en_raw1 V qs (fun q => !mayB q) w h.1 (fun W x hx hW => raw1_any x W (ws_below (h.2 x hx) hW))
end Go.Proofs.Ytnflgikmljfakaa
