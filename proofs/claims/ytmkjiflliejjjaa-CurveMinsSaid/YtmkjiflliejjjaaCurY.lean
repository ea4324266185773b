/- Curve: right, Min, Below. -/
import Derived.Test.YtmkjiflliejjjaaCurX
namespace Go.Proofs.Ytmkjiflliejjjaa
open Go.RowKit Go.Shelf Go.Sort
set_option linter.unusedVariables false
set_option linter.unusedSimpArgs false
attribute [local go_sem] Oper.semAt_some

set_option maxHeartbeats 400000 in
/-- slices.IndexFunc at elements of one cell: the first place at which it is so, or -1. -/
theorem idx_cv (g : Nat) (lb : Array Value) (eg : ∀ args w, (callFunc g args).run Try.prog w = .ok (.enter g args) w) (b off n c : Nat) (vs : Nat → Value) (p : Nat → Bool) (w : World) (hbig : n ≤ 9223372036854775807)
    (hc : ∀ j, j < n → w.cell? ⟨b, off + j, none⟩ = some (vs j)) (hp : ∀ W j, j < n → Below w.heap.size w W → Calls Try.prog g (#[vs j] ++ lb) W fun e w' => e = .returned (.bool (p j)) ∧ Below w.heap.size w w') :
    Calls Try.prog 73 #[.slice (some ⟨b, off, none⟩) n c, .func (.func g) #[] lb] w fun e w' => ∃ r : Int, e = .returned (.int .i64 r) ∧ IdxIs p n r ∧ Below w.heap.size w w' := by
  have hcW : ∀ (W : World), Below w.heap.size w W → ∀ j, j < n → W.cell? ⟨b, off + j, none⟩ = some (vs j) := fun W hW j hj => bl_cell hW (hc j hj)
  clear hc
  go_enter Try.func73, Try.ntmps73
  go_wp2
  go_loopg [5, 8] n (fun gg _ s8 wr => ∃ kk : Nat, kk ≤ n ∧ n - kk ≤ gg ∧ s8 = .int .i64 kk ∧ Aside (Below w.heap.size w wr) ∧ Aside (∀ j, j < kk → p j = false))
  case atStart => exact ⟨0, Nat.zero_le _, by omega, rfl, Below.refl _ w, fun j hj => absurd hj (Nat.not_lt_zero _)⟩
  case round =>
    obtain ⟨kk, hkk, hg, rfl, BW, A⟩ := hrel
    by_cases hlt : kk < n
    · have hltz : (kk : Int) < (n : Int) := by omega
      have l2 := hcW wr BW.out kk hlt
      have hcall := hp wr kk hlt BW.out
      clear hcW hp
      generalize vs kk = y at l2 hcall
      cases hq : p kk with
      | true =>
        rw [hq] at hcall
        have HQ := Lib.hid hq
        clear hq
        go_wp2_with (go_at_fn g; refine hcall.mono ?_; rintro e w' ⟨rfl, hb'⟩)
        go_ret
        exact ⟨_, rfl, Or.inr ⟨kk, hlt, rfl, HQ.out, A.out⟩, hb'⟩
      | false =>
        rw [hq] at hcall
        have HQ := Lib.hid hq
        clear hq
        go_wp2_with (go_at_fn g; refine hcall.mono ?_; rintro e w' ⟨rfl, hb'⟩)
        go_roundg (n - (kk + 1))
        case measure => omega
        case rel =>
          refine ⟨kk + 1, by omega, by omega, by go_num, hb', (show Aside _ from fun j hj => ?_)⟩
          by_cases e : j = kk
          · subst e
            exact HQ.out
          · exact A.out j (by omega)
    · have hltz : ¬ (kk : Int) < (n : Int) := by omega
      have : kk = n := by omega
      subst this
      go_wp2
      go_ret
      exact ⟨_, rfl, Or.inl ⟨rfl, A.out⟩, BW.out⟩

set_option maxHeartbeats 400000 in
/-- slices.ContainsFunc at elements of one cell. -/
theorem has_cv (g : Nat) (lb : Array Value) (eg : ∀ args w, (callFunc g args).run Try.prog w = .ok (.enter g args) w) (b off n c : Nat) (vs : Nat → Value) (p : Nat → Bool) (w : World) (hbig : n ≤ 9223372036854775807)
    (hc : ∀ j, j < n → w.cell? ⟨b, off + j, none⟩ = some (vs j)) (hp : ∀ W j, j < n → Below w.heap.size w W → Calls Try.prog g (#[vs j] ++ lb) W fun e w' => e = .returned (.bool (p j)) ∧ Below w.heap.size w w') :
    Calls Try.prog 64 #[.slice (some ⟨b, off, none⟩) n c, .func (.func g) #[] lb] w fun e w' => e = .returned (.bool ((List.range n).any p)) ∧ Below w.heap.size w w' := by
  have H := idx_cv g lb eg b off n c vs p w hbig hc hp
  clear hc hp
  go_enter Try.func64, Try.ntmps64
  go_wp2_with (go_at_call 73; refine H.mono ?_; rintro e w' ⟨r, rfl, hr, hb'⟩; have HR := Lib.hid hr; clear hr)
  go_ret
  exact ⟨by rw [← HR.out.any]; rfl, hb'⟩

theorem any_range_cv {α : Type} (xs : List α) (d : α) (p : α → Bool) : (List.range xs.length).any (fun j => p (xs.getD j d)) = xs.any p := by
  rw [Bool.eq_iff_iff, List.any_eq_true, List.any_eq_true]
  constructor
  · rintro ⟨j, hj, h⟩
    have hj := List.mem_range.1 hj
    exact ⟨xs[j], List.getElem_mem _, by simpa [List.getD, hj] using h⟩
  · rintro ⟨x, hx, h⟩
    obtain ⟨j, hj, rfl⟩ := List.mem_iff_getElem.1 hx
    exact ⟨j, List.mem_range.2 hj, by simpa [List.getD, hj] using h⟩
set_option maxHeartbeats 400000 in
theorem idxnil_cv (fv : Value) (w : World) :
    Calls Try.prog 73 #[.slice none 0 0, fv] w fun e w' => e = .returned (.int .i64 (-1)) ∧ w = w' := by
  go_enter Try.func73, Try.ntmps73
  go_wp2
  go_loopg [5, 8] 0 (fun _ _ s8 wr => s8 = .int .i64 0 ∧ w = wr)
  case atStart => exact ⟨rfl, rfl⟩
  case round =>
    obtain ⟨rfl, rfl⟩ := hrel
    go_wp2
    go_ret
    exact ⟨rfl, rfl⟩
set_option maxHeartbeats 400000 in
/-- slices.ContainsFunc over a slice of one-cell things, nil too. -/
theorem any_cv {α : Type} (ev : α → Value) (d : α) (g : Nat) (lb : Array Value) (eg : ∀ args w, (callFunc g args).run Try.prog w = .ok (.enter g args) w) (v : Value) (xs : List α) (p : α → Bool) (w : World)
    (hs : SAt (fun x => [ev x]) 1 w v xs) (hp : ∀ W x, x ∈ xs → Below w.heap.size w W → Calls Try.prog g (#[ev x] ++ lb) W fun e w' => e = .returned (.bool (p x)) ∧ Below W.heap.size W w') :
    Calls Try.prog 64 #[v, .func (.func g) #[] lb] w fun e w' => e = .returned (.bool (xs.any p)) ∧ Below w.heap.size w w' := by
  have hlen := hs.len
  rcases hs with ⟨rfl, rfl⟩ | ⟨b, o, c, rfl, _, _, hrow⟩
  · go_enter Try.func64, Try.ntmps64
    go_wp2_with (go_at_call 73; refine (idxnil_cv _ _).mono ?_; rintro e w' ⟨rfl, rfl⟩)
    go_ret
    exact ⟨rfl, Below.refl _ _⟩
  · unfold maxLen at hlen
    have hget : ∀ j, j < xs.length → xs[j]? = some (xs.getD j d) := fun j hj => by simp [List.getD, hj]
    rw [← any_range_cv xs d p]
    exact has_cv g lb eg b o xs.length c (fun j => ev (xs.getD j d)) (fun j => p (xs.getD j d)) w (by omega) (fun j hj => by simpa using hrow j _ (hget j hj) 0 _ rfl)
      (fun W j hj hW => (hp W (xs.getD j d) (List.mem_of_getElem? (hget j hj)) hW).mono fun e w' ⟨he, hb⟩ => ⟨he, hW.trans (hb.mono hW.size)⟩)


theorem en_right1 : ∀ args w, (callFunc 55 args).run Try.prog w = .ok (.enter 55 args) w := enters_of Try.func55 (by kernel_rfl) rfl
theorem en_eachc1 : ∀ args w, (callFunc 65 args).run Try.prog w = .ok (.enter 65 args) w := enters_of Try.func65 (by kernel_rfl) rfl
set_option maxHeartbeats 400000 in
theorem right1_any (v : Value) (c : List Ln) (w : World) (h : SAt Ln.cells 2 w v c) :
    Calls Try.prog 55 #[v] w fun e w' => e = .returned (.bool (okC c)) ∧ Below w.heap.size w w' := by
  have hc := check_any v c w h
  obtain ⟨A, cc, rfl⟩ := h.slice
  clear h
  cases hq : okC c
  all_goals
    rw [hq] at hc
    simp only [Bool.false_eq_true, if_false, if_true] at hc
    clear hq
    go_enter Try.func55, Try.ntmps55
    go_wp2_with (go_at_call 16; refine hc.mono ?_; rintro e w' ⟨rfl, hb⟩)
    go_ret
    exact ⟨rfl, hb⟩
set_option maxHeartbeats 400000 in
theorem eachc1_any (v : Value) (c : List Ln) (b : Nat) (w : World) (h : SAt Ln.cells 2 w v c) (hc : w.cell? ⟨b, 0, none⟩ = some (.func (.func 55) #[] #[])) :
    Calls Try.prog 65 #[v, .pointer (some ⟨b, 0, none⟩)] w fun e w' => e = .returned (.bool (!okC c)) ∧ Below w.heap.size w w' := by
  have eg := en_right1
  have hm := right1_any v c w h
  obtain ⟨A, cc, rfl⟩ := h.slice
  clear h
  generalize okC c = m at *
  go_enter Try.func65, Try.ntmps65
  go_wp2_with (go_at_call 55; refine hm.mono ?_; rintro e w' ⟨rfl, hb'⟩)
  go_ret
  exact ⟨rfl, hb'⟩
/-- Are there curves, and may each be? -/
def rightB (ps : List Cv) : Bool := decide (0 < ps.length) && !(ps.any fun p => !okC p.2)
theorem rightB_iff {ps : List Cv} : rightB ps = true ↔ ps ≠ [] ∧ ∀ p ∈ ps, okC p.2 = true := by
  unfold rightB
  rw [Bool.and_eq_true, decide_eq_true_eq, Bool.not_eq_true', List.any_eq_false]
  constructor
  · rintro ⟨h1, h2⟩
    exact ⟨by rintro rfl; simp at h1, fun l hl => by simpa using h2 l hl⟩
  · rintro ⟨h1, h2⟩
    exact ⟨List.length_pos_iff.2 h1, fun l hl => by simp [h2 l hl]⟩
theorem CvsAt.below {w W : World} {V : Value} {ps : List Cv} (h : CvsAt w V ps) (hb : Below w.heap.size w W) : CvsAt W V ps := ⟨h.1.below hb, fun p hp => (h.2 p hp).below hb⟩
set_option maxHeartbeats 400000 in
theorem eachc_any (V : Value) (ps : List Cv) (w : World) (h : CvsAt w V ps) :
    Calls Try.prog 54 #[V, .func (.func 55) #[] #[]] w fun e w' => e = .returned (.bool (rightB ps)) ∧ Below w.heap.size w w' := by
  have h2 := h.below (bl_alloc (Below.refl _ _) (.cells #[.func (.func 55) #[] #[]] 33))
  have hany := any_cv (fun p : Cv => p.1) (.bool false, []) 65 #[.pointer (some ⟨w.heap.size, 0, none⟩)] en_eachc1 V ps (fun p => !okC p.2) (w.alloc (.cells #[.func (.func 55) #[] #[]] 33)) h2.1
    (fun W x hx hW => eachc1_any x.1 x.2 w.heap.size W ((h2.2 x hx).below hW) (bl_cell hW (by go_simp)))
  have hlm := h.1.len
  unfold maxLen at hlm
  obtain ⟨A, c, rfl⟩ := h.1.slice
  unfold rightB
  generalize (ps.any fun p => !okC p.2) = q at *
  clear h h2
  by_cases hl : 0 < ps.length
  · have hlz : (0 : Int) < (ps.length : Int) := by omega
    go_enter Try.func54, Try.ntmps54
    go_wp2_with (go_at_call 64; refine hany.mono ?_; rintro e w' ⟨rfl, hb⟩)
    go_ret
    exact ⟨by simp [hl], bl_then (bl_alloc (Below.refl _ _) _) hb⟩
  · have hlz : ¬ (0 : Int) < (ps.length : Int) := by omega
    go_enter Try.func54, Try.ntmps54
    go_wp2_with fail
    go_ret
    exact ⟨by simp [hl], bl_alloc (Below.refl _ _) _⟩
set_option maxHeartbeats 400000 in
theorem right_any (V : Value) (ps : List Cv) (w : World) (h : CvsAt w V ps) :
    Calls Try.prog 41 #[V] w fun e w' => e = .returned (.bool (rightB ps)) ∧ Below w.heap.size w w' := by
  have he := eachc_any V ps w h
  obtain ⟨A, c, rfl⟩ := h.1.slice
  clear h
  generalize rightB ps = q at *
  go_enter Try.func41, Try.ntmps41
  go_wp2_with (go_at_call 54; refine he.mono ?_; rintro e w' ⟨rfl, hb⟩)
  go_ret
  exact ⟨rfl, hb⟩
theorem CvsAt.kept {w W : World} {V : Value} {ps : List Cv} (h : CvsAt w V ps) (hb : CellsKept w W) : CvsAt W V ps := ⟨h.1.kept hb, fun p hp => (h.2 p hp).kept hb⟩
theorem SeqStopsK.mono {α : Type} {F : Fence} {n : Nat} {P : Program} {g : Nat} {lb : Array Value} {encs : α → Array Value} {Kp Kp' : World → World → Prop} {S Sp : List α → Prop} {N : Nat} {w : World}
    (h : SeqStopsK F n P g lb encs Kp S Sp N w) (hk : ∀ A B, Kp' A B → Kp A B) : SeqStopsK F n P g lb encs Kp' S Sp N w := fun l J Jx W hW hJ hJx hY h0 =>
  h l J Jx W hW hJ hJx (fun pre x W1 hJ1 hlt => (hY pre x W1 hJ1 hlt).mono fun e W' hh => by
    rcases hh with ⟨a, b, c⟩ | hh
    · exact .inl ⟨a, b, hk _ _ c⟩
    · exact .inr hh) h0
theorem collect_lines (bs : Nat) (V : Value) (ps : List Cv) (w : World) (hbs : w.cell? ⟨bs, 0, none⟩ = some V) (h : CvsAt w V ps) (hl : (allLines ps).length ≤ 1000000) :
    Calls Try.prog 42 #[.func (.func 53) #[] #[.pointer (some ⟨bs, 0, none⟩)]] w fun e w' => (∃ v', e = .returned v' ∧ SAt Ln.cells 2 w' v' (allLines ps)) ∧ Below w.heap.size w w' := by
  have hst := lines_stops 8 (by omega) w.heap.size w.heap.size bs V ps w (Nat.le_refl _) hbs (fun X hX => h.kept (hX.kept (Below.refl _ _) (Nat.le_refl _) (Nat.le_refl _)))
  have hst2 := SeqStopsK.mono (Kp' := Below w.heap.size) hst (fun A B hb => KeepX.below hb (Nat.le_refl _))
  exact (callsIn_wide.1 (collect_ln Fence.wide 10 trivial trivial rfl (by omega) 53 #[.pointer (some ⟨bs, 0, none⟩)] trivial enc_lines1 _ _ _ w (by omega) hst2)).mono fun e w' ⟨v, xs, he, hx, hr, hb⟩ => by
    subst hx
    exact ⟨⟨v, he, SAt.ofOwn (enc := Ln.cells) (fun _ => rfl) rfl hr⟩, hb⟩
theorem all_fits {ps : List Cv} (h : rightB ps = true) : ∀ l ∈ allLines ps, mayB l = true := fun l hl => by
  unfold allLines at hl
  obtain ⟨p, hp, hl⟩ := List.mem_flatMap.1 hl
  exact (okC_may ((rightB_iff.1 h).2 p hp)).2.1 l hl
set_option maxHeartbeats 1000000 in
theorem min_any (V : Value) (ps : List Cv) (w : World) (h : CvsAt w V ps) (hl : (allLines ps).length ≤ 1000000) :
    Calls Try.prog 25 #[V] w fun e w' => (rightB ps = false ∧ e = .returned (.tuple #[.slice none 0 0, .int .i64 2]) ∧ Below w.heap.size w w') ∨ (rightB ps = true ∧ MadeIs (allLines ps) w e w') := by
  have he := right_any V ps w h
  have HALL := Lib.hid (@all_fits ps)
  have H := Lib.hid h
  obtain ⟨A, c, rfl⟩ := h.1.slice
  clear h
  obtain ⟨R, hR⟩ : ∃ R : Ending → World → Prop, R = fun e w' => (rightB ps = false ∧ e = .returned (.tuple #[.slice none 0 0, .int .i64 2]) ∧ Below w.heap.size w w') ∨ (rightB ps = true ∧ MadeIs (allLines ps) w e w') := ⟨_, rfl⟩
  rw [← hR]
  have HR := Lib.hid hR
  clear hR
  cases hq : rightB ps with
  | false =>
    rw [hq] at he
    have HQ := Lib.hid hq
    clear hq
    go_enter Try.func25, Try.ntmps25
    go_wp2_with (go_at_call 41; refine he.mono ?_; rintro e w' ⟨rfl, hb⟩)
    rw [HR.out]
    exact .inl ⟨HQ.out, rfl, hb⟩
  | true =>
    rw [hq] at he
    have HQ := Lib.hid hq
    clear hq
    go_enter Try.func25, Try.ntmps25
    go_wp2_with (first | (go_at_call 41; refine he.mono ?_; rintro e w1 ⟨rfl, hb⟩; have HB1 := Lib.hid hb; clear hb) | (go_at_call 40; refine (lines_any _ _ _ _).mono ?_; rintro e w2 ⟨rfl, hw2⟩; have HW2 := Lib.hid hw2; clear hw2))
    have hb2 : Below w1.heap.size w1 w2 := by rw [HW2.out]; exact bl_alloc (Below.refl _ _) _
    have hcell : w2.cell? ⟨w1.heap.size, 0, none⟩ = some (.slice A ps.length c) := by rw [HW2.out]; go_simp
    refine (collect_lines w1.heap.size _ ps w2 hcell (H.out.below (bl_then HB1.out hb2)) hl).mono ?_
    rintro e w3 ⟨⟨v3, rfl, hs3⟩, hb3⟩
    have HB3 := Lib.hid (bl_then HB1.out (bl_then hb2 hb3))
    have hmade := made_any v3 (allLines ps) w3 hs3 (fun l hl => fits_of (HALL.out HQ.out l hl)) hl
    obtain ⟨A3, c3, rfl⟩ := hs3.slice
    have HM := Lib.hid hmade
    clear hmade hs3 hb3 hb2 hcell HW2
    go_wp2_with fail
    refine HM.out.mono ?_
    rintro e w4 hm
    obtain ⟨⟨hmb, v4, rfl, hs4⟩ | ⟨hmb, rfl⟩, hb4⟩ := made_is hm
    · have HF := Lib.hid (And.intro hmb (And.intro hs4 hb4))
      clear hm hmb hs4 hb4
      go_wp2_with fail
      rw [HR.out]
      exact .inr ⟨HQ.out, .inl ⟨HF.out.1, _, rfl, HF.out.2.1⟩, bl_then HB3.out HF.out.2.2⟩
    · have HF := Lib.hid (And.intro hmb hb4)
      clear hm hmb hb4
      go_wp2_with fail
      rw [HR.out]
      exact .inr ⟨HQ.out, .inr ⟨HF.out.1, rfl⟩, bl_then HB3.out HF.out.2⟩
theorem cvs_new (w : World) (ps : List Cv) {b n : Nat} {v : Value} {cells : Array Value} (e : TypeId) (hb : b = w.heap.size) (hn : n = ps.length) (hv : v = .slice (some ⟨b, 0, none⟩) n n) (hc : cells = (ps.flatMap Cv.cells).toArray) (hm : ps.length ≤ maxLen) (h : ∀ p ∈ ps, SAt Ln.cells 2 w p.1 p.2) : CvsAt (w.alloc (.cells cells e)) v ps := by
  subst hv hb hn
  exact ⟨Or.inr ⟨_, 0, _, rfl, Nat.le_refl _, hm, rowAt_new (enc := Cv.cells) (k := 1) (fun _ => rfl) w e ps rfl hc⟩, fun p hp => (h p hp).below (bl_alloc (Below.refl _ _) _)⟩
theorem all_two (va vb : Value) (a b : List Ln) : allLines [(va, a), (vb, b)] = a ++ b := by simp [allLines]
theorem right_two (va vb : Value) (a b : List Ln) : rightB [(va, a), (vb, b)] = (okC a && okC b) := by
  unfold rightB
  simp only [List.length_cons, List.length_nil, List.any_cons, List.any_nil]
  cases okC a <;> cases okC b <;> rfl
/-- What Below tells. -/
def belowR (a b : List Ln) : Bool × Int := if okC a && okC b then (decide (lowL (a ++ b) = a), 0) else (false, 2)
set_option maxHeartbeats 1000000 in
theorem below_any (va vb : Value) (a b : List Ln) (w : World) (ha : SAt Ln.cells 2 w va a) (hb : SAt Ln.cells 2 w vb b) (hl : (a ++ b).length ≤ 1000000) :
    Calls Try.prog 24 #[va, vb] w fun e w' => e = .returned (.tuple #[.bool (belowR a b).1, .int .i64 (belowR a b).2]) ∧ Below w.heap.size w w' := by
  have hcv : ∀ W T, Below w.heap.size w W → CvsAt (W.alloc (.cells #[va, vb] T)) (.slice (some ⟨W.heap.size, 0, none⟩) 2 2) [(va, a), (vb, b)] := fun W T hW => cvs_new W _ T rfl rfl rfl (by simp [Cv.cells]) (by simp [maxLen]) (by simpa using ⟨ha.below hW, hb.below hW⟩)
  have he := fun W T hW => right_any _ _ _ (hcv W T hW)
  have HALL := Lib.hid (@all_fits [(va, a), (vb, b)])
  rw [all_two, right_two] at HALL
  simp only [right_two] at he
  have HCV := Lib.hid hcv
  have HA := Lib.hid ha
  obtain ⟨A, c, rfl⟩ := ha.slice
  obtain ⟨B, d, rfl⟩ := hb.slice
  clear ha hb hcv
  cases hq : okC a && okC b with
  | false =>
    have hbr : belowR a b = (false, 2) := by unfold belowR; rw [hq]; rfl
    rw [hbr]
    simp only [hq] at he
    have HE := Lib.hid he
    clear hq he hbr
    go_enter Try.func24, Try.ntmps24
    go_wp2_with (go_at_call 41; refine (HE.out _ _ (Below.refl _ _)).mono ?_; rintro e w' ⟨rfl, hb⟩)
    go_ret2
    exact ⟨rfl, bl_then (bl_alloc (Below.refl _ _) _) hb⟩
  | true =>
    have hbr : belowR a b = (decide (lowL (a ++ b) = a), 0) := by unfold belowR; rw [hq]; rfl
    rw [hbr]
    simp only [hq] at he
    have HE := Lib.hid he
    have hfit := HALL.out hq
    have HFIT := Lib.hid hfit
    obtain ⟨L, hL⟩ : ∃ L, L = a ++ b := ⟨_, rfl⟩
    rw [← hL] at HFIT hl
    rw [← hL]
    obtain ⟨q, hqq⟩ : ∃ q, q = decide (lowL L = a) := ⟨_, rfl⟩
    rw [← hqq]
    have HLL := Lib.hid hL
    have HQQ := Lib.hid hqq
    clear hq he hbr hfit HALL hqq hL
    go_enter Try.func24, Try.ntmps24
    go_wp2_with (first | (go_at_call 41; refine (HE.out _ _ (Below.refl _ _)).mono ?_; rintro e w1 ⟨rfl, hb⟩; have HB1 := Lib.hid (bl_then (bl_alloc (Below.refl _ _) _) hb); clear hb) | (go_at_call 40; refine (lines_any _ _ _ _).mono ?_; rintro e w2 ⟨rfl, hw2⟩; have HW2 := Lib.hid hw2; clear hw2))
    have hw2 := HW2.out
    have hcv2 := HCV.out w1 24 HB1.out
    have hbx : Below (w1.alloc (.cells #[.slice A a.length c, .slice B b.length d] 24)).heap.size (w1.alloc (.cells #[.slice A a.length c, .slice B b.length d] 24)) w2 := by rw [hw2]; exact bl_alloc (Below.refl _ _) _
    have hb2 : Below w1.heap.size w1 w2 := by rw [hw2]; exact bl_alloc (bl_alloc (Below.refl _ _) _) _
    have hcell : w2.cell? ⟨w1.heap.size + 1, 0, none⟩ = some (.slice (some ⟨w1.heap.size, 0, none⟩) 2 2) := by rw [hw2]; go_simp
    have hcol := collect_lines (w1.heap.size + 1) _ _ w2 hcell (hcv2.below hbx) (by rw [all_two, ← HLL.out]; exact hl)
    rw [all_two, ← HLL.out] at hcol
    have HB2 := Lib.hid hb2
    clear HCV HE hw2 hcv2 hbx hb2 hcell HW2
    refine hcol.mono ?_
    clear hcol
    rintro e w3 ⟨⟨v3, rfl, hs3⟩, hb3⟩
    have HB3 := Lib.hid (bl_then HB1.out (bl_then HB2.out hb3))
    have hlo := lower_any v3 L w3 hs3 (fun l hl => fits_of (HFIT.out l hl)) hl
    obtain ⟨A3, c3, rfl⟩ := hs3.slice
    have HL := Lib.hid hlo
    clear hs3 hb3 hlo
    go_wp2_with fail
    refine HL.out.mono ?_
    rintro e w4 ⟨⟨v4, out, rfl, hlow, hs4⟩, hb4⟩
    obtain rfl := low_is hlow
    have heq := equal_ln v4 (.slice A a.length c) _ a w4 hs4 (HA.out.below (bl_then HB3.out hb4))
    rw [← HQQ.out] at heq
    have HEQ := Lib.hid heq
    have HB4 := Lib.hid (bl_then HB3.out hb4)
    clear HL heq hb4 hlow
    generalize lowL L = out at *
    obtain ⟨A4, c4, rfl⟩ := hs4.slice
    clear hs4
    go_wp2_with fail
    refine HEQ.out.mono ?_
    rintro e w5 ⟨rfl, hb5⟩
    go_wp2_with fail
    go_ret2
    exact ⟨rfl, bl_then HB4.out hb5⟩
end Go.Proofs.Ytmkjiflliejjjaa
