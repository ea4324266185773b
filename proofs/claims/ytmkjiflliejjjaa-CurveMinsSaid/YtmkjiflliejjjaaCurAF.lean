/- Curve: curves that are handed in in a slice: some may be empty in whatever way. -/
import Derived.Test.YtmkjiflliejjjaaCurAE
import Derived.Test.YtmkjiflliejjjaaNest
namespace Go.Proofs.Ytmkjiflliejjjaa
open Go.RowKit Go.Shelf Go.Sort
set_option linter.unusedVariables false
set_option linter.unusedSimpArgs false
attribute [local go_sem] Oper.semAt_some
abbrev ElW (w : World) (v : Value) (c : List Ln) : Prop := RowEl Ln.cells 2 w v c
theorem ElW.below {w W : World} {v : Value} {c : List Ln} (h : ElW w v c) (hb : Below w.heap.size w W) : ElW W v c := by
  rcases h with h | h
  · exact .inl (h.below hb)
  · exact .inr h
theorem ElW.kept {w W : World} {v : Value} {c : List Ln} (h : ElW w v c) (hb : CellsKept w W) : ElW W v c := by
  rcases h with h | h
  · exact .inl (h.kept hb)
  · exact .inr h
theorem ElW.form {w : World} {v : Value} {c : List Ln} (h : ElW w v c) : ∃ A cc, v = .slice A c.length cc := by
  rcases h with h | ⟨A, cc, rfl, rfl⟩
  · exact h.slice
  · exact ⟨A, cc, rfl⟩
theorem ElW.len {w : World} {v : Value} {c : List Ln} (h : ElW w v c) : c.length ≤ maxLen := by
  rcases h with h | ⟨A, cc, rfl, rfl⟩
  · exact h.len
  · simp
theorem ElW.sat {w : World} {v : Value} {c : List Ln} (h : ElW w v c) (hne : c ≠ []) : SAt Ln.cells 2 w v c := by
  rcases h with h | ⟨A, cc, rfl, rfl⟩
  · exact h
  · exact absurd rfl hne
/-- A slice of curves, handed in. -/
def CvsW (w : World) (V : Value) (ps : List Cv) : Prop := SAt Cv.cells 1 w V ps ∧ ∀ p ∈ ps, ElW w p.1 p.2
theorem CvsW.below {w W : World} {V : Value} {ps : List Cv} (h : CvsW w V ps) (hb : Below w.heap.size w W) : CvsW W V ps := ⟨h.1.below hb, fun p hp => (h.2 p hp).below hb⟩
theorem CvsW.at {w : World} {V : Value} {ps : List Cv} (h : CvsW w V ps) (hr : rightB ps = true) : CvsAt w V ps := ⟨h.1, fun p hp => (h.2 p hp).sat (okC_may ((rightB_iff.1 hr).2 p hp)).1⟩
set_option maxHeartbeats 400000 in
theorem each_zero (A : Option Addr) (c : Nat) (w : World) :
    Calls Try.prog 31 #[.slice A 0 c, .func (.func 32) #[] #[]] w fun e w' => e = .returned (.bool false) ∧ Below w.heap.size w w' := by
  go_enter Try.func31, Try.ntmps31
  go_wp2_with fail
  go_ret
  exact ⟨rfl, bl_alloc (Below.refl _ _) _⟩
set_option maxHeartbeats 400000 in
theorem check_zero (A : Option Addr) (c : Nat) (w : World) :
    Calls Try.prog 16 #[.slice A 0 c] w fun e w' => e = .returned (.int .i64 2) ∧ Below w.heap.size w w' := by
  go_enter Try.func16, Try.ntmps16
  go_wp2_with (go_at_call 31; refine (each_zero _ _ _).mono ?_; rintro e w' ⟨rfl, hb⟩)
  go_ret
  exact ⟨rfl, hb⟩
set_option maxHeartbeats 400000 in
theorem rright_zero (A : Option Addr) (c : Nat) (w : World) :
    Calls Try.prog 20 #[.slice A 0 c] w fun e w' => e = .returned (.bool false) ∧ Below w.heap.size w w' := by
  go_enter Try.func20, Try.ntmps20
  go_wp2_with fail
  go_ret
  exact ⟨rfl, Below.refl _ _⟩
theorem check_el (v : Value) (c : List Ln) (w : World) (h : ElW w v c) :
    Calls Try.prog 16 #[v] w fun e w' => e = .returned (.int .i64 (if okC c = true then 0 else 2)) ∧ Below w.heap.size w w' := by
  rcases h with h | ⟨A, cc, rfl, rfl⟩
  · exact check_any v c w h
  · exact check_zero A cc w
theorem rright_el (v : Value) (c : List Ln) (w : World) (h : ElW w v c) :
    Calls Try.prog 20 #[v] w fun e w' => e = .returned (.bool (okC c)) ∧ Below w.heap.size w w' := by
  rcases h with h | ⟨A, cc, rfl, rfl⟩
  · exact rright_any v c w h
  · exact rright_zero A cc w
set_option maxHeartbeats 400000 in
theorem right1_el (v : Value) (c : List Ln) (w : World) (h : ElW w v c) :
    Calls Try.prog 55 #[v] w fun e w' => e = .returned (.bool (okC c)) ∧ Below w.heap.size w w' := by
  have hc := check_el v c w h
  obtain ⟨A, cc, rfl⟩ := h.form
  clear h
  cases hq : okC c
  all_goals
    rw [hq] at hc
    simp only [Bool.false_eq_true, if_false, if_true] at hc
    clear hq
    go_enter Try.func55, Try.ntmps55
    go_wp2_with (go_at_call 16; refine hc.mono ?_; rintro e w' ⟨rfl, hb⟩)
    go_ret
    exact ⟨rfl, hb⟩
set_option maxHeartbeats 400000 in
theorem eachc1_el (v : Value) (c : List Ln) (b : Nat) (w : World) (h : ElW w v c) (hc : w.cell? ⟨b, 0, none⟩ = some (.func (.func 55) #[] #[])) :
    Calls Try.prog 65 #[v, .pointer (some ⟨b, 0, none⟩)] w fun e w' => e = .returned (.bool (!okC c)) ∧ Below w.heap.size w w' := by
  have eg := en_right1
  have hm := right1_el v c w h
  obtain ⟨A, cc, rfl⟩ := h.form
  clear h
  generalize okC c = m at *
  go_enter Try.func65, Try.ntmps65
  go_wp2_with (go_at_call 55; refine hm.mono ?_; rintro e w' ⟨rfl, hb'⟩)
  go_ret
  exact ⟨rfl, hb'⟩
set_option maxHeartbeats 400000 in
theorem eachc_W (V : Value) (ps : List Cv) (w : World) (h : CvsW w V ps) :
    Calls Try.prog 54 #[V, .func (.func 55) #[] #[]] w fun e w' => e = .returned (.bool (rightB ps)) ∧ Below w.heap.size w w' := by
  have h2 := h.below (bl_alloc (Below.refl _ _) (.cells #[.func (.func 55) #[] #[]] 33))
  have hany := any_cv (fun p : Cv => p.1) (.bool false, []) 65 #[.pointer (some ⟨w.heap.size, 0, none⟩)] en_eachc1 V ps (fun p => !okC p.2) (w.alloc (.cells #[.func (.func 55) #[] #[]] 33)) h2.1
    (fun W x hx hW => eachc1_el x.1 x.2 w.heap.size W ((h2.2 x hx).below hW) (bl_cell hW (by go_simp)))
  have hlm := h.1.len
  unfold maxLen at hlm
  obtain ⟨A, c, rfl⟩ := h.1.slice
  unfold rightB
  generalize (ps.any fun p => !okC p.2) = q at *
  clear h h2
  by_cases hl : 0 < ps.length
  · have hlz : (0 : Int) < (ps.length : Int) := by omega
    go_enter Try.func54, Try.ntmps54
    go_wp2_with (go_at_call 64; refine hany.mono ?_; rintro e w' ⟨rfl, hb⟩)
    go_ret
    exact ⟨by simp [hl], bl_then (bl_alloc (Below.refl _ _) _) hb⟩
  · have hlz : ¬ (0 : Int) < (ps.length : Int) := by omega
    go_enter Try.func54, Try.ntmps54
    go_wp2_with fail
    go_ret
    exact ⟨by simp [hl], bl_alloc (Below.refl _ _) _⟩
set_option maxHeartbeats 400000 in
theorem right_W (V : Value) (ps : List Cv) (w : World) (h : CvsW w V ps) :
    Calls Try.prog 41 #[V] w fun e w' => e = .returned (.bool (rightB ps)) ∧ Below w.heap.size w w' := by
  have he := eachc_W V ps w h
  obtain ⟨A, c, rfl⟩ := h.1.slice
  clear h
  generalize rightB ps = q at *
  go_enter Try.func41, Try.ntmps41
  go_wp2_with (go_at_call 54; refine he.mono ?_; rintro e w' ⟨rfl, hb⟩)
  go_ret
  exact ⟨rfl, hb⟩
set_option maxHeartbeats 1000000 in
theorem min_no_W (V : Value) (ps : List Cv) (w : World) (h : CvsW w V ps) (hr : rightB ps = false) :
    Calls Try.prog 25 #[V] w fun e w' => e = .returned (.tuple #[.slice none 0 0, .int .i64 2]) ∧ Below w.heap.size w w' := by
  have he := right_W V _ w h
  rw [hr] at he
  obtain ⟨A, c, rfl⟩ := h.1.slice
  clear h hr
  go_enter Try.func25, Try.ntmps25
  go_wp2_with (go_at_call 41; refine he.mono ?_; rintro e w1 ⟨rfl, hb⟩)
  go_ret2
  exact ⟨rfl, hb⟩
set_option maxHeartbeats 1000000 in
theorem sum_no_W (V : Value) (ps : List Cv) (w : World) (h : CvsW w V ps) (hr : rightB ps = false) :
    Calls Try.prog 29 #[V] w fun e w' => e = .returned (.tuple #[.slice none 0 0, .int .i64 2]) ∧ Below w.heap.size w w' := by
  have he := right_W V _ w h
  rw [hr] at he
  obtain ⟨A, c, rfl⟩ := h.1.slice
  clear h hr
  go_enter Try.func29, Try.ntmps29
  go_wp2_with (go_at_call 41; refine he.mono ?_; rintro e w1 ⟨rfl, hb⟩)
  go_ret2
  exact ⟨rfl, hb⟩
end Go.Proofs.Ytmkjiflliejjjaa
