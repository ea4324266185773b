/- Soft: slices.SortStableFunc by Forgotten, of things in the order of their names: up to twenty. -/
import Derived.Test.YtojeombljhmkaaaSoftL
namespace Go.Proofs.Ytojeombljhmkaaa
open Go.RowKit Go.Shelf Go.Sort
set_option linter.unusedVariables false
set_option linter.unusedSimpArgs false
attribute [local go_sem] Oper.semAt_some
def cmpI (a b : Int) : Int := if a < b then -1 else if b < a then 1 else 0
theorem cmpI_lt (a b : Int) : cmpI a b < 0 ↔ a < b := by
  unfold cmpI
  split
  · omega
  · split <;> omega
def cmpF (x y : Th) : Int := cmpI x.forgot y.forgot
def ltF (x y : Th) : Bool := decide (x.forgot < y.forgot)
theorem ltOf_F : ltOf cmpF = ltF := by
  funext x y
  unfold ltOf cmpF ltF
  exact decide_eq_decide.2 (cmpI_lt _ _)
theorem swoF : SWO (ltOf cmpF) where
  irrefl x := by rw [ltOf_F]; simp [ltF]
  trans x y z h1 h2 := by rw [ltOf_F] at *; simp [ltF] at *; omega
  ntrans x y z h1 h2 := by rw [ltOf_F] at *; simp [ltF] at *; omega
set_option maxHeartbeats 400000 in
theorem isNaN_any (a : Int) (w : World) :
    Calls Try.prog 50 #[.int .i64 a] w fun e w' => e = .returned (.bool false) ∧ w = w' := by
  go_enter Try.func50, Try.ntmps50
  go_wp2
  go_ret
  exact ⟨rfl, rfl⟩
set_option maxHeartbeats 400000 in
theorem cmp64_any (a b : Int) (w : World) :
    Calls Try.prog 36 #[.int .i64 a, .int .i64 b] w fun e w' => e = .returned (.int .i64 (cmpI a b)) ∧ w = w' := by
  by_cases h1 : a < b
  · have hc : cmpI a b = -1 := by unfold cmpI; rw [if_pos h1]
    rw [hc]
    go_enter Try.func36, Try.ntmps36
    go_wp2_with (go_at_call 50; refine (isNaN_any _ _).mono ?_; rintro e w' ⟨rfl, rfl⟩)
    go_ret
    exact ⟨rfl, rfl⟩
  · by_cases h2 : b < a
    · have hc : cmpI a b = 1 := by unfold cmpI; rw [if_neg h1, if_pos h2]
      rw [hc]
      go_enter Try.func36, Try.ntmps36
      go_wp2_with (go_at_call 50; refine (isNaN_any _ _).mono ?_; rintro e w' ⟨rfl, rfl⟩)
      go_ret
      exact ⟨rfl, rfl⟩
    · have hc : cmpI a b = 0 := by unfold cmpI; rw [if_neg h1, if_neg h2]
      rw [hc]
      go_enter Try.func36, Try.ntmps36
      go_wp2_with (go_at_call 50; refine (isNaN_any _ _).mono ?_; rintro e w' ⟨rfl, rfl⟩)
      go_ret
      exact ⟨rfl, rfl⟩
set_option maxHeartbeats 400000 in
theorem go2_any (x y : Th) (w : World) :
    Calls Try.prog 35 #[.agg (Th.cells x).toArray, .agg (Th.cells y).toArray] w fun e w' => e = .returned (.int .i64 (cmpF x y)) ∧ ∃ q os', w' = grow (w.drewN q) os' := by
  unfold cmpF Th.cells
  go_enter Try.func35, Try.ntmps35
  go_wp2_with (go_at_call 36; refine (cmp64_any _ _ _).mono ?_; rintro e w' ⟨rfl, rfl⟩)
  go_ret
  exact ⟨rfl, 0, _, by rw [alloc_eq_grow, alloc_eq_grow, grow_grow]; rfl⟩
theorem en_go2 : ∀ args w, (callFunc 35 args).run Try.prog w = .ok (.enter 35 args) w := enters_of Try.func35 (by kernel_rfl) rfl
/-- The first i blocks of twenty, each sorted. -/
def insB (d : Array Th) : Nat → Array Th
  | 0 => d
  | i + 1 => insertionSort ltF (insB d i) (20 * i) (20 * (i + 1))
theorem insB_size (d : Array Th) : ∀ i, 20 * i ≤ d.size → (insB d i).size = d.size
  | 0, _ => rfl
  | i + 1, h => by
    have h1 := insB_size d i (by omega)
    have := (insertionSort_holds (ltOf_F ▸ swoF) (insB d i) (20 * i) (20 * (i + 1)) (by omega) (by omega)).1.1
    exact this.trans h1
set_option maxRecDepth 20000 in
set_option maxHeartbeats 400000 in
theorem ins_nil (w : World) :
    Calls Try.prog 58 #[.slice none 0 0, .int .i64 0, .int .i64 0, .func (.func 35) #[] #[]] w fun e w' => e = .returned (.tuple #[]) ∧ w = w' := by
  go_enter Try.func58, Try.ntmps58
  go_wp2_with fail
  go_loopg [8] 1 (fun gg s8 wr => s8 = .int .i64 1 ∧ wr = w)
  case atStart => exact ⟨rfl, rfl⟩
  case round =>
    obtain ⟨rfl, rfl⟩ := hrel
    go_wp2_with fail
    go_end0
    exact ⟨rfl, rfl⟩
set_option maxRecDepth 20000 in
set_option maxHeartbeats 400000 in
theorem stable_nil (w : World) :
    Calls Try.prog 34 #[.slice none 0 0, .func (.func 35) #[] #[]] w fun e w' => e = .returned (.tuple #[]) ∧ w = w' := by
  have hst : Calls Try.prog 49 #[.slice none 0 0, .int .i64 0, .func (.func 35) #[] #[]] w fun e w' => e = .returned (.tuple #[]) ∧ w = w' := by
    go_enter Try.func49, Try.ntmps49
    go_wp2_with fail
    go_loopg [7, 8] 1 (fun gg s7 s8 wr => s7 = .int .i64 0 ∧ s8 = .int .i64 20 ∧ wr = w)
    case atStart => exact ⟨rfl, rfl, rfl⟩
    case round =>
      obtain ⟨rfl, rfl, rfl⟩ := hrel
      go_wp2_with (go_at_call 58; refine (ins_nil _).mono ?_; rintro e w' ⟨rfl, rfl⟩)
      go_loopg [6, 7, 8, 9] 1 (fun gg s6 s7 s8 s9 wr2 => s6 = .int .i64 20 ∧ wr2 = wr)
      case atStart => exact ⟨rfl, rfl⟩
      case round =>
        obtain ⟨rfl, rfl⟩ := hrel
        go_wp2_with fail
        go_end0
        exact ⟨rfl, rfl⟩
  go_enter Try.func34, Try.ntmps34
  go_wp2_with (go_at_call 49; refine hst.mono ?_; rintro e w' ⟨rfl, rfl⟩)
  go_end0
  exact ⟨rfl, rfl⟩
end Go.Proofs.Ytojeombljhmkaaa
