/- Ledger: how All compares. -/
import Derived.Test.YtfnijjjfodpnnaaLedR
import Derived.Test.YtfnijjjfodpnnaaSort
namespace Go.Proofs.Ytfnijjjfodpnnaa
open Go.RowKit Go.Shelf Go.Sort
set_option linter.unusedVariables false
set_option linter.unusedSimpArgs false
instance : Inhabited En := ⟨En0⟩
def cmpI (a b : Int) : Int := if a < b then -1 else if b < a then 1 else 0
def cmpEn (x y : En) : Int := cmpI x.i y.i
theorem cmpI_lt (a b : Int) : cmpI a b < 0 ↔ a < b := by
  unfold cmpI
  split
  · omega
  · split <;> omega
theorem ltEn (x y : En) : ltOf cmpEn x y = decide (x.i < y.i) := by
  unfold ltOf cmpEn
  by_cases h : x.i < y.i <;> simp [h, cmpI_lt]
theorem swoEn : SWO (ltOf cmpEn) where
  irrefl x := by rw [ltEn]; simp
  trans x y z h1 h2 := by rw [ltEn] at *; simp at *; omega
  ntrans x y z h1 h2 := by rw [ltEn] at *; simp at *; omega
set_option maxHeartbeats 400000 in
theorem isNaN_any (a : Int) (w : World) :
    Calls Try.prog 73 #[.int .i64 a] w fun e w' => e = .returned (.bool false) ∧ w = w' := by
  go_enter Try.func73, Try.ntmps73
  go_wp2
  go_ret
  exact ⟨rfl, rfl⟩
set_option maxHeartbeats 400000 in
theorem cmp64_any (a b : Int) (w : World) :
    Calls Try.prog 66 #[.int .i64 a, .int .i64 b] w fun e w' => e = .returned (.int .i64 (cmpI a b)) ∧ w = w' := by
  by_cases h1 : a < b
  · have hc : cmpI a b = -1 := by unfold cmpI; rw [if_pos h1]
    rw [hc]
    go_enter Try.func66, Try.ntmps66
    go_wp2_with (go_at_call 73; refine (isNaN_any _ _).mono ?_; rintro e w' ⟨rfl, rfl⟩)
    go_ret
    exact ⟨rfl, rfl⟩
  · by_cases h2 : b < a
    · have hc : cmpI a b = 1 := by unfold cmpI; rw [if_neg h1, if_pos h2]
      rw [hc]
      go_enter Try.func66, Try.ntmps66
      go_wp2_with (go_at_call 73; refine (isNaN_any _ _).mono ?_; rintro e w' ⟨rfl, rfl⟩)
      go_ret
      exact ⟨rfl, rfl⟩
    · have hc : cmpI a b = 0 := by unfold cmpI; rw [if_neg h1, if_neg h2]
      rw [hc]
      go_enter Try.func66, Try.ntmps66
      go_wp2_with (go_at_call 73; refine (isNaN_any _ _).mono ?_; rintro e w' ⟨rfl, rfl⟩)
      go_ret
      exact ⟨rfl, rfl⟩
set_option maxHeartbeats 400000 in
theorem ahead_any (x y : En) (w : World) :
    Calls Try.prog 46 #[.agg #[.int .i64 x.i, .int .i64 x.r, .int .i64 x.m], .agg #[.int .i64 y.i, .int .i64 y.r, .int .i64 y.m]] w fun e w' => e = .returned (.int .i64 (cmpI x.i y.i)) ∧ ∃ o1 o2, w' = (w.alloc o1).alloc o2 := by
  go_enter Try.func46, Try.ntmps46
  go_wp2_with (go_at_call 66; refine (cmp64_any _ _ _).mono ?_; rintro e w' ⟨rfl, rfl⟩)
  go_ret
  exact ⟨rfl, _, _, rfl⟩
theorem en_ahead : ∀ args w, (callFunc 46 args).run Try.prog w = .ok (.enter 46 args) w := enters_of Try.func46 (by kernel_rfl) rfl
set_option maxHeartbeats 400000 in
theorem all1_any (x y : En) (b : Nat) (w : World) (hb : b < w.heap.size) (hc : w.cell? ⟨b, 0, none⟩ = some (.func (.func 46) #[] #[])) :
    Calls Try.prog 49 #[.agg #[.int .i64 x.i, .int .i64 x.r, .int .i64 x.m], .agg #[.int .i64 y.i, .int .i64 y.r, .int .i64 y.m], .pointer (some ⟨b, 0, none⟩)] w fun e w' => e = .returned (.int .i64 (cmpEn x y)) ∧ ∃ q os', w' = grow (w.drewN q) os' := by
  have eg := en_ahead
  unfold cmpEn
  go_enter Try.func49, Try.ntmps49
  go_wp2_with (go_at_call 46; refine (ahead_any x y _).mono ?_; rintro e w' ⟨rfl, o1, o2, rfl⟩)
  go_ret
  exact ⟨rfl, 0, _, by rw [alloc_eq_grow, alloc_eq_grow, alloc_eq_grow, alloc_eq_grow, grow_grow, grow_grow, grow_grow]; rfl⟩
end Go.Proofs.Ytfnijjjfodpnnaa
