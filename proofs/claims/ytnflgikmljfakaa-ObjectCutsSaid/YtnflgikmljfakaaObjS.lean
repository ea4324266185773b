/- Object: what Parse defers. -/
import Derived.Test.YtnflgikmljfakaaObjR
import Derived.RecoverIn
import Derived.TacticsInMore
import Derived.Laws.Pointers
namespace Go.Proofs.Ytnflgikmljfakaa
open Go Go.RowKit Go.Shelf
set_option linter.unusedVariables false
set_option linter.unusedSimpArgs false
attribute [local go_sem] Oper.semAt_some
set_option maxRecDepth 100000 in
theorem catch_idle (n : Nat) (p q : Addr) (w : World) : CallsDIn Fence.wide n Try.prog 21 #[.pointer (some p), .pointer (some q)] .returning w fun e u' w' => e = .returned (.tuple #[]) ∧ u' = .returning ∧ w' = w := by
  refine callsDIn_of_wpSIn Try.func21 rfl trivial fun c₀ cs hu => ?_
  apply wpSIn_seq
  apply wpSIn_region
  simp [wpOpsSIn, go_sem, recoverD, hu, Try.ntmps21, Exit.thenS]
  refine wpSIn_of_wpIn rfl (wpIn_wide.2 ?_)
  simp only [List.replicate_succ, List.replicate_zero, List.setIfInBounds_toArray, ← List.toArray_replicate, List.set_cons_zero, List.set_cons_succ, List.append_toArray, List.cons_append, List.nil_append]
  go_wp2
  cases c₀
  simp_all [bodyPostS, results, Try.results21]
theorem assert_stop (W : World) (v : Value) : (Instr.typeAssert (.iface 51 v) 20 51 true).run Try.prog W = .ok (.tuple #[v, .bool true]) W := by kernel_rfl
set_option maxRecDepth 100000 in
theorem catch_stop (n : Nat) (p q : Nat) (older : List PanicEntry) (w : World) (v : Value) (e0 : Int) (hp : w.heap[p]? = some (.cells #[v] 22 (0, 0))) (hq : w.heap[q]? = some (.cells #[.int .i64 e0] 26 (0, 0))) (hpq : p ≠ q) (B : Nat) (hBp : B ≤ p) (hBq : B ≤ q) :
    CallsDIn Fence.wide n Try.prog 21 #[.pointer (some ⟨p, 0, none⟩), .pointer (some ⟨q, 0, none⟩)] (.panicking ({ v := .iface 51 (.agg #[]), recovered := false } :: older)) w fun e u' w' =>
      e = .returned (.tuple #[]) ∧ u' = .panicking ({ v := .iface 51 (.agg #[]), recovered := true } :: older) ∧ w'.heap[p]? = some (.cells #[.slice none 0 0] 22 (0, 0)) ∧ w'.heap[q]? = some (.cells #[.int .i64 170] 26 (0, 0)) ∧ Below B w w' := by
  refine callsDIn_of_wpSIn Try.func21 rfl trivial fun c₀ cs hu => ?_
  apply wpSIn_seq
  apply wpSIn_region
  simp [wpOpsSIn, go_sem, recoverD, hu, Try.ntmps21, Exit.thenS]
  refine wpSIn_of_wpIn rfl (wpIn_wide.2 ?_)
  simp only [List.replicate_succ, List.replicate_zero, List.setIfInBounds_toArray, ← List.toArray_replicate, List.set_cons_zero, List.set_cons_succ, List.append_toArray, List.cons_append, List.nil_append]
  have has := fun W v => assert_stop W v
  go_upto_region 7 with fail
  have hb1 := bl_alloc (Below.refl w.heap.size w) (.cells #[] 51)
  have hpl := (Array.getElem?_eq_some_iff.1 hp).1
  have hql := (Array.getElem?_eq_some_iff.1 hq).1
  generalize (w.alloc (.cells #[] 51)) = w1 at hb1 ⊢
  have hp1 := (hb1.block p hpl).trans hp
  have hq1 := (hb1.block q hql).trans hq
  obtain ⟨p0, p1⟩ := cells1 hp1
  obtain ⟨q0, q1⟩ := cells1 hq1
  have hqp : ¬ q = p := fun h => hpq h.symm
  have q0' : (w1.setCell ⟨p, 0, none⟩ (.slice none 0 0)).cell? ⟨q, 0, none⟩ = some (.int .i64 e0) := (But.set p 0 w1 _).cell q0 hqp
  have q1' : (w1.setCell ⟨p, 0, none⟩ (.slice none 0 0)).frozen? ⟨q, 0, none⟩ = false := (cells1 (((But.set p 0 w1 (.slice none 0 0)).block q hqp).trans hq1)).2
  have hfin : ((w1.setCell ⟨p, 0, none⟩ (.slice none 0 0)).setCell ⟨q, 0, none⟩ (.int .i64 170)).heap[p]? = some (.cells #[.slice none 0 0] 22 (0, 0)) ∧ ((w1.setCell ⟨p, 0, none⟩ (.slice none 0 0)).setCell ⟨q, 0, none⟩ (.int .i64 170)).heap[q]? = some (.cells #[.int .i64 170] 26 (0, 0)) ∧ Below B w ((w1.setCell ⟨p, 0, none⟩ (.slice none 0 0)).setCell ⟨q, 0, none⟩ (.int .i64 170)) :=
    ⟨((But.set q 0 _ _).block p hpq).trans (set_one hp1 _), set_one (((But.set p 0 w1 (.slice none 0 0)).block q hqp).trans hq1) _, bl_set (bl_set (hb1.mono (by omega)) hBp _) hBq _⟩
  have HF := Lib.hid hfin
  clear hfin hb1 hp1 hq1 hp hq
  go_wp2
  have h9 := HF.out
  cases c₀
  simp_all [bodyPostS, results, Try.results21]
end Go.Proofs.Ytnflgikmljfakaa
