/- append where the two slices have types of other names, or the one that is appended is empty. Over any program. -/
import Derived.Test.YtmkjiflliejjjaaCurAG
namespace Go.Proofs.Ytmkjiflliejjjaa
open Go.RowKit
set_option linter.unusedVariables false
set_option linter.unusedSimpArgs false
section
variable {P : Program} {t t2 e e2 : TypeId} {k bytes : Nat} {z : Value} {α : Type} {enc : α → List Value}
theorem append_two (T : ElT P t e k bytes z) (h2 : P.underlying t2 = some (.slice e2)) (ty : TypeId) (A : Option Addr) (n c : Nat) (x : Value) (w : World) :
    (Builtin.append_ #[t, t2] ty #[.slice A n c, x]).run P w = (Builtin.append_ #[t, t] ty #[.slice A n c, x]).run P w := by
  obtain ⟨i, hi, hz, hsz, hbs⟩ := T.hi
  simp [Builtin.append_, run_underlying T.ht, run_underlying h2, sizeOf, typeInfo, hi]
theorem append_zero (T : ElT P t e k bytes z) (ty : TypeId) {w : World} {base n : Nat} {v : Value} {cs : List Value} (hown : w.ownsRow base e k v n cs) (A : Option Addr) (c : Nat) :
    (Builtin.append_ #[t, t] ty #[v, .slice A 0 c]).run P w = .ok v w := by
  obtain ⟨i, hi, hz, hsz, hbs⟩ := T.hi
  rcases hown.2 with ⟨rfl, h0⟩ | ⟨g, cap, cur, rfl, _, _, hnc, _⟩
  · cases A <;> simp [Builtin.append_, run_underlying T.ht, sizeOf, typeInfo, hi, Builtin.lenOf, Builtin.firstCells, loadCells, loadCellsFrom]
  · cases A <;> simp [Builtin.append_, run_underlying T.ht, sizeOf, typeInfo, hi, Builtin.lenOf, Builtin.firstCells, hnc, storeCells, loadCells, loadCellsFrom]
theorem wpList_appE {ops : Array Oper} {rest : List Oper} {o : Oper} {a : Act} {Q : Exit → Act → World → Prop} (hgd : o.guard = none) (s x : Operand)
    (ho : o.op = .call { callee := .builtin .append, args := #[s, x], argTypes := #[t, t2] }) (h2 : P.underlying t2 = some (.slice e2))
    (T : ElT P t e k bytes z) (hk : ∀ x, (enc x).length = k) (h1 : ∀ x, ∀ u ∈ enc x, u.oneCell' = true) {w : World} {base n : Nat} {v src : Value} {xs ys : List α} (hv : a.eval s = v) (hx : a.eval x = src)
    (hn : n = xs.length) (hown : w.ownsRow base e k v n (xs.flatMap enc)) (hs : RowEl enc k w src ys)
    (hb : base ≤ w.heap.size) (h63 : xs.length + ys.length ≤ maxLen) (hby : (xs.length + ys.length) * bytes ≤ 140737488355328)
    (h : ∀ v' w', w'.ownsRow base e k v' (xs ++ ys).length ((xs ++ ys).flatMap enc) → w.grownBy w' v.ownBlock → wpList P ops Q rest (a.put o.dst v') w') : wpList P ops Q (o :: rest) a w := by
  refine wpList_plain hgd fun K' hK' => ?_
  obtain ⟨v', w', hrun, r1, r2⟩ : ∃ v' w', (Builtin.append_ #[t, t2] o.type #[v, src]).run P w = .ok v' w' ∧ w'.ownsRow base e k v' (xs ++ ys).length ((xs ++ ys).flatMap enc) ∧ w.grownBy w' v.ownBlock := by
    have hf : ∃ A n c, v = .slice A n c := by
      rcases hown.2 with ⟨rfl, _⟩ | ⟨g, cap, cur, rfl, _⟩
      · exact ⟨_, _, _, rfl⟩
      · exact ⟨_, _, _, rfl⟩
    obtain ⟨A0, n0, c0, rfl⟩ := hf
    rw [append_two T h2]
    rcases hs with hs | ⟨A, c, rfl, rfl⟩
    · exact app_run T hk h1 o.type hn hown hs hb h63 hby
    · exact ⟨_, w, append_zero T o.type hown A c, by subst hn; simpa using hown, World.grownBy.refl w _⟩
  unfold Oper.wp execOp
  simp only [ho, resolve, invoke, builtin, Sem.run_bind, Sem.run_pure, Result.andThen_ok, List.map_toArray, List.map_cons, List.map_nil, hv, hx, hrun]
  exact hK' _ _ (h v' w' r1 r2)
end
end Go.Proofs.Ytmkjiflliejjjaa
