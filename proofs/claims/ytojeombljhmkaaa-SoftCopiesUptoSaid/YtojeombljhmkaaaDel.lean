/- Maps: 'delete(m, x)' at the operation, 'len(m)', frames of two blocks. -/
import Derived.Test.YtojeombljhmkaaaMaps
namespace Go.Proofs.Ytojeombljhmkaaa
open Go.RowKit Go.MapKept
section
variable {P : Program} {k : TypeId} {κ : Type} [DecidableEq κ] {enc : κ → Value}
theorem wpList_delete {ops : Array Oper} {rest : List Oper} {o : Oper} {a : Act} {Q : Exit → Act → World → Prop} {w : World} {t e : TypeId} {r : Nat} {l : List (κ × Value)} (hg : o.guard = none) (m x : Operand)
    (hop : o.op = .call { callee := .builtin .delete, args := #[m, x], argTypes := #[t, k] })
    (K : KLaw P k enc) (ht : P.underlying t = some (.map k e)) (h : MapOf enc w r l) (key : κ) (hm : a.eval m = .map (some r)) (hx : a.eval x = enc key)
    (hK : ∀ w', MapOf enc w' r (mdel l key) → w.grownBy w' (some r) → w'.heap.size = w.heap.size → wpList P ops Q rest (a.put o.dst (.tuple #[])) w') : wpList P ops Q (o :: rest) a w := by
  refine wpList_plain hg fun K' hK' => ?_
  obtain ⟨w', hrun, r1, r2, r3⟩ := run_delete (ty := o.type) K ht h key
  unfold Oper.wp execOp
  simp only [hop, resolve, invoke, builtin, Sem.run_bind, Sem.run_pure, Result.andThen_ok, List.map_toArray, List.map_cons, List.map_nil, hm, hx, hrun]
  exact hK' _ _ (hK w' r1 r2 r3)
end
/-- Only blocks p and r, and new ones, may be other than they were. -/
structure Mov (p r : Nat) (w W : World) : Prop where
  os : W.os = w.os
  tape : W.tape = w.tape
  output : W.output = w.output
  size : w.heap.size ≤ W.heap.size
  block : ∀ k, k < w.heap.size → k ≠ p → k ≠ r → W.heap[k]? = w.heap[k]?
  c3 : p < w.heap.size → p ≠ r → ∀ v, W.cell? ⟨p, 3, none⟩ = some v → (∀ b o n c, v = .slice (some ⟨b, o, none⟩) n c → w.heap.size ≤ b) ∨ w.cell? ⟨p, 3, none⟩ = some v
theorem Mov.refl (p r : Nat) (w : World) : Mov p r w w := ⟨rfl, rfl, rfl, Nat.le_refl _, fun _ _ _ _ => rfl, fun _ _ _ h => Or.inr h⟩
theorem Mov.trans {p r : Nat} {a b c : World} (h : Mov p r a b) (k : Mov p r b c) : Mov p r a c :=
  ⟨k.os.trans h.os, k.tape.trans h.tape, k.output.trans h.output, Nat.le_trans h.size k.size, fun i hi h1 h2 => (k.block i (Nat.lt_of_lt_of_le hi h.size) h1 h2).trans (h.block i hi h1 h2),
    fun hp hr v hv => by
      rcases k.c3 (Nat.lt_of_lt_of_le hp h.size) hr v hv with f | hb
      · exact Or.inl fun q o n c e => Nat.le_trans h.size (f q o n c e)
      · exact h.c3 hp hr v hb⟩
theorem Mov.ofBelow {p r : Nat} {a b : World} (h : Below a.heap.size a b) : Mov p r a b := ⟨h.os, h.tape, h.output, h.size, fun i hi _ _ => h.block i hi, fun hp _ _ hv => Or.inr ((h.cell (p := ⟨p, 3, none⟩) hp).symm.trans hv)⟩
theorem Mov.ofGrown {p r : Nat} {a b : World} (h : a.grownBy b (some r)) : Mov p r a b := ⟨h.os, h.tape, h.output, h.size, fun i hi _ h2 => h.block i hi (fun e => h2 (Option.some.inj e)),
  fun hp hr _ hv => Or.inr ((World.cell?_of_block (w := a) (a := ⟨p, 3, none⟩) (h.block p hp (fun e => hr (Option.some.inj e)))).symm.trans hv)⟩
theorem Mov.below {p r B : Nat} {a b : World} (h : Mov p r a b) (hp : B ≤ p) (hr : B ≤ r) (hB : B ≤ a.heap.size) : Below B a b := ⟨h.os, h.tape, h.output, h.size, fun i hi => h.block i (by omega) (by omega) (by omega)⟩
theorem Mov.cell {p r : Nat} {a b : World} (h : Mov p r a b) {q o : Nat} {v : Value} (hc : a.cell? ⟨q, o, none⟩ = some v) (h1 : q ≠ p) (h2 : q ≠ r) : b.cell? ⟨q, o, none⟩ = some v :=
  (World.cell?_of_block (w := a) (a := ⟨q, o, none⟩) (h.block q (World.block_lt_of_cell? a ⟨q, o, none⟩ hc) h1 h2)).trans hc
end Go.Proofs.Ytojeombljhmkaaa
