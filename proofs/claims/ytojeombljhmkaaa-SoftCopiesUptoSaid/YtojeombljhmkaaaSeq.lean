/- Ranges over functions: small words. Over any program. -/
import Derived.Test.YtojeombljhmkaaaRange
import Derived.Test.YtojeombljhmkaaaSlices
import Derived.RangeFuncNested
import Derived.RangeFuncBound
import Derived.RangeFuncCalls
import Derived.RangeFuncLeaves
import Derived.RangeFuncBox
import Derived.Maps.AppendAt
import Derived.Shelf.Abstract
import Derived.OwnWalkIn
import Derived.TacticsInMore
import Derived.LoopNIn
import Derived.LoopIn
namespace Go.Proofs.Ytojeombljhmkaaa
open Go.RowKit Go.Shelf
/-- How many entries an iterator over a map has still to give. -/
def leftN (w : World) (m r : Nat) : Nat := match w.heap[m]?, w.heap[r]? with
  | some (.map es _), some (.mapIter _ _ seen _) => (es.toList.filter fun e => !seen.contains e.born).length
  | _, _ => 0
section
variable {κ : Type} {enc : κ → Value}
theorem RangeAt.leftN_eq {w : World} {m r : Nat} {l left : List (κ × Value)} (h : RangeAt enc w m r l left) : leftN w m r = left.length := by
  obtain ⟨es, clock, since, seen, c0, h1, h2, h3, h4, h5, h6, h7, h8, h9, h10⟩ := h
  have := congrArg List.length h10
  simp only [List.length_map] at this
  unfold leftN
  rw [h1, h6]
  exact this
theorem RangeAt.of_walks {w W : World} {m r : Nat} {l left : List (κ × Value)} (h : RangeAt enc w m r l left) (hk : KeepsWalks w W) : RangeAt enc W m r l left := by
  obtain ⟨es, clock, since, seen, c0, h1, h2, h3, h4, h5, h6, rest⟩ := h
  exact ⟨es, clock, since, seen, c0, hk.same _ _ h1 rfl, h2, h3, h4, h5, hk.same _ _ h6 rfl, rest⟩
theorem RangeAt.walk {w : World} {m r : Nat} {l left : List (κ × Value)} (h : RangeAt enc w m r l left) : ∃ o : Obj, w.heap[r]? = some o ∧ o.isWalk = true := by
  obtain ⟨es, clock, since, seen, c0, h1, h2, h3, h4, h5, h6, rest⟩ := h
  exact ⟨_, h6, rfl⟩
end
end Go.Proofs.Ytojeombljhmkaaa
