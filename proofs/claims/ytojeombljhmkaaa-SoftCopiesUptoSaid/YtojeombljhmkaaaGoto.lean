/- A scope in which the run jumps forward to one label. -/
import Derived.Test.YtojeombljhmkaaaLib
import Derived.ScopeJumps
import Derived.WalkMore
namespace Go.Proofs.Ytojeombljhmkaaa
open Go.RowKit
section
variable {P : Program} {a : Act} {w : World} {Q : Exit → Act → World → Prop}
theorem wp_scope_fwd {c rest : Code} (l : Nat) (hf : findLabel c l = some rest)
    (h : c.wp P (Exit.jump l (fun a w => rest.wp P (Exit.noGoto Q) a w) Q) a w) : (Code.scope c).wp P Q a w :=
  wp_scope_jumps l _ (fun _ _ => 0) hf h (fun a w hJ => Code.wp_mono (fun e a w h => by cases e <;> first | exact h | exact h.elim) hJ)
variable {l : Nat} {J : Act → World → Prop}
theorem jump_ret : Exit.jump l J Q .ret a w = Q .ret a w := rfl
theorem jump_goto (h : J a w) : Exit.jump l J Q (.goto l) a w := ⟨rfl, h⟩
end
end Go.Proofs.Ytojeombljhmkaaa
