/-
  No cell of these rows narrows 'for every input' (looked for: loops, veiled, ifaces, maps, wideKeys, modest, calm, conditions, laid).
  DERIVED. THE GIVEN ROWS OF THIS SEAT. 5 by the template 'for every input the law returns true; each argument reads behind the call as it read before'; 0 by the template 'total and deterministic' (their statements: YtfifmkjidljeeaaTotals.lean).
  GIVEN WITH THE SEED: the statements are not yours to turn. If you find one false, say at which input.
  Laid BY PROGRAM, IN A SANDBOX (cutbox-rows.mjs): the forced cells as the released guide's own fill.sh prints them over the translation 3bc28f92c4d33476… (all of the seat's roots in one cut). By AI agents, Wed Nov 11 2026. No macro, syntax, notation, axiom, sorry.
-/
import Derived.Test.YtfifmkjidljeeaaChecked
import GoSem.Claim
import GoSem.ClaimJoined
import GoSem.ClaimMapViews
import Derived.JoinedTies
import Derived.KernelRfl
namespace Go.Proofs.Ytfifmkjidljeeaa
/- THE CELL 'sum', in the pinned program and in every row, IS THE sha256 OF THE DUMP (.gsa) THAT YtfifmkjidljeeaaProg.lean LOADS. Nothing in Lean hashes anything: it is a label: what it is worth is what the hold of that sum in a sandbox is worth. -/
noncomputable def Try.pinned : Pinned := { name := "ytfifmkjidljeeaa", sum := "3bc28f92c4d334760898715ca4575c1d2ec1d4e6b130ad8b96bd992030670638", checked := Try.checked }
namespace Rows
def none {H : Type} : Left H := { results := [], args := [] }

/-- 'postroadlaw09.TopoChecks': WHATEVER THE INPUT: true; the input reads as it did. -/
def topoChecksSpec : ChangeSpec := { name := "topoChecks", fn := fun _ => fun
  | [d1, d2] => { results := [.lit (.bool true)], args := [d1, d2] }
  | _ => none }
def topoChecksRow : OpenClaim := { program := "ytfifmkjidljeeaa", sum := "3bc28f92c4d334760898715ca4575c1d2ec1d4e6b130ad8b96bd992030670638", func := "postroad/postroadlaw09.TopoChecks", spec := "topoChecks", unfollowed := true, recurses := true, plainKeys := false, apart := false }
def TopoChecksSaid : Prop := topoChecksRow.holds Try.pinned (OpenSpec.ofChange topoChecksSpec)

/-- ITS FALSE NEIGHBOUR: 'it returns false'. Refute it at one input. -/
def topoChecksWrong : ChangeSpec := { name := "topoChecks", fn := fun _ => fun
  | [d1, d2] => { results := [.lit (.bool false)], args := [d1, d2] }
  | _ => none }
def TopoChecksWrongFalsely : Prop := topoChecksRow.holds Try.pinned (OpenSpec.ofChange topoChecksWrong)

/-- 'postroadlaw09.TopoOrder': WHATEVER THE INPUT: true; the input reads as it did. -/
def topoOrderSpec : ChangeSpec := { name := "topoOrder", fn := fun _ => fun
  | [d1, d2, d3] => { results := [.lit (.bool true)], args := [d1, d2, d3] }
  | _ => none }
def topoOrderRow : OpenClaim := { program := "ytfifmkjidljeeaa", sum := "3bc28f92c4d334760898715ca4575c1d2ec1d4e6b130ad8b96bd992030670638", func := "postroad/postroadlaw09.TopoOrder", spec := "topoOrder", unfollowed := true, recurses := true, plainKeys := false, apart := false }
def TopoOrderSaid : Prop := topoOrderRow.holds Try.pinned (OpenSpec.ofChange topoOrderSpec)

/-- ITS FALSE NEIGHBOUR: 'it returns false'. Refute it at one input. -/
def topoOrderWrong : ChangeSpec := { name := "topoOrder", fn := fun _ => fun
  | [d1, d2, d3] => { results := [.lit (.bool false)], args := [d1, d2, d3] }
  | _ => none }
def TopoOrderWrongFalsely : Prop := topoOrderRow.holds Try.pinned (OpenSpec.ofChange topoOrderWrong)

/-- 'postroadlaw09.TopoMakes': WHATEVER THE INPUT: true; the input reads as it did. -/
def topoMakesSpec : ChangeSpec := { name := "topoMakes", fn := fun _ => fun
  | [d1, d2, d3] => { results := [.lit (.bool true)], args := [d1, d2, d3] }
  | _ => none }
def topoMakesRow : OpenClaim := { program := "ytfifmkjidljeeaa", sum := "3bc28f92c4d334760898715ca4575c1d2ec1d4e6b130ad8b96bd992030670638", func := "postroad/postroadlaw09.TopoMakes", spec := "topoMakes", unfollowed := true, recurses := true, plainKeys := false, apart := false }
def TopoMakesSaid : Prop := topoMakesRow.holds Try.pinned (OpenSpec.ofChange topoMakesSpec)

/-- ITS FALSE NEIGHBOUR: 'it returns false'. Refute it at one input. -/
def topoMakesWrong : ChangeSpec := { name := "topoMakes", fn := fun _ => fun
  | [d1, d2, d3] => { results := [.lit (.bool false)], args := [d1, d2, d3] }
  | _ => none }
def TopoMakesWrongFalsely : Prop := topoMakesRow.holds Try.pinned (OpenSpec.ofChange topoMakesWrong)

/-- 'postroadlaw09.TopoCopies': WHATEVER THE INPUT: true; the input reads as it did. -/
def topoCopiesSpec : ChangeSpec := { name := "topoCopies", fn := fun _ => fun
  | [d1, d2, d3] => { results := [.lit (.bool true)], args := [d1, d2, d3] }
  | _ => none }
def topoCopiesRow : OpenClaim := { program := "ytfifmkjidljeeaa", sum := "3bc28f92c4d334760898715ca4575c1d2ec1d4e6b130ad8b96bd992030670638", func := "postroad/postroadlaw09.TopoCopies", spec := "topoCopies", unfollowed := true, recurses := true, plainKeys := false, apart := false }
def TopoCopiesSaid : Prop := topoCopiesRow.holds Try.pinned (OpenSpec.ofChange topoCopiesSpec)

/-- ITS FALSE NEIGHBOUR: 'it returns false'. Refute it at one input. -/
def topoCopiesWrong : ChangeSpec := { name := "topoCopies", fn := fun _ => fun
  | [d1, d2, d3] => { results := [.lit (.bool false)], args := [d1, d2, d3] }
  | _ => none }
def TopoCopiesWrongFalsely : Prop := topoCopiesRow.holds Try.pinned (OpenSpec.ofChange topoCopiesWrong)

/-- 'postroadlaw09.TopoNil': WHATEVER THE INPUT: true; the input reads as it did. -/
def topoNilSpec : ChangeSpec := { name := "topoNil", fn := fun _ => fun
  | [d1, d2] => { results := [.lit (.bool true)], args := [d1, d2] }
  | _ => none }
def topoNilRow : OpenClaim := { program := "ytfifmkjidljeeaa", sum := "3bc28f92c4d334760898715ca4575c1d2ec1d4e6b130ad8b96bd992030670638", func := "postroad/postroadlaw09.TopoNil", spec := "topoNil", unfollowed := true, recurses := true, plainKeys := false, apart := false }
def TopoNilSaid : Prop := topoNilRow.holds Try.pinned (OpenSpec.ofChange topoNilSpec)

/-- ITS FALSE NEIGHBOUR: 'it returns false'. Refute it at one input. -/
def topoNilWrong : ChangeSpec := { name := "topoNil", fn := fun _ => fun
  | [d1, d2] => { results := [.lit (.bool false)], args := [d1, d2] }
  | _ => none }
def TopoNilWrongFalsely : Prop := topoNilRow.holds Try.pinned (OpenSpec.ofChange topoNilWrong)

/- THE SECOND FORM. 'bulk': how many values and letters a reading holds, each counted each time it is reached (what is shared counts as often as it is met; a slice's spare places count too). A statement '..UptoSaid' is the law's where the arguments, and the package variables that the reading takes, are together of bulk at most 1048576: NARROWER than '..Said'. Prove '..Said' where nothing that the law and all that it calls make is longer than what came in: it says more and counts as full. Else prove '..UptoSaid'. A law counts once. -/
mutual
def uptoBulk {H : Type} : DataW H → Nat
  | .lit (.string bytes) => bytes.length + 1
  | .lit _ => 1
  | .nil => 1
  | .ptr d => uptoBulk d + 1
  | .slice elems spare => uptoBulkAll elems + uptoBulkAll spare + 1
  | .agg parts => uptoBulkAll parts + 1
  | .iface _ d => uptoBulk d + 1
  | .map entries => uptoBulkEntries entries + 1
  | .held _ => 1
def uptoBulkAll {H : Type} : List (DataW H) → Nat
  | [] => 0
  | d :: r => uptoBulk d + uptoBulkAll r
def uptoBulkEntries {H : Type} : List (Lit × DataW H) → Nat
  | [] => 0
  | x :: r => uptoBulkEntry x + uptoBulkEntries r
def uptoBulkEntry {H : Type} : Lit × DataW H → Nat
  | (.string bytes, d) => bytes.length + uptoBulk d + 1
  | (_, d) => uptoBulk d + 1
 end
def uptoSmall : (H : Type) → List (DataW H) → Bool := fun _ ds => decide (uptoBulkAll ds ≤ 1048576)
def OpenSpec.upto (s : _root_.Go.ChangeSpec) : _root_.Go.OpenSpec := { _root_.Go.OpenSpec.ofChange s with cond := some uptoSmall }

/-- 'postroadlaw09.TopoChecks', WHERE WHAT IT READS IS OF BULK AT MOST 1048576: true; the input reads as it did. -/
def topoChecksUptoRow : OpenClaim := { program := "ytfifmkjidljeeaa", sum := "3bc28f92c4d334760898715ca4575c1d2ec1d4e6b130ad8b96bd992030670638", func := "postroad/postroadlaw09.TopoChecks", spec := "topoChecks", unfollowed := true, recurses := true, plainKeys := false, apart := false, narrowed := true }
def TopoChecksUptoSaid : Prop := topoChecksUptoRow.holds Try.pinned (OpenSpec.upto topoChecksSpec)

/-- 'postroadlaw09.TopoOrder', WHERE WHAT IT READS IS OF BULK AT MOST 1048576: true; the input reads as it did. -/
def topoOrderUptoRow : OpenClaim := { program := "ytfifmkjidljeeaa", sum := "3bc28f92c4d334760898715ca4575c1d2ec1d4e6b130ad8b96bd992030670638", func := "postroad/postroadlaw09.TopoOrder", spec := "topoOrder", unfollowed := true, recurses := true, plainKeys := false, apart := false, narrowed := true }
def TopoOrderUptoSaid : Prop := topoOrderUptoRow.holds Try.pinned (OpenSpec.upto topoOrderSpec)

/-- 'postroadlaw09.TopoMakes', WHERE WHAT IT READS IS OF BULK AT MOST 1048576: true; the input reads as it did. -/
def topoMakesUptoRow : OpenClaim := { program := "ytfifmkjidljeeaa", sum := "3bc28f92c4d334760898715ca4575c1d2ec1d4e6b130ad8b96bd992030670638", func := "postroad/postroadlaw09.TopoMakes", spec := "topoMakes", unfollowed := true, recurses := true, plainKeys := false, apart := false, narrowed := true }
def TopoMakesUptoSaid : Prop := topoMakesUptoRow.holds Try.pinned (OpenSpec.upto topoMakesSpec)

/-- 'postroadlaw09.TopoCopies', WHERE WHAT IT READS IS OF BULK AT MOST 1048576: true; the input reads as it did. -/
def topoCopiesUptoRow : OpenClaim := { program := "ytfifmkjidljeeaa", sum := "3bc28f92c4d334760898715ca4575c1d2ec1d4e6b130ad8b96bd992030670638", func := "postroad/postroadlaw09.TopoCopies", spec := "topoCopies", unfollowed := true, recurses := true, plainKeys := false, apart := false, narrowed := true }
def TopoCopiesUptoSaid : Prop := topoCopiesUptoRow.holds Try.pinned (OpenSpec.upto topoCopiesSpec)

/-- 'postroadlaw09.TopoNil', WHERE WHAT IT READS IS OF BULK AT MOST 1048576: true; the input reads as it did. -/
def topoNilUptoRow : OpenClaim := { program := "ytfifmkjidljeeaa", sum := "3bc28f92c4d334760898715ca4575c1d2ec1d4e6b130ad8b96bd992030670638", func := "postroad/postroadlaw09.TopoNil", spec := "topoNil", unfollowed := true, recurses := true, plainKeys := false, apart := false, narrowed := true }
def TopoNilUptoSaid : Prop := topoNilUptoRow.holds Try.pinned (OpenSpec.upto topoNilSpec)

end Rows
end Go.Proofs.Ytfifmkjidljeeaa
