/-
  No cell of these rows narrows 'for every input' (looked for: loops, veiled, ifaces, maps, wideKeys, modest, calm, conditions, laid).
  DERIVED. THE GIVEN ROWS OF THIS SEAT. 8 by the template 'for every input the law returns true; each argument reads behind the call as it read before'; 0 by the template 'total and deterministic' (their statements: YtmkjiflliejjjaaTotals.lean).
  GIVEN WITH THE SEED: the statements are not yours to turn. If you find one false, say at which input.
  Laid BY PROGRAM, IN A SANDBOX (cutbox-rows.mjs): the forced cells as the released guide's own fill.sh prints them over the translation a9155ef33d344002… (all of the seat's roots in one cut). By AI agents, Wed Nov 11 2026. No macro, syntax, notation, axiom, sorry.
-/
import Derived.Test.YtmkjiflliejjjaaChecked
import GoSem.Claim
import GoSem.ClaimJoined
import GoSem.ClaimMapViews
import Derived.JoinedTies
import Derived.KernelRfl
namespace Go.Proofs.Ytmkjiflliejjjaa
/- THE CELL 'sum', in the pinned program and in every row, IS THE sha256 OF THE DUMP (.gsa) THAT YtmkjiflliejjjaaProg.lean LOADS. Nothing in Lean hashes anything: it is a label: what it is worth is what the hold of that sum in a sandbox is worth. -/
noncomputable def Try.pinned : Pinned := { name := "ytmkjiflliejjjaa", sum := "a9155ef33d34400252e9f78d91fa5a2cef741ee258a35a92407b3187341abf12", checked := Try.checked }
namespace Rows
def none {H : Type} : Left H := { results := [], args := [] }

/-- 'postroadlaw03.CurveMakes': WHATEVER THE INPUT: true; the input reads as it did. -/
def curveMakesSpec : ChangeSpec := { name := "curveMakes", fn := fun _ => fun
  | [d1, d2, d3] => { results := [.lit (.bool true)], args := [d1, d2, d3] }
  | _ => none }
def curveMakesRow : OpenClaim := { program := "ytmkjiflliejjjaa", sum := "a9155ef33d34400252e9f78d91fa5a2cef741ee258a35a92407b3187341abf12", func := "postroad/postroadlaw03.CurveMakes", spec := "curveMakes", unfollowed := true, recurses := true, apart := false }
def CurveMakesSaid : Prop := curveMakesRow.holds Try.pinned (OpenSpec.ofChange curveMakesSpec)

/-- ITS FALSE NEIGHBOUR: 'it returns false'. Refute it at one input. -/
def curveMakesWrong : ChangeSpec := { name := "curveMakes", fn := fun _ => fun
  | [d1, d2, d3] => { results := [.lit (.bool false)], args := [d1, d2, d3] }
  | _ => none }
def CurveMakesWrongFalsely : Prop := curveMakesRow.holds Try.pinned (OpenSpec.ofChange curveMakesWrong)

/-- 'postroadlaw03.CurveLater': WHATEVER THE INPUT: true; the input reads as it did. -/
def curveLaterSpec : ChangeSpec := { name := "curveLater", fn := fun _ => fun
  | [d1, d2, d3] => { results := [.lit (.bool true)], args := [d1, d2, d3] }
  | _ => none }
def curveLaterRow : OpenClaim := { program := "ytmkjiflliejjjaa", sum := "a9155ef33d34400252e9f78d91fa5a2cef741ee258a35a92407b3187341abf12", func := "postroad/postroadlaw03.CurveLater", spec := "curveLater", unfollowed := true, recurses := true, apart := false }
def CurveLaterSaid : Prop := curveLaterRow.holds Try.pinned (OpenSpec.ofChange curveLaterSpec)

/-- ITS FALSE NEIGHBOUR: 'it returns false'. Refute it at one input. -/
def curveLaterWrong : ChangeSpec := { name := "curveLater", fn := fun _ => fun
  | [d1, d2, d3] => { results := [.lit (.bool false)], args := [d1, d2, d3] }
  | _ => none }
def CurveLaterWrongFalsely : Prop := curveLaterRow.holds Try.pinned (OpenSpec.ofChange curveLaterWrong)

/-- 'postroadlaw03.CurveTwice': WHATEVER THE INPUT: true; the input reads as it did. -/
def curveTwiceSpec : ChangeSpec := { name := "curveTwice", fn := fun _ => fun
  | [d1, d2, d3] => { results := [.lit (.bool true)], args := [d1, d2, d3] }
  | _ => none }
def curveTwiceRow : OpenClaim := { program := "ytmkjiflliejjjaa", sum := "a9155ef33d34400252e9f78d91fa5a2cef741ee258a35a92407b3187341abf12", func := "postroad/postroadlaw03.CurveTwice", spec := "curveTwice", unfollowed := true, recurses := true, apart := false }
def CurveTwiceSaid : Prop := curveTwiceRow.holds Try.pinned (OpenSpec.ofChange curveTwiceSpec)

/-- ITS FALSE NEIGHBOUR: 'it returns false'. Refute it at one input. -/
def curveTwiceWrong : ChangeSpec := { name := "curveTwice", fn := fun _ => fun
  | [d1, d2, d3] => { results := [.lit (.bool false)], args := [d1, d2, d3] }
  | _ => none }
def CurveTwiceWrongFalsely : Prop := curveTwiceRow.holds Try.pinned (OpenSpec.ofChange curveTwiceWrong)

/-- 'postroadlaw03.CurveChecks': WHATEVER THE INPUT: true; the input reads as it did. -/
def curveChecksSpec : ChangeSpec := { name := "curveChecks", fn := fun _ => fun
  | [d1, d2] => { results := [.lit (.bool true)], args := [d1, d2] }
  | _ => none }
def curveChecksRow : OpenClaim := { program := "ytmkjiflliejjjaa", sum := "a9155ef33d34400252e9f78d91fa5a2cef741ee258a35a92407b3187341abf12", func := "postroad/postroadlaw03.CurveChecks", spec := "curveChecks", unfollowed := true, recurses := true, apart := false }
def CurveChecksSaid : Prop := curveChecksRow.holds Try.pinned (OpenSpec.ofChange curveChecksSpec)

/-- ITS FALSE NEIGHBOUR: 'it returns false'. Refute it at one input. -/
def curveChecksWrong : ChangeSpec := { name := "curveChecks", fn := fun _ => fun
  | [d1, d2] => { results := [.lit (.bool false)], args := [d1, d2] }
  | _ => none }
def CurveChecksWrongFalsely : Prop := curveChecksRow.holds Try.pinned (OpenSpec.ofChange curveChecksWrong)

/-- 'postroadlaw03.CurveBelow': WHATEVER THE INPUT: true; the input reads as it did. -/
def curveBelowSpec : ChangeSpec := { name := "curveBelow", fn := fun _ => fun
  | [d1, d2, d3] => { results := [.lit (.bool true)], args := [d1, d2, d3] }
  | _ => none }
def curveBelowRow : OpenClaim := { program := "ytmkjiflliejjjaa", sum := "a9155ef33d34400252e9f78d91fa5a2cef741ee258a35a92407b3187341abf12", func := "postroad/postroadlaw03.CurveBelow", spec := "curveBelow", unfollowed := true, recurses := true, apart := false }
def CurveBelowSaid : Prop := curveBelowRow.holds Try.pinned (OpenSpec.ofChange curveBelowSpec)

/-- ITS FALSE NEIGHBOUR: 'it returns false'. Refute it at one input. -/
def curveBelowWrong : ChangeSpec := { name := "curveBelow", fn := fun _ => fun
  | [d1, d2, d3] => { results := [.lit (.bool false)], args := [d1, d2, d3] }
  | _ => none }
def CurveBelowWrongFalsely : Prop := curveBelowRow.holds Try.pinned (OpenSpec.ofChange curveBelowWrong)

/-- 'postroadlaw03.CurveSpecs': WHATEVER THE INPUT: true; the input reads as it did. -/
def curveSpecsSpec : ChangeSpec := { name := "curveSpecs", fn := fun _ => fun
  | [d1, d2] => { results := [.lit (.bool true)], args := [d1, d2] }
  | _ => none }
def curveSpecsRow : OpenClaim := { program := "ytmkjiflliejjjaa", sum := "a9155ef33d34400252e9f78d91fa5a2cef741ee258a35a92407b3187341abf12", func := "postroad/postroadlaw03.CurveSpecs", spec := "curveSpecs", unfollowed := true, recurses := true, apart := false }
def CurveSpecsSaid : Prop := curveSpecsRow.holds Try.pinned (OpenSpec.ofChange curveSpecsSpec)

/-- ITS FALSE NEIGHBOUR: 'it returns false'. Refute it at one input. -/
def curveSpecsWrong : ChangeSpec := { name := "curveSpecs", fn := fun _ => fun
  | [d1, d2] => { results := [.lit (.bool false)], args := [d1, d2] }
  | _ => none }
def CurveSpecsWrongFalsely : Prop := curveSpecsRow.holds Try.pinned (OpenSpec.ofChange curveSpecsWrong)

/-- 'postroadlaw03.CurveMins': WHATEVER THE INPUT: true; the input reads as it did. -/
def curveMinsSpec : ChangeSpec := { name := "curveMins", fn := fun _ => fun
  | [d1, d2, d3] => { results := [.lit (.bool true)], args := [d1, d2, d3] }
  | _ => none }
def curveMinsRow : OpenClaim := { program := "ytmkjiflliejjjaa", sum := "a9155ef33d34400252e9f78d91fa5a2cef741ee258a35a92407b3187341abf12", func := "postroad/postroadlaw03.CurveMins", spec := "curveMins", unfollowed := true, recurses := true, apart := false }
def CurveMinsSaid : Prop := curveMinsRow.holds Try.pinned (OpenSpec.ofChange curveMinsSpec)

/-- ITS FALSE NEIGHBOUR: 'it returns false'. Refute it at one input. -/
def curveMinsWrong : ChangeSpec := { name := "curveMins", fn := fun _ => fun
  | [d1, d2, d3] => { results := [.lit (.bool false)], args := [d1, d2, d3] }
  | _ => none }
def CurveMinsWrongFalsely : Prop := curveMinsRow.holds Try.pinned (OpenSpec.ofChange curveMinsWrong)

/-- 'postroadlaw03.CurveSums': WHATEVER THE INPUT: true; the input reads as it did. -/
def curveSumsSpec : ChangeSpec := { name := "curveSums", fn := fun _ => fun
  | [d1, d2, d3] => { results := [.lit (.bool true)], args := [d1, d2, d3] }
  | _ => none }
def curveSumsRow : OpenClaim := { program := "ytmkjiflliejjjaa", sum := "a9155ef33d34400252e9f78d91fa5a2cef741ee258a35a92407b3187341abf12", func := "postroad/postroadlaw03.CurveSums", spec := "curveSums", unfollowed := true, recurses := true, apart := false }
def CurveSumsSaid : Prop := curveSumsRow.holds Try.pinned (OpenSpec.ofChange curveSumsSpec)

/-- ITS FALSE NEIGHBOUR: 'it returns false'. Refute it at one input. -/
def curveSumsWrong : ChangeSpec := { name := "curveSums", fn := fun _ => fun
  | [d1, d2, d3] => { results := [.lit (.bool false)], args := [d1, d2, d3] }
  | _ => none }
def CurveSumsWrongFalsely : Prop := curveSumsRow.holds Try.pinned (OpenSpec.ofChange curveSumsWrong)

/- THE SECOND FORM. 'bulk': how many values and letters a reading holds, each counted each time it is reached (what is shared counts as often as it is met; a slice's spare places count too). A statement '..UptoSaid' is the law's where the arguments, and the package variables that the reading takes, are together of bulk at most 1048576: NARROWER than '..Said'. Prove '..Said' where nothing that the law and all that it calls make is longer than what came in: it says more and counts as full. Else prove '..UptoSaid'. A law counts once. -/
mutual
def uptoBulk {H : Type} : DataW H → Nat
  | .lit (.string bytes) => bytes.length + 1
  | .lit _ => 1
  | .nil => 1
  | .ptr d => uptoBulk d + 1
  | .slice elems spare => uptoBulkAll elems + uptoBulkAll spare + 1
  | .agg parts => uptoBulkAll parts + 1
  | .iface _ d => uptoBulk d + 1
  | .map entries => uptoBulkEntries entries + 1
  | .held _ => 1
def uptoBulkAll {H : Type} : List (DataW H) → Nat
  | [] => 0
  | d :: r => uptoBulk d + uptoBulkAll r
def uptoBulkEntries {H : Type} : List (Lit × DataW H) → Nat
  | [] => 0
  | x :: r => uptoBulkEntry x + uptoBulkEntries r
def uptoBulkEntry {H : Type} : Lit × DataW H → Nat
  | (.string bytes, d) => bytes.length + uptoBulk d + 1
  | (_, d) => uptoBulk d + 1
 end
def uptoSmall : (H : Type) → List (DataW H) → Bool := fun _ ds => decide (uptoBulkAll ds ≤ 1048576)
def OpenSpec.upto (s : _root_.Go.ChangeSpec) : _root_.Go.OpenSpec := { _root_.Go.OpenSpec.ofChange s with cond := some uptoSmall }

/-- 'postroadlaw03.CurveMakes', WHERE WHAT IT READS IS OF BULK AT MOST 1048576: true; the input reads as it did. -/
def curveMakesUptoRow : OpenClaim := { program := "ytmkjiflliejjjaa", sum := "a9155ef33d34400252e9f78d91fa5a2cef741ee258a35a92407b3187341abf12", func := "postroad/postroadlaw03.CurveMakes", spec := "curveMakes", unfollowed := true, recurses := true, apart := false, narrowed := true }
def CurveMakesUptoSaid : Prop := curveMakesUptoRow.holds Try.pinned (OpenSpec.upto curveMakesSpec)

/-- 'postroadlaw03.CurveLater', WHERE WHAT IT READS IS OF BULK AT MOST 1048576: true; the input reads as it did. -/
def curveLaterUptoRow : OpenClaim := { program := "ytmkjiflliejjjaa", sum := "a9155ef33d34400252e9f78d91fa5a2cef741ee258a35a92407b3187341abf12", func := "postroad/postroadlaw03.CurveLater", spec := "curveLater", unfollowed := true, recurses := true, apart := false, narrowed := true }
def CurveLaterUptoSaid : Prop := curveLaterUptoRow.holds Try.pinned (OpenSpec.upto curveLaterSpec)

/-- 'postroadlaw03.CurveTwice', WHERE WHAT IT READS IS OF BULK AT MOST 1048576: true; the input reads as it did. -/
def curveTwiceUptoRow : OpenClaim := { program := "ytmkjiflliejjjaa", sum := "a9155ef33d34400252e9f78d91fa5a2cef741ee258a35a92407b3187341abf12", func := "postroad/postroadlaw03.CurveTwice", spec := "curveTwice", unfollowed := true, recurses := true, apart := false, narrowed := true }
def CurveTwiceUptoSaid : Prop := curveTwiceUptoRow.holds Try.pinned (OpenSpec.upto curveTwiceSpec)

/-- 'postroadlaw03.CurveChecks', WHERE WHAT IT READS IS OF BULK AT MOST 1048576: true; the input reads as it did. -/
def curveChecksUptoRow : OpenClaim := { program := "ytmkjiflliejjjaa", sum := "a9155ef33d34400252e9f78d91fa5a2cef741ee258a35a92407b3187341abf12", func := "postroad/postroadlaw03.CurveChecks", spec := "curveChecks", unfollowed := true, recurses := true, apart := false, narrowed := true }
def CurveChecksUptoSaid : Prop := curveChecksUptoRow.holds Try.pinned (OpenSpec.upto curveChecksSpec)

/-- 'postroadlaw03.CurveBelow', WHERE WHAT IT READS IS OF BULK AT MOST 1048576: true; the input reads as it did. -/
def curveBelowUptoRow : OpenClaim := { program := "ytmkjiflliejjjaa", sum := "a9155ef33d34400252e9f78d91fa5a2cef741ee258a35a92407b3187341abf12", func := "postroad/postroadlaw03.CurveBelow", spec := "curveBelow", unfollowed := true, recurses := true, apart := false, narrowed := true }
def CurveBelowUptoSaid : Prop := curveBelowUptoRow.holds Try.pinned (OpenSpec.upto curveBelowSpec)

/-- 'postroadlaw03.CurveSpecs', WHERE WHAT IT READS IS OF BULK AT MOST 1048576: true; the input reads as it did. -/
def curveSpecsUptoRow : OpenClaim := { program := "ytmkjiflliejjjaa", sum := "a9155ef33d34400252e9f78d91fa5a2cef741ee258a35a92407b3187341abf12", func := "postroad/postroadlaw03.CurveSpecs", spec := "curveSpecs", unfollowed := true, recurses := true, apart := false, narrowed := true }
def CurveSpecsUptoSaid : Prop := curveSpecsUptoRow.holds Try.pinned (OpenSpec.upto curveSpecsSpec)

/-- 'postroadlaw03.CurveMins', WHERE WHAT IT READS IS OF BULK AT MOST 1048576: true; the input reads as it did. -/
def curveMinsUptoRow : OpenClaim := { program := "ytmkjiflliejjjaa", sum := "a9155ef33d34400252e9f78d91fa5a2cef741ee258a35a92407b3187341abf12", func := "postroad/postroadlaw03.CurveMins", spec := "curveMins", unfollowed := true, recurses := true, apart := false, narrowed := true }
def CurveMinsUptoSaid : Prop := curveMinsUptoRow.holds Try.pinned (OpenSpec.upto curveMinsSpec)

/-- 'postroadlaw03.CurveSums', WHERE WHAT IT READS IS OF BULK AT MOST 1048576: true; the input reads as it did. -/
def curveSumsUptoRow : OpenClaim := { program := "ytmkjiflliejjjaa", sum := "a9155ef33d34400252e9f78d91fa5a2cef741ee258a35a92407b3187341abf12", func := "postroad/postroadlaw03.CurveSums", spec := "curveSums", unfollowed := true, recurses := true, apart := false, narrowed := true }
def CurveSumsUptoSaid : Prop := curveSumsUptoRow.holds Try.pinned (OpenSpec.upto curveSumsSpec)

end Rows
end Go.Proofs.Ytmkjiflliejjjaa
