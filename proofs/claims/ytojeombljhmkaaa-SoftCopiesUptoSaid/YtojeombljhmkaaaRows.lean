/-
  No cell of these rows narrows 'for every input' (looked for: loops, veiled, ifaces, maps, wideKeys, modest, calm, conditions, laid).
  DERIVED. THE GIVEN ROWS OF THIS SEAT. 6 by the template 'for every input the law returns true; each argument reads behind the call as it read before'; 0 by the template 'total and deterministic' (their statements: YtojeombljhmkaaaTotals.lean).
  GIVEN WITH THE SEED: the statements are not yours to turn. If you find one false, say at which input.
  Laid BY PROGRAM, IN A SANDBOX (cutbox-rows.mjs): the forced cells as the released guide's own fill.sh prints them over the translation 05714abb598501c0… (all of the seat's roots in one cut). By AI agents, Wed Nov 11 2026. No macro, syntax, notation, axiom, sorry.
-/
import Derived.Test.YtojeombljhmkaaaChecked
import GoSem.Claim
import GoSem.ClaimJoined
import GoSem.ClaimMapViews
import Derived.JoinedTies
import Derived.KernelRfl
namespace Go.Proofs.Ytojeombljhmkaaa
/- THE CELL 'sum', in the pinned program and in every row, IS THE sha256 OF THE DUMP (.gsa) THAT YtojeombljhmkaaaProg.lean LOADS. Nothing in Lean hashes anything: it is a label: what it is worth is what the hold of that sum in a sandbox is worth. -/
noncomputable def Try.pinned : Pinned := { name := "ytojeombljhmkaaa", sum := "05714abb598501c05b0454863b1436e426ab5f3fcd9c75b78f62754d5e696c1d", checked := Try.checked }
namespace Rows
def none {H : Type} : Left H := { results := [], args := [] }

/-- 'postroadlaw19.SoftMany': WHATEVER THE INPUT: true; the input reads as it did. -/
def softManySpec : ChangeSpec := { name := "softMany", fn := fun _ => fun
  | [d] => { results := [.lit (.bool true)], args := [d] }
  | _ => none }
def softManyRow : OpenClaim := { program := "ytojeombljhmkaaa", sum := "05714abb598501c05b0454863b1436e426ab5f3fcd9c75b78f62754d5e696c1d", func := "postroad/postroadlaw19.SoftMany", spec := "softMany", unfollowed := true, recurses := true, apart := false }
def SoftManySaid : Prop := softManyRow.holds Try.pinned (OpenSpec.ofChange softManySpec)

/-- ITS FALSE NEIGHBOUR: 'it returns false'. Refute it at one input. -/
def softManyWrong : ChangeSpec := { name := "softMany", fn := fun _ => fun
  | [d] => { results := [.lit (.bool false)], args := [d] }
  | _ => none }
def SoftManyWrongFalsely : Prop := softManyRow.holds Try.pinned (OpenSpec.ofChange softManyWrong)

/-- 'postroadlaw19.SoftJumps': WHATEVER THE INPUT: true; the input reads as it did. -/
def softJumpsSpec : ChangeSpec := { name := "softJumps", fn := fun _ => fun
  | [d1, d2, d3] => { results := [.lit (.bool true)], args := [d1, d2, d3] }
  | _ => none }
def softJumpsRow : OpenClaim := { program := "ytojeombljhmkaaa", sum := "05714abb598501c05b0454863b1436e426ab5f3fcd9c75b78f62754d5e696c1d", func := "postroad/postroadlaw19.SoftJumps", spec := "softJumps", unfollowed := true, recurses := true, apart := false }
def SoftJumpsSaid : Prop := softJumpsRow.holds Try.pinned (OpenSpec.ofChange softJumpsSpec)

/-- ITS FALSE NEIGHBOUR: 'it returns false'. Refute it at one input. -/
def softJumpsWrong : ChangeSpec := { name := "softJumps", fn := fun _ => fun
  | [d1, d2, d3] => { results := [.lit (.bool false)], args := [d1, d2, d3] }
  | _ => none }
def SoftJumpsWrongFalsely : Prop := softJumpsRow.holds Try.pinned (OpenSpec.ofChange softJumpsWrong)

/-- 'postroadlaw19.SoftLives': WHATEVER THE INPUT: true; the input reads as it did. -/
def softLivesSpec : ChangeSpec := { name := "softLives", fn := fun _ => fun
  | [d1, d2] => { results := [.lit (.bool true)], args := [d1, d2] }
  | _ => none }
def softLivesRow : OpenClaim := { program := "ytojeombljhmkaaa", sum := "05714abb598501c05b0454863b1436e426ab5f3fcd9c75b78f62754d5e696c1d", func := "postroad/postroadlaw19.SoftLives", spec := "softLives", unfollowed := true, recurses := true, apart := false }
def SoftLivesSaid : Prop := softLivesRow.holds Try.pinned (OpenSpec.ofChange softLivesSpec)

/-- ITS FALSE NEIGHBOUR: 'it returns false'. Refute it at one input. -/
def softLivesWrong : ChangeSpec := { name := "softLives", fn := fun _ => fun
  | [d1, d2] => { results := [.lit (.bool false)], args := [d1, d2] }
  | _ => none }
def SoftLivesWrongFalsely : Prop := softLivesRow.holds Try.pinned (OpenSpec.ofChange softLivesWrong)

/-- 'postroadlaw19.SoftPlay': WHATEVER THE INPUT: true; the input reads as it did. -/
def softPlaySpec : ChangeSpec := { name := "softPlay", fn := fun _ => fun
  | [d1, d2, d3] => { results := [.lit (.bool true)], args := [d1, d2, d3] }
  | _ => none }
def softPlayRow : OpenClaim := { program := "ytojeombljhmkaaa", sum := "05714abb598501c05b0454863b1436e426ab5f3fcd9c75b78f62754d5e696c1d", func := "postroad/postroadlaw19.SoftPlay", spec := "softPlay", unfollowed := true, recurses := true, apart := false }
def SoftPlaySaid : Prop := softPlayRow.holds Try.pinned (OpenSpec.ofChange softPlaySpec)

/-- ITS FALSE NEIGHBOUR: 'it returns false'. Refute it at one input. -/
def softPlayWrong : ChangeSpec := { name := "softPlay", fn := fun _ => fun
  | [d1, d2, d3] => { results := [.lit (.bool false)], args := [d1, d2, d3] }
  | _ => none }
def SoftPlayWrongFalsely : Prop := softPlayRow.holds Try.pinned (OpenSpec.ofChange softPlayWrong)

/-- 'postroadlaw19.SoftCopies': WHATEVER THE INPUT: true; the input reads as it did. -/
def softCopiesSpec : ChangeSpec := { name := "softCopies", fn := fun _ => fun
  | [d1, d2, d3] => { results := [.lit (.bool true)], args := [d1, d2, d3] }
  | _ => none }
def softCopiesRow : OpenClaim := { program := "ytojeombljhmkaaa", sum := "05714abb598501c05b0454863b1436e426ab5f3fcd9c75b78f62754d5e696c1d", func := "postroad/postroadlaw19.SoftCopies", spec := "softCopies", unfollowed := true, recurses := true, apart := false }
def SoftCopiesSaid : Prop := softCopiesRow.holds Try.pinned (OpenSpec.ofChange softCopiesSpec)

/-- ITS FALSE NEIGHBOUR: 'it returns false'. Refute it at one input. -/
def softCopiesWrong : ChangeSpec := { name := "softCopies", fn := fun _ => fun
  | [d1, d2, d3] => { results := [.lit (.bool false)], args := [d1, d2, d3] }
  | _ => none }
def SoftCopiesWrongFalsely : Prop := softCopiesRow.holds Try.pinned (OpenSpec.ofChange softCopiesWrong)

/-- 'postroadlaw19.SoftNil': WHATEVER THE INPUT: true; the input reads as it did. -/
def softNilSpec : ChangeSpec := { name := "softNil", fn := fun _ => fun
  | [d1, d2] => { results := [.lit (.bool true)], args := [d1, d2] }
  | _ => none }
def softNilRow : OpenClaim := { program := "ytojeombljhmkaaa", sum := "05714abb598501c05b0454863b1436e426ab5f3fcd9c75b78f62754d5e696c1d", func := "postroad/postroadlaw19.SoftNil", spec := "softNil", unfollowed := true, recurses := true, apart := false }
def SoftNilSaid : Prop := softNilRow.holds Try.pinned (OpenSpec.ofChange softNilSpec)

/-- ITS FALSE NEIGHBOUR: 'it returns false'. Refute it at one input. -/
def softNilWrong : ChangeSpec := { name := "softNil", fn := fun _ => fun
  | [d1, d2] => { results := [.lit (.bool false)], args := [d1, d2] }
  | _ => none }
def SoftNilWrongFalsely : Prop := softNilRow.holds Try.pinned (OpenSpec.ofChange softNilWrong)

/- THE SECOND FORM. 'bulk': how many values and letters a reading holds, each counted each time it is reached (what is shared counts as often as it is met; a slice's spare places count too). A statement '..UptoSaid' is the law's where the arguments, and the package variables that the reading takes, are together of bulk at most 1048576: NARROWER than '..Said'. Prove '..Said' where nothing that the law and all that it calls make is longer than what came in: it says more and counts as full. Else prove '..UptoSaid'. A law counts once. -/
mutual
def uptoBulk {H : Type} : DataW H → Nat
  | .lit (.string bytes) => bytes.length + 1
  | .lit _ => 1
  | .nil => 1
  | .ptr d => uptoBulk d + 1
  | .slice elems spare => uptoBulkAll elems + uptoBulkAll spare + 1
  | .agg parts => uptoBulkAll parts + 1
  | .iface _ d => uptoBulk d + 1
  | .map entries => uptoBulkEntries entries + 1
  | .held _ => 1
def uptoBulkAll {H : Type} : List (DataW H) → Nat
  | [] => 0
  | d :: r => uptoBulk d + uptoBulkAll r
def uptoBulkEntries {H : Type} : List (Lit × DataW H) → Nat
  | [] => 0
  | x :: r => uptoBulkEntry x + uptoBulkEntries r
def uptoBulkEntry {H : Type} : Lit × DataW H → Nat
  | (.string bytes, d) => bytes.length + uptoBulk d + 1
  | (_, d) => uptoBulk d + 1
 end
def uptoSmall : (H : Type) → List (DataW H) → Bool := fun _ ds => decide (uptoBulkAll ds ≤ 1048576)
def OpenSpec.upto (s : _root_.Go.ChangeSpec) : _root_.Go.OpenSpec := { _root_.Go.OpenSpec.ofChange s with cond := some uptoSmall }

/-- 'postroadlaw19.SoftMany', WHERE WHAT IT READS IS OF BULK AT MOST 1048576: true; the input reads as it did. -/
def softManyUptoRow : OpenClaim := { program := "ytojeombljhmkaaa", sum := "05714abb598501c05b0454863b1436e426ab5f3fcd9c75b78f62754d5e696c1d", func := "postroad/postroadlaw19.SoftMany", spec := "softMany", unfollowed := true, recurses := true, apart := false, narrowed := true }
def SoftManyUptoSaid : Prop := softManyUptoRow.holds Try.pinned (OpenSpec.upto softManySpec)

/-- 'postroadlaw19.SoftJumps', WHERE WHAT IT READS IS OF BULK AT MOST 1048576: true; the input reads as it did. -/
def softJumpsUptoRow : OpenClaim := { program := "ytojeombljhmkaaa", sum := "05714abb598501c05b0454863b1436e426ab5f3fcd9c75b78f62754d5e696c1d", func := "postroad/postroadlaw19.SoftJumps", spec := "softJumps", unfollowed := true, recurses := true, apart := false, narrowed := true }
def SoftJumpsUptoSaid : Prop := softJumpsUptoRow.holds Try.pinned (OpenSpec.upto softJumpsSpec)

/-- 'postroadlaw19.SoftLives', WHERE WHAT IT READS IS OF BULK AT MOST 1048576: true; the input reads as it did. -/
def softLivesUptoRow : OpenClaim := { program := "ytojeombljhmkaaa", sum := "05714abb598501c05b0454863b1436e426ab5f3fcd9c75b78f62754d5e696c1d", func := "postroad/postroadlaw19.SoftLives", spec := "softLives", unfollowed := true, recurses := true, apart := false, narrowed := true }
def SoftLivesUptoSaid : Prop := softLivesUptoRow.holds Try.pinned (OpenSpec.upto softLivesSpec)

/-- 'postroadlaw19.SoftPlay', WHERE WHAT IT READS IS OF BULK AT MOST 1048576: true; the input reads as it did. -/
def softPlayUptoRow : OpenClaim := { program := "ytojeombljhmkaaa", sum := "05714abb598501c05b0454863b1436e426ab5f3fcd9c75b78f62754d5e696c1d", func := "postroad/postroadlaw19.SoftPlay", spec := "softPlay", unfollowed := true, recurses := true, apart := false, narrowed := true }
def SoftPlayUptoSaid : Prop := softPlayUptoRow.holds Try.pinned (OpenSpec.upto softPlaySpec)

/-- 'postroadlaw19.SoftCopies', WHERE WHAT IT READS IS OF BULK AT MOST 1048576: true; the input reads as it did. -/
def softCopiesUptoRow : OpenClaim := { program := "ytojeombljhmkaaa", sum := "05714abb598501c05b0454863b1436e426ab5f3fcd9c75b78f62754d5e696c1d", func := "postroad/postroadlaw19.SoftCopies", spec := "softCopies", unfollowed := true, recurses := true, apart := false, narrowed := true }
def SoftCopiesUptoSaid : Prop := softCopiesUptoRow.holds Try.pinned (OpenSpec.upto softCopiesSpec)

/-- 'postroadlaw19.SoftNil', WHERE WHAT IT READS IS OF BULK AT MOST 1048576: true; the input reads as it did. -/
def softNilUptoRow : OpenClaim := { program := "ytojeombljhmkaaa", sum := "05714abb598501c05b0454863b1436e426ab5f3fcd9c75b78f62754d5e696c1d", func := "postroad/postroadlaw19.SoftNil", spec := "softNil", unfollowed := true, recurses := true, apart := false, narrowed := true }
def SoftNilUptoSaid : Prop := softNilUptoRow.holds Try.pinned (OpenSpec.upto softNilSpec)

end Rows
end Go.Proofs.Ytojeombljhmkaaa
