/-
  No cell of these rows narrows 'for every input' (looked for: loops, veiled, ifaces, maps, wideKeys, modest, calm, conditions, laid).
  DERIVED. THE GIVEN ROWS OF THIS SEAT. 7 by the template 'for every input the law returns true; each argument reads behind the call as it read before'; 0 by the template 'total and deterministic' (their statements: YtfnijjjfodpnnaaTotals.lean).
  GIVEN WITH THE SEED: the statements are not yours to turn. If you find one false, say at which input.
  Laid BY PROGRAM, IN A SANDBOX (cutbox-rows.mjs): the forced cells as the released guide's own fill.sh prints them over the translation dd231514bbada97a… (all of the seat's roots in one cut). By AI agents, Wed Nov 11 2026. No macro, syntax, notation, axiom, sorry.
-/
import Derived.Test.YtfnijjjfodpnnaaChecked
import GoSem.Claim
import GoSem.ClaimJoined
import GoSem.ClaimMapViews
import Derived.JoinedTies
import Derived.KernelRfl
namespace Go.Proofs.Ytfnijjjfodpnnaa
/- THE CELL 'sum', in the pinned program and in every row, IS THE sha256 OF THE DUMP (.gsa) THAT YtfnijjjfodpnnaaProg.lean LOADS. Nothing in Lean hashes anything: it is a label: what it is worth is what the hold of that sum in a sandbox is worth. -/
noncomputable def Try.pinned : Pinned := { name := "ytfnijjjfodpnnaa", sum := "dd231514bbada97a98ab387a9f4d7312aea9723e4bc7cd833d1ea85626434176", checked := Try.checked }
namespace Rows
def none {H : Type} : Left H := { results := [], args := [] }

/-- 'postroadlaw17.LedgerBound': WHATEVER THE INPUT: true; the input reads as it did. -/
def ledgerBoundSpec : ChangeSpec := { name := "ledgerBound", fn := fun _ => fun
  | [d1, d2, d3] => { results := [.lit (.bool true)], args := [d1, d2, d3] }
  | _ => none }
def ledgerBoundRow : OpenClaim := { program := "ytfnijjjfodpnnaa", sum := "dd231514bbada97a98ab387a9f4d7312aea9723e4bc7cd833d1ea85626434176", func := "postroad/postroadlaw17.LedgerBound", spec := "ledgerBound", unfollowed := true, recurses := true, apart := false }
def LedgerBoundSaid : Prop := ledgerBoundRow.holds Try.pinned (OpenSpec.ofChange ledgerBoundSpec)

/-- ITS FALSE NEIGHBOUR: 'it returns false'. Refute it at one input. -/
def ledgerBoundWrong : ChangeSpec := { name := "ledgerBound", fn := fun _ => fun
  | [d1, d2, d3] => { results := [.lit (.bool false)], args := [d1, d2, d3] }
  | _ => none }
def LedgerBoundWrongFalsely : Prop := ledgerBoundRow.holds Try.pinned (OpenSpec.ofChange ledgerBoundWrong)

/-- 'postroadlaw17.LedgerLingers': WHATEVER THE INPUT: true; the input reads as it did. -/
def ledgerLingersSpec : ChangeSpec := { name := "ledgerLingers", fn := fun _ => fun
  | [d1, d2, d3] => { results := [.lit (.bool true)], args := [d1, d2, d3] }
  | _ => none }
def ledgerLingersRow : OpenClaim := { program := "ytfnijjjfodpnnaa", sum := "dd231514bbada97a98ab387a9f4d7312aea9723e4bc7cd833d1ea85626434176", func := "postroad/postroadlaw17.LedgerLingers", spec := "ledgerLingers", unfollowed := true, recurses := true, apart := false }
def LedgerLingersSaid : Prop := ledgerLingersRow.holds Try.pinned (OpenSpec.ofChange ledgerLingersSpec)

/-- ITS FALSE NEIGHBOUR: 'it returns false'. Refute it at one input. -/
def ledgerLingersWrong : ChangeSpec := { name := "ledgerLingers", fn := fun _ => fun
  | [d1, d2, d3] => { results := [.lit (.bool false)], args := [d1, d2, d3] }
  | _ => none }
def LedgerLingersWrongFalsely : Prop := ledgerLingersRow.holds Try.pinned (OpenSpec.ofChange ledgerLingersWrong)

/-- 'postroadlaw17.LedgerBack': WHATEVER THE INPUT: true; the input reads as it did. -/
def ledgerBackSpec : ChangeSpec := { name := "ledgerBack", fn := fun _ => fun
  | [d1, d2, d3] => { results := [.lit (.bool true)], args := [d1, d2, d3] }
  | _ => none }
def ledgerBackRow : OpenClaim := { program := "ytfnijjjfodpnnaa", sum := "dd231514bbada97a98ab387a9f4d7312aea9723e4bc7cd833d1ea85626434176", func := "postroad/postroadlaw17.LedgerBack", spec := "ledgerBack", inPlace := ["maps.clone"], unfollowed := true, recurses := true, apart := false }
def LedgerBackSaid : Prop := ledgerBackRow.holds Try.pinned (OpenSpec.ofChange ledgerBackSpec)

/-- ITS FALSE NEIGHBOUR: 'it returns false'. Refute it at one input. -/
def ledgerBackWrong : ChangeSpec := { name := "ledgerBack", fn := fun _ => fun
  | [d1, d2, d3] => { results := [.lit (.bool false)], args := [d1, d2, d3] }
  | _ => none }
def LedgerBackWrongFalsely : Prop := ledgerBackRow.holds Try.pinned (OpenSpec.ofChange ledgerBackWrong)

/-- 'postroadlaw17.LedgerMany': WHATEVER THE INPUT: true; the input reads as it did. -/
def ledgerManySpec : ChangeSpec := { name := "ledgerMany", fn := fun _ => fun
  | [d] => { results := [.lit (.bool true)], args := [d] }
  | _ => none }
def ledgerManyRow : OpenClaim := { program := "ytfnijjjfodpnnaa", sum := "dd231514bbada97a98ab387a9f4d7312aea9723e4bc7cd833d1ea85626434176", func := "postroad/postroadlaw17.LedgerMany", spec := "ledgerMany", unfollowed := true, recurses := true, apart := false }
def LedgerManySaid : Prop := ledgerManyRow.holds Try.pinned (OpenSpec.ofChange ledgerManySpec)

/-- ITS FALSE NEIGHBOUR: 'it returns false'. Refute it at one input. -/
def ledgerManyWrong : ChangeSpec := { name := "ledgerMany", fn := fun _ => fun
  | [d] => { results := [.lit (.bool false)], args := [d] }
  | _ => none }
def LedgerManyWrongFalsely : Prop := ledgerManyRow.holds Try.pinned (OpenSpec.ofChange ledgerManyWrong)

/-- 'postroadlaw17.LedgerPlay': WHATEVER THE INPUT: true; the input reads as it did. -/
def ledgerPlaySpec : ChangeSpec := { name := "ledgerPlay", fn := fun _ => fun
  | [d1, d2, d3] => { results := [.lit (.bool true)], args := [d1, d2, d3] }
  | _ => none }
def ledgerPlayRow : OpenClaim := { program := "ytfnijjjfodpnnaa", sum := "dd231514bbada97a98ab387a9f4d7312aea9723e4bc7cd833d1ea85626434176", func := "postroad/postroadlaw17.LedgerPlay", spec := "ledgerPlay", unfollowed := true, recurses := true, apart := false }
def LedgerPlaySaid : Prop := ledgerPlayRow.holds Try.pinned (OpenSpec.ofChange ledgerPlaySpec)

/-- ITS FALSE NEIGHBOUR: 'it returns false'. Refute it at one input. -/
def ledgerPlayWrong : ChangeSpec := { name := "ledgerPlay", fn := fun _ => fun
  | [d1, d2, d3] => { results := [.lit (.bool false)], args := [d1, d2, d3] }
  | _ => none }
def LedgerPlayWrongFalsely : Prop := ledgerPlayRow.holds Try.pinned (OpenSpec.ofChange ledgerPlayWrong)

/-- 'postroadlaw17.LedgerCopies': WHATEVER THE INPUT: true; the input reads as it did. -/
def ledgerCopiesSpec : ChangeSpec := { name := "ledgerCopies", fn := fun _ => fun
  | [d1, d2, d3] => { results := [.lit (.bool true)], args := [d1, d2, d3] }
  | _ => none }
def ledgerCopiesRow : OpenClaim := { program := "ytfnijjjfodpnnaa", sum := "dd231514bbada97a98ab387a9f4d7312aea9723e4bc7cd833d1ea85626434176", func := "postroad/postroadlaw17.LedgerCopies", spec := "ledgerCopies", inPlace := ["maps.clone"], unfollowed := true, recurses := true, apart := false }
def LedgerCopiesSaid : Prop := ledgerCopiesRow.holds Try.pinned (OpenSpec.ofChange ledgerCopiesSpec)

/-- ITS FALSE NEIGHBOUR: 'it returns false'. Refute it at one input. -/
def ledgerCopiesWrong : ChangeSpec := { name := "ledgerCopies", fn := fun _ => fun
  | [d1, d2, d3] => { results := [.lit (.bool false)], args := [d1, d2, d3] }
  | _ => none }
def LedgerCopiesWrongFalsely : Prop := ledgerCopiesRow.holds Try.pinned (OpenSpec.ofChange ledgerCopiesWrong)

/-- 'postroadlaw17.LedgerNil': WHATEVER THE INPUT: true; the input reads as it did. -/
def ledgerNilSpec : ChangeSpec := { name := "ledgerNil", fn := fun _ => fun
  | [d1, d2] => { results := [.lit (.bool true)], args := [d1, d2] }
  | _ => none }
def ledgerNilRow : OpenClaim := { program := "ytfnijjjfodpnnaa", sum := "dd231514bbada97a98ab387a9f4d7312aea9723e4bc7cd833d1ea85626434176", func := "postroad/postroadlaw17.LedgerNil", spec := "ledgerNil", inPlace := ["maps.clone"], unfollowed := true, recurses := true, apart := false }
def LedgerNilSaid : Prop := ledgerNilRow.holds Try.pinned (OpenSpec.ofChange ledgerNilSpec)

/-- ITS FALSE NEIGHBOUR: 'it returns false'. Refute it at one input. -/
def ledgerNilWrong : ChangeSpec := { name := "ledgerNil", fn := fun _ => fun
  | [d1, d2] => { results := [.lit (.bool false)], args := [d1, d2] }
  | _ => none }
def LedgerNilWrongFalsely : Prop := ledgerNilRow.holds Try.pinned (OpenSpec.ofChange ledgerNilWrong)

/- THE SECOND FORM. 'bulk': how many values and letters a reading holds, each counted each time it is reached (what is shared counts as often as it is met; a slice's spare places count too). A statement '..UptoSaid' is the law's where the arguments, and the package variables that the reading takes, are together of bulk at most 1048576: NARROWER than '..Said'. Prove '..Said' where nothing that the law and all that it calls make is longer than what came in: it says more and counts as full. Else prove '..UptoSaid'. A law counts once. -/
mutual
def uptoBulk {H : Type} : DataW H → Nat
  | .lit (.string bytes) => bytes.length + 1
  | .lit _ => 1
  | .nil => 1
  | .ptr d => uptoBulk d + 1
  | .slice elems spare => uptoBulkAll elems + uptoBulkAll spare + 1
  | .agg parts => uptoBulkAll parts + 1
  | .iface _ d => uptoBulk d + 1
  | .map entries => uptoBulkEntries entries + 1
  | .held _ => 1
def uptoBulkAll {H : Type} : List (DataW H) → Nat
  | [] => 0
  | d :: r => uptoBulk d + uptoBulkAll r
def uptoBulkEntries {H : Type} : List (Lit × DataW H) → Nat
  | [] => 0
  | x :: r => uptoBulkEntry x + uptoBulkEntries r
def uptoBulkEntry {H : Type} : Lit × DataW H → Nat
  | (.string bytes, d) => bytes.length + uptoBulk d + 1
  | (_, d) => uptoBulk d + 1
 end
def uptoSmall : (H : Type) → List (DataW H) → Bool := fun _ ds => decide (uptoBulkAll ds ≤ 1048576)
def OpenSpec.upto (s : _root_.Go.ChangeSpec) : _root_.Go.OpenSpec := { _root_.Go.OpenSpec.ofChange s with cond := some uptoSmall }

/-- 'postroadlaw17.LedgerBound', WHERE WHAT IT READS IS OF BULK AT MOST 1048576: true; the input reads as it did. -/
def ledgerBoundUptoRow : OpenClaim := { program := "ytfnijjjfodpnnaa", sum := "dd231514bbada97a98ab387a9f4d7312aea9723e4bc7cd833d1ea85626434176", func := "postroad/postroadlaw17.LedgerBound", spec := "ledgerBound", unfollowed := true, recurses := true, apart := false, narrowed := true }
def LedgerBoundUptoSaid : Prop := ledgerBoundUptoRow.holds Try.pinned (OpenSpec.upto ledgerBoundSpec)

/-- 'postroadlaw17.LedgerLingers', WHERE WHAT IT READS IS OF BULK AT MOST 1048576: true; the input reads as it did. -/
def ledgerLingersUptoRow : OpenClaim := { program := "ytfnijjjfodpnnaa", sum := "dd231514bbada97a98ab387a9f4d7312aea9723e4bc7cd833d1ea85626434176", func := "postroad/postroadlaw17.LedgerLingers", spec := "ledgerLingers", unfollowed := true, recurses := true, apart := false, narrowed := true }
def LedgerLingersUptoSaid : Prop := ledgerLingersUptoRow.holds Try.pinned (OpenSpec.upto ledgerLingersSpec)

/-- 'postroadlaw17.LedgerBack', WHERE WHAT IT READS IS OF BULK AT MOST 1048576: true; the input reads as it did. -/
def ledgerBackUptoRow : OpenClaim := { program := "ytfnijjjfodpnnaa", sum := "dd231514bbada97a98ab387a9f4d7312aea9723e4bc7cd833d1ea85626434176", func := "postroad/postroadlaw17.LedgerBack", spec := "ledgerBack", inPlace := ["maps.clone"], unfollowed := true, recurses := true, apart := false, narrowed := true }
def LedgerBackUptoSaid : Prop := ledgerBackUptoRow.holds Try.pinned (OpenSpec.upto ledgerBackSpec)

/-- 'postroadlaw17.LedgerMany', WHERE WHAT IT READS IS OF BULK AT MOST 1048576: true; the input reads as it did. -/
def ledgerManyUptoRow : OpenClaim := { program := "ytfnijjjfodpnnaa", sum := "dd231514bbada97a98ab387a9f4d7312aea9723e4bc7cd833d1ea85626434176", func := "postroad/postroadlaw17.LedgerMany", spec := "ledgerMany", unfollowed := true, recurses := true, apart := false, narrowed := true }
def LedgerManyUptoSaid : Prop := ledgerManyUptoRow.holds Try.pinned (OpenSpec.upto ledgerManySpec)

/-- 'postroadlaw17.LedgerPlay', WHERE WHAT IT READS IS OF BULK AT MOST 1048576: true; the input reads as it did. -/
def ledgerPlayUptoRow : OpenClaim := { program := "ytfnijjjfodpnnaa", sum := "dd231514bbada97a98ab387a9f4d7312aea9723e4bc7cd833d1ea85626434176", func := "postroad/postroadlaw17.LedgerPlay", spec := "ledgerPlay", unfollowed := true, recurses := true, apart := false, narrowed := true }
def LedgerPlayUptoSaid : Prop := ledgerPlayUptoRow.holds Try.pinned (OpenSpec.upto ledgerPlaySpec)

/-- 'postroadlaw17.LedgerCopies', WHERE WHAT IT READS IS OF BULK AT MOST 1048576: true; the input reads as it did. -/
def ledgerCopiesUptoRow : OpenClaim := { program := "ytfnijjjfodpnnaa", sum := "dd231514bbada97a98ab387a9f4d7312aea9723e4bc7cd833d1ea85626434176", func := "postroad/postroadlaw17.LedgerCopies", spec := "ledgerCopies", inPlace := ["maps.clone"], unfollowed := true, recurses := true, apart := false, narrowed := true }
def LedgerCopiesUptoSaid : Prop := ledgerCopiesUptoRow.holds Try.pinned (OpenSpec.upto ledgerCopiesSpec)

/-- 'postroadlaw17.LedgerNil', WHERE WHAT IT READS IS OF BULK AT MOST 1048576: true; the input reads as it did. -/
def ledgerNilUptoRow : OpenClaim := { program := "ytfnijjjfodpnnaa", sum := "dd231514bbada97a98ab387a9f4d7312aea9723e4bc7cd833d1ea85626434176", func := "postroad/postroadlaw17.LedgerNil", spec := "ledgerNil", inPlace := ["maps.clone"], unfollowed := true, recurses := true, apart := false, narrowed := true }
def LedgerNilUptoSaid : Prop := ledgerNilUptoRow.holds Try.pinned (OpenSpec.upto ledgerNilSpec)

end Rows
end Go.Proofs.Ytfnijjjfodpnnaa
