/-
  No cell of these rows narrows 'for every input' (looked for: loops, veiled, ifaces, maps, wideKeys, modest, calm, conditions, laid).
  DERIVED. THE GIVEN ROWS OF THIS SEAT. 7 by the template 'for every input the law returns true; each argument reads behind the call as it read before'; 0 by the template 'total and deterministic' (their statements: YtoglkjmdloppcaaTotals.lean).
  GIVEN WITH THE SEED: the statements are not yours to turn. If you find one false, say at which input.
  Laid BY PROGRAM, IN A SANDBOX (cutbox-rows.mjs): the forced cells as the released guide's own fill.sh prints them over the translation 3c648fe18c25b4a6… (all of the seat's roots in one cut). By AI agents, Wed Nov 11 2026. No macro, syntax, notation, axiom, sorry.
-/
import Derived.Test.YtoglkjmdloppcaaChecked
import GoSem.Claim
import GoSem.ClaimJoined
import GoSem.ClaimMapViews
import Derived.JoinedTies
import Derived.KernelRfl
namespace Go.Proofs.Ytoglkjmdloppcaa
/- THE CELL 'sum', in the pinned program and in every row, IS THE sha256 OF THE DUMP (.gsa) THAT YtoglkjmdloppcaaProg.lean LOADS. Nothing in Lean hashes anything: it is a label: what it is worth is what the hold of that sum in a sandbox is worth. -/
noncomputable def Try.pinned : Pinned := { name := "ytoglkjmdloppcaa", sum := "3c648fe18c25b4a6951be892c85fffd31d6c40897080527fd371282cbe2bcf0c", checked := Try.checked }
namespace Rows
def none {H : Type} : Left H := { results := [], args := [] }

/-- 'codemasonlaw.FactSolves': WHATEVER THE INPUT: true; the input reads as it did. -/
def factSolvesSpec : ChangeSpec := { name := "factSolves", fn := fun _ => fun
  | [d1, d2] => { results := [.lit (.bool true)], args := [d1, d2] }
  | _ => none }
def factSolvesRow : OpenClaim := { program := "ytoglkjmdloppcaa", sum := "3c648fe18c25b4a6951be892c85fffd31d6c40897080527fd371282cbe2bcf0c", func := "codemason/codemasonlaw.FactSolves", spec := "factSolves", unfollowed := true, recurses := true, apart := false }
def FactSolvesSaid : Prop := factSolvesRow.holds Try.pinned (OpenSpec.ofChange factSolvesSpec)

/-- ITS FALSE NEIGHBOUR: 'it returns false'. Refute it at one input. -/
def factSolvesWrong : ChangeSpec := { name := "factSolves", fn := fun _ => fun
  | [d1, d2] => { results := [.lit (.bool false)], args := [d1, d2] }
  | _ => none }
def FactSolvesWrongFalsely : Prop := factSolvesRow.holds Try.pinned (OpenSpec.ofChange factSolvesWrong)

/-- 'codemasonlaw.FactAlongs': WHATEVER THE INPUT: true; the input reads as it did. -/
def factAlongsSpec : ChangeSpec := { name := "factAlongs", fn := fun _ => fun
  | [d1, d2, d3] => { results := [.lit (.bool true)], args := [d1, d2, d3] }
  | _ => none }
def factAlongsRow : OpenClaim := { program := "ytoglkjmdloppcaa", sum := "3c648fe18c25b4a6951be892c85fffd31d6c40897080527fd371282cbe2bcf0c", func := "codemason/codemasonlaw.FactAlongs", spec := "factAlongs", unfollowed := true, recurses := true, apart := false }
def FactAlongsSaid : Prop := factAlongsRow.holds Try.pinned (OpenSpec.ofChange factAlongsSpec)

/-- ITS FALSE NEIGHBOUR: 'it returns false'. Refute it at one input. -/
def factAlongsWrong : ChangeSpec := { name := "factAlongs", fn := fun _ => fun
  | [d1, d2, d3] => { results := [.lit (.bool false)], args := [d1, d2, d3] }
  | _ => none }
def FactAlongsWrongFalsely : Prop := factAlongsRow.holds Try.pinned (OpenSpec.ofChange factAlongsWrong)

/-- 'codemasonlaw.SingleOnces': WHATEVER THE INPUT: true; the input reads as it did. -/
def singleOncesSpec : ChangeSpec := { name := "singleOnces", fn := fun _ => fun
  | [d1, d2] => { results := [.lit (.bool true)], args := [d1, d2] }
  | _ => none }
def singleOncesRow : OpenClaim := { program := "ytoglkjmdloppcaa", sum := "3c648fe18c25b4a6951be892c85fffd31d6c40897080527fd371282cbe2bcf0c", func := "codemason/codemasonlaw.SingleOnces", spec := "singleOnces", unfollowed := true, recurses := true, apart := false }
def SingleOncesSaid : Prop := singleOncesRow.holds Try.pinned (OpenSpec.ofChange singleOncesSpec)

/-- ITS FALSE NEIGHBOUR: 'it returns false'. Refute it at one input. -/
def singleOncesWrong : ChangeSpec := { name := "singleOnces", fn := fun _ => fun
  | [d1, d2] => { results := [.lit (.bool false)], args := [d1, d2] }
  | _ => none }
def SingleOncesWrongFalsely : Prop := singleOncesRow.holds Try.pinned (OpenSpec.ofChange singleOncesWrong)

/-- 'codemasonlaw.StackCodes': WHATEVER THE INPUT: true; the input reads as it did. -/
def stackCodesSpec : ChangeSpec := { name := "stackCodes", fn := fun _ => fun
  | [d1, d2] => { results := [.lit (.bool true)], args := [d1, d2] }
  | _ => none }
def stackCodesRow : OpenClaim := { program := "ytoglkjmdloppcaa", sum := "3c648fe18c25b4a6951be892c85fffd31d6c40897080527fd371282cbe2bcf0c", func := "codemason/codemasonlaw.StackCodes", spec := "stackCodes", unfollowed := true, recurses := true, apart := false }
def StackCodesSaid : Prop := stackCodesRow.holds Try.pinned (OpenSpec.ofChange stackCodesSpec)

/-- ITS FALSE NEIGHBOUR: 'it returns false'. Refute it at one input. -/
def stackCodesWrong : ChangeSpec := { name := "stackCodes", fn := fun _ => fun
  | [d1, d2] => { results := [.lit (.bool false)], args := [d1, d2] }
  | _ => none }
def StackCodesWrongFalsely : Prop := stackCodesRow.holds Try.pinned (OpenSpec.ofChange stackCodesWrong)

/-- 'codemasonlaw.HoldPlays': WHATEVER THE INPUT: true; the input reads as it did. -/
def holdPlaysSpec : ChangeSpec := { name := "holdPlays", fn := fun _ => fun
  | [d1, d2, d3] => { results := [.lit (.bool true)], args := [d1, d2, d3] }
  | _ => none }
def holdPlaysRow : OpenClaim := { program := "ytoglkjmdloppcaa", sum := "3c648fe18c25b4a6951be892c85fffd31d6c40897080527fd371282cbe2bcf0c", func := "codemason/codemasonlaw.HoldPlays", spec := "holdPlays", unfollowed := true, recurses := true, apart := false }
def HoldPlaysSaid : Prop := holdPlaysRow.holds Try.pinned (OpenSpec.ofChange holdPlaysSpec)

/-- ITS FALSE NEIGHBOUR: 'it returns false'. Refute it at one input. -/
def holdPlaysWrong : ChangeSpec := { name := "holdPlays", fn := fun _ => fun
  | [d1, d2, d3] => { results := [.lit (.bool false)], args := [d1, d2, d3] }
  | _ => none }
def HoldPlaysWrongFalsely : Prop := holdPlaysRow.holds Try.pinned (OpenSpec.ofChange holdPlaysWrong)

/-- 'codemasonlaw.HoldLeasts': WHATEVER THE INPUT: true; the input reads as it did. -/
def holdLeastsSpec : ChangeSpec := { name := "holdLeasts", fn := fun _ => fun
  | [d1, d2] => { results := [.lit (.bool true)], args := [d1, d2] }
  | _ => none }
def holdLeastsRow : OpenClaim := { program := "ytoglkjmdloppcaa", sum := "3c648fe18c25b4a6951be892c85fffd31d6c40897080527fd371282cbe2bcf0c", func := "codemason/codemasonlaw.HoldLeasts", spec := "holdLeasts", unfollowed := true, recurses := true, apart := false }
def HoldLeastsSaid : Prop := holdLeastsRow.holds Try.pinned (OpenSpec.ofChange holdLeastsSpec)

/-- ITS FALSE NEIGHBOUR: 'it returns false'. Refute it at one input. -/
def holdLeastsWrong : ChangeSpec := { name := "holdLeasts", fn := fun _ => fun
  | [d1, d2] => { results := [.lit (.bool false)], args := [d1, d2] }
  | _ => none }
def HoldLeastsWrongFalsely : Prop := holdLeastsRow.holds Try.pinned (OpenSpec.ofChange holdLeastsWrong)

/-- 'codemasonlaw.PlanBests': WHATEVER THE INPUT: true; the input reads as it did. -/
def planBestsSpec : ChangeSpec := { name := "planBests", fn := fun _ => fun
  | [d1, d2, d3] => { results := [.lit (.bool true)], args := [d1, d2, d3] }
  | _ => none }
def planBestsRow : OpenClaim := { program := "ytoglkjmdloppcaa", sum := "3c648fe18c25b4a6951be892c85fffd31d6c40897080527fd371282cbe2bcf0c", func := "codemason/codemasonlaw.PlanBests", spec := "planBests", recurses := true, apart := false }
def PlanBestsSaid : Prop := planBestsRow.holds Try.pinned (OpenSpec.ofChange planBestsSpec)

/-- ITS FALSE NEIGHBOUR: 'it returns false'. Refute it at one input. -/
def planBestsWrong : ChangeSpec := { name := "planBests", fn := fun _ => fun
  | [d1, d2, d3] => { results := [.lit (.bool false)], args := [d1, d2, d3] }
  | _ => none }
def PlanBestsWrongFalsely : Prop := planBestsRow.holds Try.pinned (OpenSpec.ofChange planBestsWrong)

/- THE SECOND FORM. 'bulk': how many values and letters a reading holds, each counted each time it is reached (what is shared counts as often as it is met; a slice's spare places count too). A statement '..UptoSaid' is the law's where the arguments, and the package variables that the reading takes, are together of bulk at most 1048576: NARROWER than '..Said'. Prove '..Said' where nothing that the law and all that it calls make is longer than what came in: it says more and counts as full. Else prove '..UptoSaid'. A law counts once. -/
mutual
def uptoBulk {H : Type} : DataW H → Nat
  | .lit (.string bytes) => bytes.length + 1
  | .lit _ => 1
  | .nil => 1
  | .ptr d => uptoBulk d + 1
  | .slice elems spare => uptoBulkAll elems + uptoBulkAll spare + 1
  | .agg parts => uptoBulkAll parts + 1
  | .iface _ d => uptoBulk d + 1
  | .map entries => uptoBulkEntries entries + 1
  | .held _ => 1
def uptoBulkAll {H : Type} : List (DataW H) → Nat
  | [] => 0
  | d :: r => uptoBulk d + uptoBulkAll r
def uptoBulkEntries {H : Type} : List (Lit × DataW H) → Nat
  | [] => 0
  | x :: r => uptoBulkEntry x + uptoBulkEntries r
def uptoBulkEntry {H : Type} : Lit × DataW H → Nat
  | (.string bytes, d) => bytes.length + uptoBulk d + 1
  | (_, d) => uptoBulk d + 1
 end
def uptoSmall : (H : Type) → List (DataW H) → Bool := fun _ ds => decide (uptoBulkAll ds ≤ 1048576)
def OpenSpec.upto (s : _root_.Go.ChangeSpec) : _root_.Go.OpenSpec := { _root_.Go.OpenSpec.ofChange s with cond := some uptoSmall }

/-- 'codemasonlaw.FactSolves', WHERE WHAT IT READS IS OF BULK AT MOST 1048576: true; the input reads as it did. -/
def factSolvesUptoRow : OpenClaim := { program := "ytoglkjmdloppcaa", sum := "3c648fe18c25b4a6951be892c85fffd31d6c40897080527fd371282cbe2bcf0c", func := "codemason/codemasonlaw.FactSolves", spec := "factSolves", unfollowed := true, recurses := true, apart := false, narrowed := true }
def FactSolvesUptoSaid : Prop := factSolvesUptoRow.holds Try.pinned (OpenSpec.upto factSolvesSpec)

/-- 'codemasonlaw.FactAlongs', WHERE WHAT IT READS IS OF BULK AT MOST 1048576: true; the input reads as it did. -/
def factAlongsUptoRow : OpenClaim := { program := "ytoglkjmdloppcaa", sum := "3c648fe18c25b4a6951be892c85fffd31d6c40897080527fd371282cbe2bcf0c", func := "codemason/codemasonlaw.FactAlongs", spec := "factAlongs", unfollowed := true, recurses := true, apart := false, narrowed := true }
def FactAlongsUptoSaid : Prop := factAlongsUptoRow.holds Try.pinned (OpenSpec.upto factAlongsSpec)

/-- 'codemasonlaw.SingleOnces', WHERE WHAT IT READS IS OF BULK AT MOST 1048576: true; the input reads as it did. -/
def singleOncesUptoRow : OpenClaim := { program := "ytoglkjmdloppcaa", sum := "3c648fe18c25b4a6951be892c85fffd31d6c40897080527fd371282cbe2bcf0c", func := "codemason/codemasonlaw.SingleOnces", spec := "singleOnces", unfollowed := true, recurses := true, apart := false, narrowed := true }
def SingleOncesUptoSaid : Prop := singleOncesUptoRow.holds Try.pinned (OpenSpec.upto singleOncesSpec)

/-- 'codemasonlaw.StackCodes', WHERE WHAT IT READS IS OF BULK AT MOST 1048576: true; the input reads as it did. -/
def stackCodesUptoRow : OpenClaim := { program := "ytoglkjmdloppcaa", sum := "3c648fe18c25b4a6951be892c85fffd31d6c40897080527fd371282cbe2bcf0c", func := "codemason/codemasonlaw.StackCodes", spec := "stackCodes", unfollowed := true, recurses := true, apart := false, narrowed := true }
def StackCodesUptoSaid : Prop := stackCodesUptoRow.holds Try.pinned (OpenSpec.upto stackCodesSpec)

/-- 'codemasonlaw.HoldPlays', WHERE WHAT IT READS IS OF BULK AT MOST 1048576: true; the input reads as it did. -/
def holdPlaysUptoRow : OpenClaim := { program := "ytoglkjmdloppcaa", sum := "3c648fe18c25b4a6951be892c85fffd31d6c40897080527fd371282cbe2bcf0c", func := "codemason/codemasonlaw.HoldPlays", spec := "holdPlays", unfollowed := true, recurses := true, apart := false, narrowed := true }
def HoldPlaysUptoSaid : Prop := holdPlaysUptoRow.holds Try.pinned (OpenSpec.upto holdPlaysSpec)

/-- 'codemasonlaw.HoldLeasts', WHERE WHAT IT READS IS OF BULK AT MOST 1048576: true; the input reads as it did. -/
def holdLeastsUptoRow : OpenClaim := { program := "ytoglkjmdloppcaa", sum := "3c648fe18c25b4a6951be892c85fffd31d6c40897080527fd371282cbe2bcf0c", func := "codemason/codemasonlaw.HoldLeasts", spec := "holdLeasts", unfollowed := true, recurses := true, apart := false, narrowed := true }
def HoldLeastsUptoSaid : Prop := holdLeastsUptoRow.holds Try.pinned (OpenSpec.upto holdLeastsSpec)

/-- 'codemasonlaw.PlanBests', WHERE WHAT IT READS IS OF BULK AT MOST 1048576: true; the input reads as it did. -/
def planBestsUptoRow : OpenClaim := { program := "ytoglkjmdloppcaa", sum := "3c648fe18c25b4a6951be892c85fffd31d6c40897080527fd371282cbe2bcf0c", func := "codemason/codemasonlaw.PlanBests", spec := "planBests", recurses := true, apart := false, narrowed := true }
def PlanBestsUptoSaid : Prop := planBestsUptoRow.holds Try.pinned (OpenSpec.upto planBestsSpec)

end Rows
end Go.Proofs.Ytoglkjmdloppcaa
