/-
  No cell of these rows narrows 'for every input' (looked for: loops, veiled, ifaces, maps, wideKeys, modest, calm, conditions, laid).
  DERIVED. THE GIVEN ROWS OF THIS SEAT. 8 by the template 'for every input the law returns true; each argument reads behind the call as it read before'; 0 by the template 'total and deterministic' (their statements: YtgbldmehdipfaaaTotals.lean).
  GIVEN WITH THE SEED: the statements are not yours to turn. If you find one false, say at which input.
  Laid BY PROGRAM, IN A SANDBOX (cutbox-rows.mjs): the forced cells as the released guide's own fill.sh prints them over the translation fac7a797ae896ac8… (all of the seat's roots in one cut). By AI agents, Wed Nov 11 2026. No macro, syntax, notation, axiom, sorry.
-/
import Derived.Test.YtgbldmehdipfaaaChecked
import GoSem.Claim
import GoSem.ClaimJoined
import GoSem.ClaimMapViews
import Derived.JoinedTies
import Derived.KernelRfl
namespace Go.Proofs.Ytgbldmehdipfaaa
/- THE CELL 'sum', in the pinned program and in every row, IS THE sha256 OF THE DUMP (.gsa) THAT YtgbldmehdipfaaaProg.lean LOADS. Nothing in Lean hashes anything: it is a label: what it is worth is what the hold of that sum in a sandbox is worth. -/
noncomputable def Try.pinned : Pinned := { name := "ytgbldmehdipfaaa", sum := "fac7a797ae896ac8d843572d5b71466dc05c183b3021973a8b135bbfb429d92b", checked := Try.checked }
namespace Rows
def none {H : Type} : Left H := { results := [], args := [] }

/-- 'codemasonlaw.MachSizes': WHATEVER THE INPUT: true; the input reads as it did. -/
def machSizesSpec : ChangeSpec := { name := "machSizes", fn := fun _ => fun
  | [d] => { results := [.lit (.bool true)], args := [d] }
  | _ => none }
def machSizesRow : OpenClaim := { program := "ytgbldmehdipfaaa", sum := "fac7a797ae896ac8d843572d5b71466dc05c183b3021973a8b135bbfb429d92b", func := "codemason/codemasonlaw.MachSizes", spec := "machSizes", apart := false }
def MachSizesSaid : Prop := machSizesRow.holds Try.pinned (OpenSpec.ofChange machSizesSpec)

/-- ITS FALSE NEIGHBOUR: 'it returns false'. Refute it at one input. -/
def machSizesWrong : ChangeSpec := { name := "machSizes", fn := fun _ => fun
  | [d] => { results := [.lit (.bool false)], args := [d] }
  | _ => none }
def MachSizesWrongFalsely : Prop := machSizesRow.holds Try.pinned (OpenSpec.ofChange machSizesWrong)

/-- 'codemasonlaw.ColorPeels': WHATEVER THE INPUT: true; the input reads as it did. -/
def colorPeelsSpec : ChangeSpec := { name := "colorPeels", fn := fun _ => fun
  | [d1, d2, d3] => { results := [.lit (.bool true)], args := [d1, d2, d3] }
  | _ => none }
def colorPeelsRow : OpenClaim := { program := "ytgbldmehdipfaaa", sum := "fac7a797ae896ac8d843572d5b71466dc05c183b3021973a8b135bbfb429d92b", func := "codemason/codemasonlaw.ColorPeels", spec := "colorPeels", apart := false }
def ColorPeelsSaid : Prop := colorPeelsRow.holds Try.pinned (OpenSpec.ofChange colorPeelsSpec)

/-- ITS FALSE NEIGHBOUR: 'it returns false'. Refute it at one input. -/
def colorPeelsWrong : ChangeSpec := { name := "colorPeels", fn := fun _ => fun
  | [d1, d2, d3] => { results := [.lit (.bool false)], args := [d1, d2, d3] }
  | _ => none }
def ColorPeelsWrongFalsely : Prop := colorPeelsRow.holds Try.pinned (OpenSpec.ofChange colorPeelsWrong)

/-- 'codemasonlaw.ColorCliques': WHATEVER THE INPUT: true; the input reads as it did. -/
def colorCliquesSpec : ChangeSpec := { name := "colorCliques", fn := fun _ => fun
  | [d1, d2] => { results := [.lit (.bool true)], args := [d1, d2] }
  | _ => none }
def colorCliquesRow : OpenClaim := { program := "ytgbldmehdipfaaa", sum := "fac7a797ae896ac8d843572d5b71466dc05c183b3021973a8b135bbfb429d92b", func := "codemason/codemasonlaw.ColorCliques", spec := "colorCliques", apart := false }
def ColorCliquesSaid : Prop := colorCliquesRow.holds Try.pinned (OpenSpec.ofChange colorCliquesSpec)

/-- ITS FALSE NEIGHBOUR: 'it returns false'. Refute it at one input. -/
def colorCliquesWrong : ChangeSpec := { name := "colorCliques", fn := fun _ => fun
  | [d1, d2] => { results := [.lit (.bool false)], args := [d1, d2] }
  | _ => none }
def ColorCliquesWrongFalsely : Prop := colorCliquesRow.holds Try.pinned (OpenSpec.ofChange colorCliquesWrong)

/-- 'codemasonlaw.ColorPerfects': WHATEVER THE INPUT: true; the input reads as it did. -/
def colorPerfectsSpec : ChangeSpec := { name := "colorPerfects", fn := fun _ => fun
  | [d1, d2] => { results := [.lit (.bool true)], args := [d1, d2] }
  | _ => none }
def colorPerfectsRow : OpenClaim := { program := "ytgbldmehdipfaaa", sum := "fac7a797ae896ac8d843572d5b71466dc05c183b3021973a8b135bbfb429d92b", func := "codemason/codemasonlaw.ColorPerfects", spec := "colorPerfects", apart := false }
def ColorPerfectsSaid : Prop := colorPerfectsRow.holds Try.pinned (OpenSpec.ofChange colorPerfectsSpec)

/-- ITS FALSE NEIGHBOUR: 'it returns false'. Refute it at one input. -/
def colorPerfectsWrong : ChangeSpec := { name := "colorPerfects", fn := fun _ => fun
  | [d1, d2] => { results := [.lit (.bool false)], args := [d1, d2] }
  | _ => none }
def ColorPerfectsWrongFalsely : Prop := colorPerfectsRow.holds Try.pinned (OpenSpec.ofChange colorPerfectsWrong)

/-- 'codemasonlaw.PlanLevels': WHATEVER THE INPUT: true; the input reads as it did. -/
def planLevelsSpec : ChangeSpec := { name := "planLevels", fn := fun _ => fun
  | [d1, d2] => { results := [.lit (.bool true)], args := [d1, d2] }
  | _ => none }
def planLevelsRow : OpenClaim := { program := "ytgbldmehdipfaaa", sum := "fac7a797ae896ac8d843572d5b71466dc05c183b3021973a8b135bbfb429d92b", func := "codemason/codemasonlaw.PlanLevels", spec := "planLevels", recurses := true, apart := false }
def PlanLevelsSaid : Prop := planLevelsRow.holds Try.pinned (OpenSpec.ofChange planLevelsSpec)

/-- ITS FALSE NEIGHBOUR: 'it returns false'. Refute it at one input. -/
def planLevelsWrong : ChangeSpec := { name := "planLevels", fn := fun _ => fun
  | [d1, d2] => { results := [.lit (.bool false)], args := [d1, d2] }
  | _ => none }
def PlanLevelsWrongFalsely : Prop := planLevelsRow.holds Try.pinned (OpenSpec.ofChange planLevelsWrong)

/-- 'codemasonlaw.PlanLists': WHATEVER THE INPUT: true; the input reads as it did. -/
def planListsSpec : ChangeSpec := { name := "planLists", fn := fun _ => fun
  | [d1, d2, d3, d4] => { results := [.lit (.bool true)], args := [d1, d2, d3, d4] }
  | _ => none }
def planListsRow : OpenClaim := { program := "ytgbldmehdipfaaa", sum := "fac7a797ae896ac8d843572d5b71466dc05c183b3021973a8b135bbfb429d92b", func := "codemason/codemasonlaw.PlanLists", spec := "planLists", apart := false }
def PlanListsSaid : Prop := planListsRow.holds Try.pinned (OpenSpec.ofChange planListsSpec)

/-- ITS FALSE NEIGHBOUR: 'it returns false'. Refute it at one input. -/
def planListsWrong : ChangeSpec := { name := "planLists", fn := fun _ => fun
  | [d1, d2, d3, d4] => { results := [.lit (.bool false)], args := [d1, d2, d3, d4] }
  | _ => none }
def PlanListsWrongFalsely : Prop := planListsRow.holds Try.pinned (OpenSpec.ofChange planListsWrong)

/-- 'codemasonlaw.JumpLays': WHATEVER THE INPUT: true; the input reads as it did. -/
def jumpLaysSpec : ChangeSpec := { name := "jumpLays", fn := fun _ => fun
  | [d] => { results := [.lit (.bool true)], args := [d] }
  | _ => none }
def jumpLaysRow : OpenClaim := { program := "ytgbldmehdipfaaa", sum := "fac7a797ae896ac8d843572d5b71466dc05c183b3021973a8b135bbfb429d92b", func := "codemason/codemasonlaw.JumpLays", spec := "jumpLays", apart := false }
def JumpLaysSaid : Prop := jumpLaysRow.holds Try.pinned (OpenSpec.ofChange jumpLaysSpec)

/-- ITS FALSE NEIGHBOUR: 'it returns false'. Refute it at one input. -/
def jumpLaysWrong : ChangeSpec := { name := "jumpLays", fn := fun _ => fun
  | [d] => { results := [.lit (.bool false)], args := [d] }
  | _ => none }
def JumpLaysWrongFalsely : Prop := jumpLaysRow.holds Try.pinned (OpenSpec.ofChange jumpLaysWrong)

/-- 'codemasonlaw.PointRuns': WHATEVER THE INPUT: true; the input reads as it did. -/
def pointRunsSpec : ChangeSpec := { name := "pointRuns", fn := fun _ => fun
  | [d1, d2, d3] => { results := [.lit (.bool true)], args := [d1, d2, d3] }
  | _ => none }
def pointRunsRow : OpenClaim := { program := "ytgbldmehdipfaaa", sum := "fac7a797ae896ac8d843572d5b71466dc05c183b3021973a8b135bbfb429d92b", func := "codemason/codemasonlaw.PointRuns", spec := "pointRuns", unfollowed := true, recurses := true, apart := false }
def PointRunsSaid : Prop := pointRunsRow.holds Try.pinned (OpenSpec.ofChange pointRunsSpec)

/-- ITS FALSE NEIGHBOUR: 'it returns false'. Refute it at one input. -/
def pointRunsWrong : ChangeSpec := { name := "pointRuns", fn := fun _ => fun
  | [d1, d2, d3] => { results := [.lit (.bool false)], args := [d1, d2, d3] }
  | _ => none }
def PointRunsWrongFalsely : Prop := pointRunsRow.holds Try.pinned (OpenSpec.ofChange pointRunsWrong)

/- THE SECOND FORM. 'bulk': how many values and letters a reading holds, each counted each time it is reached (what is shared counts as often as it is met; a slice's spare places count too). A statement '..UptoSaid' is the law's where the arguments, and the package variables that the reading takes, are together of bulk at most 1048576: NARROWER than '..Said'. Prove '..Said' where nothing that the law and all that it calls make is longer than what came in: it says more and counts as full. Else prove '..UptoSaid'. A law counts once. -/
mutual
def uptoBulk {H : Type} : DataW H → Nat
  | .lit (.string bytes) => bytes.length + 1
  | .lit _ => 1
  | .nil => 1
  | .ptr d => uptoBulk d + 1
  | .slice elems spare => uptoBulkAll elems + uptoBulkAll spare + 1
  | .agg parts => uptoBulkAll parts + 1
  | .iface _ d => uptoBulk d + 1
  | .map entries => uptoBulkEntries entries + 1
  | .held _ => 1
def uptoBulkAll {H : Type} : List (DataW H) → Nat
  | [] => 0
  | d :: r => uptoBulk d + uptoBulkAll r
def uptoBulkEntries {H : Type} : List (Lit × DataW H) → Nat
  | [] => 0
  | x :: r => uptoBulkEntry x + uptoBulkEntries r
def uptoBulkEntry {H : Type} : Lit × DataW H → Nat
  | (.string bytes, d) => bytes.length + uptoBulk d + 1
  | (_, d) => uptoBulk d + 1
 end
def uptoSmall : (H : Type) → List (DataW H) → Bool := fun _ ds => decide (uptoBulkAll ds ≤ 1048576)
def OpenSpec.upto (s : _root_.Go.ChangeSpec) : _root_.Go.OpenSpec := { _root_.Go.OpenSpec.ofChange s with cond := some uptoSmall }

/-- 'codemasonlaw.MachSizes', WHERE WHAT IT READS IS OF BULK AT MOST 1048576: true; the input reads as it did. -/
def machSizesUptoRow : OpenClaim := { program := "ytgbldmehdipfaaa", sum := "fac7a797ae896ac8d843572d5b71466dc05c183b3021973a8b135bbfb429d92b", func := "codemason/codemasonlaw.MachSizes", spec := "machSizes", apart := false, narrowed := true }
def MachSizesUptoSaid : Prop := machSizesUptoRow.holds Try.pinned (OpenSpec.upto machSizesSpec)

/-- 'codemasonlaw.ColorPeels', WHERE WHAT IT READS IS OF BULK AT MOST 1048576: true; the input reads as it did. -/
def colorPeelsUptoRow : OpenClaim := { program := "ytgbldmehdipfaaa", sum := "fac7a797ae896ac8d843572d5b71466dc05c183b3021973a8b135bbfb429d92b", func := "codemason/codemasonlaw.ColorPeels", spec := "colorPeels", apart := false, narrowed := true }
def ColorPeelsUptoSaid : Prop := colorPeelsUptoRow.holds Try.pinned (OpenSpec.upto colorPeelsSpec)

/-- 'codemasonlaw.ColorCliques', WHERE WHAT IT READS IS OF BULK AT MOST 1048576: true; the input reads as it did. -/
def colorCliquesUptoRow : OpenClaim := { program := "ytgbldmehdipfaaa", sum := "fac7a797ae896ac8d843572d5b71466dc05c183b3021973a8b135bbfb429d92b", func := "codemason/codemasonlaw.ColorCliques", spec := "colorCliques", apart := false, narrowed := true }
def ColorCliquesUptoSaid : Prop := colorCliquesUptoRow.holds Try.pinned (OpenSpec.upto colorCliquesSpec)

/-- 'codemasonlaw.ColorPerfects', WHERE WHAT IT READS IS OF BULK AT MOST 1048576: true; the input reads as it did. -/
def colorPerfectsUptoRow : OpenClaim := { program := "ytgbldmehdipfaaa", sum := "fac7a797ae896ac8d843572d5b71466dc05c183b3021973a8b135bbfb429d92b", func := "codemason/codemasonlaw.ColorPerfects", spec := "colorPerfects", apart := false, narrowed := true }
def ColorPerfectsUptoSaid : Prop := colorPerfectsUptoRow.holds Try.pinned (OpenSpec.upto colorPerfectsSpec)

/-- 'codemasonlaw.PlanLevels', WHERE WHAT IT READS IS OF BULK AT MOST 1048576: true; the input reads as it did. -/
def planLevelsUptoRow : OpenClaim := { program := "ytgbldmehdipfaaa", sum := "fac7a797ae896ac8d843572d5b71466dc05c183b3021973a8b135bbfb429d92b", func := "codemason/codemasonlaw.PlanLevels", spec := "planLevels", recurses := true, apart := false, narrowed := true }
def PlanLevelsUptoSaid : Prop := planLevelsUptoRow.holds Try.pinned (OpenSpec.upto planLevelsSpec)

/-- 'codemasonlaw.PlanLists', WHERE WHAT IT READS IS OF BULK AT MOST 1048576: true; the input reads as it did. -/
def planListsUptoRow : OpenClaim := { program := "ytgbldmehdipfaaa", sum := "fac7a797ae896ac8d843572d5b71466dc05c183b3021973a8b135bbfb429d92b", func := "codemason/codemasonlaw.PlanLists", spec := "planLists", apart := false, narrowed := true }
def PlanListsUptoSaid : Prop := planListsUptoRow.holds Try.pinned (OpenSpec.upto planListsSpec)

/-- 'codemasonlaw.JumpLays', WHERE WHAT IT READS IS OF BULK AT MOST 1048576: true; the input reads as it did. -/
def jumpLaysUptoRow : OpenClaim := { program := "ytgbldmehdipfaaa", sum := "fac7a797ae896ac8d843572d5b71466dc05c183b3021973a8b135bbfb429d92b", func := "codemason/codemasonlaw.JumpLays", spec := "jumpLays", apart := false, narrowed := true }
def JumpLaysUptoSaid : Prop := jumpLaysUptoRow.holds Try.pinned (OpenSpec.upto jumpLaysSpec)

/-- 'codemasonlaw.PointRuns', WHERE WHAT IT READS IS OF BULK AT MOST 1048576: true; the input reads as it did. -/
def pointRunsUptoRow : OpenClaim := { program := "ytgbldmehdipfaaa", sum := "fac7a797ae896ac8d843572d5b71466dc05c183b3021973a8b135bbfb429d92b", func := "codemason/codemasonlaw.PointRuns", spec := "pointRuns", unfollowed := true, recurses := true, apart := false, narrowed := true }
def PointRunsUptoSaid : Prop := pointRunsUptoRow.holds Try.pinned (OpenSpec.upto pointRunsSpec)

end Rows
end Go.Proofs.Ytgbldmehdipfaaa
