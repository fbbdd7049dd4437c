/-
  No cell of these rows narrows 'for every input' (looked for: loops, veiled, ifaces, maps, wideKeys, modest, calm, conditions, laid).
  DERIVED. THE GIVEN ROWS OF THIS SEAT. 7 by the template 'for every input the law returns true; each argument reads behind the call as it read before'; 0 by the template 'total and deterministic' (their statements: YtkcnmbcefbeldaaTotals.lean).
  GIVEN WITH THE SEED: the statements are not yours to turn. If you find one false, say at which input.
  Laid BY PROGRAM, IN A SANDBOX (cutbox-rows.mjs): the forced cells as the released guide's own fill.sh prints them over the translation 9528acaa75b7590b… (all of the seat's roots in one cut). By AI agents, Wed Nov 11 2026. No macro, syntax, notation, axiom, sorry.
-/
import Derived.Test.YtkcnmbcefbeldaaChecked
import GoSem.Claim
import GoSem.ClaimJoined
import GoSem.ClaimMapViews
import Derived.JoinedTies
import Derived.KernelRfl
namespace Go.Proofs.Ytkcnmbcefbeldaa
/- THE CELL 'sum', in the pinned program and in every row, IS THE sha256 OF THE DUMP (.gsa) THAT YtkcnmbcefbeldaaProg.lean LOADS. Nothing in Lean hashes anything: it is a label: what it is worth is what the hold of that sum in a sandbox is worth. -/
noncomputable def Try.pinned : Pinned := { name := "ytkcnmbcefbeldaa", sum := "9528acaa75b7590be7b59d49152397dd38bbeeee1becb19dc428d7e865474fc2", checked := Try.checked }
namespace Rows
def none {H : Type} : Left H := { results := [], args := [] }

/-- 'codemasonlaw.ColorLeasts': WHATEVER THE INPUT: true; the input reads as it did. -/
def colorLeastsSpec : ChangeSpec := { name := "colorLeasts", fn := fun _ => fun
  | [d1, d2] => { results := [.lit (.bool true)], args := [d1, d2] }
  | _ => none }
def colorLeastsRow : OpenClaim := { program := "ytkcnmbcefbeldaa", sum := "9528acaa75b7590be7b59d49152397dd38bbeeee1becb19dc428d7e865474fc2", func := "codemason/codemasonlaw.ColorLeasts", spec := "colorLeasts", recurses := true, apart := false }
def ColorLeastsSaid : Prop := colorLeastsRow.holds Try.pinned (OpenSpec.ofChange colorLeastsSpec)

/-- ITS FALSE NEIGHBOUR: 'it returns false'. Refute it at one input. -/
def colorLeastsWrong : ChangeSpec := { name := "colorLeasts", fn := fun _ => fun
  | [d1, d2] => { results := [.lit (.bool false)], args := [d1, d2] }
  | _ => none }
def ColorLeastsWrongFalsely : Prop := colorLeastsRow.holds Try.pinned (OpenSpec.ofChange colorLeastsWrong)

/-- 'codemasonlaw.PlanBests': WHATEVER THE INPUT: true; the input reads as it did. -/
def planBestsSpec : ChangeSpec := { name := "planBests", fn := fun _ => fun
  | [d1, d2, d3] => { results := [.lit (.bool true)], args := [d1, d2, d3] }
  | _ => none }
def planBestsRow : OpenClaim := { program := "ytkcnmbcefbeldaa", sum := "9528acaa75b7590be7b59d49152397dd38bbeeee1becb19dc428d7e865474fc2", func := "codemason/codemasonlaw.PlanBests", spec := "planBests", recurses := true, apart := false }
def PlanBestsSaid : Prop := planBestsRow.holds Try.pinned (OpenSpec.ofChange planBestsSpec)

/-- ITS FALSE NEIGHBOUR: 'it returns false'. Refute it at one input. -/
def planBestsWrong : ChangeSpec := { name := "planBests", fn := fun _ => fun
  | [d1, d2, d3] => { results := [.lit (.bool false)], args := [d1, d2, d3] }
  | _ => none }
def PlanBestsWrongFalsely : Prop := planBestsRow.holds Try.pinned (OpenSpec.ofChange planBestsWrong)

/-- 'codemasonlaw.HoldLrus': WHATEVER THE INPUT: true; the input reads as it did. -/
def holdLrusSpec : ChangeSpec := { name := "holdLrus", fn := fun _ => fun
  | [d1, d2] => { results := [.lit (.bool true)], args := [d1, d2] }
  | _ => none }
def holdLrusRow : OpenClaim := { program := "ytkcnmbcefbeldaa", sum := "9528acaa75b7590be7b59d49152397dd38bbeeee1becb19dc428d7e865474fc2", func := "codemason/codemasonlaw.HoldLrus", spec := "holdLrus", unfollowed := true, recurses := true, apart := false }
def HoldLrusSaid : Prop := holdLrusRow.holds Try.pinned (OpenSpec.ofChange holdLrusSpec)

/-- ITS FALSE NEIGHBOUR: 'it returns false'. Refute it at one input. -/
def holdLrusWrong : ChangeSpec := { name := "holdLrus", fn := fun _ => fun
  | [d1, d2] => { results := [.lit (.bool false)], args := [d1, d2] }
  | _ => none }
def HoldLrusWrongFalsely : Prop := holdLrusRow.holds Try.pinned (OpenSpec.ofChange holdLrusWrong)

/-- 'codemasonlaw.HoldFifos': WHATEVER THE INPUT: true; the input reads as it did. -/
def holdFifosSpec : ChangeSpec := { name := "holdFifos", fn := fun _ => fun
  | [d1, d2] => { results := [.lit (.bool true)], args := [d1, d2] }
  | _ => none }
def holdFifosRow : OpenClaim := { program := "ytkcnmbcefbeldaa", sum := "9528acaa75b7590be7b59d49152397dd38bbeeee1becb19dc428d7e865474fc2", func := "codemason/codemasonlaw.HoldFifos", spec := "holdFifos", unfollowed := true, recurses := true, apart := false }
def HoldFifosSaid : Prop := holdFifosRow.holds Try.pinned (OpenSpec.ofChange holdFifosSpec)

/-- ITS FALSE NEIGHBOUR: 'it returns false'. Refute it at one input. -/
def holdFifosWrong : ChangeSpec := { name := "holdFifos", fn := fun _ => fun
  | [d1, d2] => { results := [.lit (.bool false)], args := [d1, d2] }
  | _ => none }
def HoldFifosWrongFalsely : Prop := holdFifosRow.holds Try.pinned (OpenSpec.ofChange holdFifosWrong)

/-- 'codemasonlaw.HoldPlays': WHATEVER THE INPUT: true; the input reads as it did. -/
def holdPlaysSpec : ChangeSpec := { name := "holdPlays", fn := fun _ => fun
  | [d1, d2, d3] => { results := [.lit (.bool true)], args := [d1, d2, d3] }
  | _ => none }
def holdPlaysRow : OpenClaim := { program := "ytkcnmbcefbeldaa", sum := "9528acaa75b7590be7b59d49152397dd38bbeeee1becb19dc428d7e865474fc2", func := "codemason/codemasonlaw.HoldPlays", spec := "holdPlays", unfollowed := true, recurses := true, apart := false }
def HoldPlaysSaid : Prop := holdPlaysRow.holds Try.pinned (OpenSpec.ofChange holdPlaysSpec)

/-- ITS FALSE NEIGHBOUR: 'it returns false'. Refute it at one input. -/
def holdPlaysWrong : ChangeSpec := { name := "holdPlays", fn := fun _ => fun
  | [d1, d2, d3] => { results := [.lit (.bool false)], args := [d1, d2, d3] }
  | _ => none }
def HoldPlaysWrongFalsely : Prop := holdPlaysRow.holds Try.pinned (OpenSpec.ofChange holdPlaysWrong)

/-- 'codemasonlaw.SwapRounds': WHATEVER THE INPUT: true; the input reads as it did. -/
def swapRoundsSpec : ChangeSpec := { name := "swapRounds", fn := fun _ => fun
  | [d1, d2] => { results := [.lit (.bool true)], args := [d1, d2] }
  | _ => none }
def swapRoundsRow : OpenClaim := { program := "ytkcnmbcefbeldaa", sum := "9528acaa75b7590be7b59d49152397dd38bbeeee1becb19dc428d7e865474fc2", func := "codemason/codemasonlaw.SwapRounds", spec := "swapRounds", apart := false }
def SwapRoundsSaid : Prop := swapRoundsRow.holds Try.pinned (OpenSpec.ofChange swapRoundsSpec)

/-- ITS FALSE NEIGHBOUR: 'it returns false'. Refute it at one input. -/
def swapRoundsWrong : ChangeSpec := { name := "swapRounds", fn := fun _ => fun
  | [d1, d2] => { results := [.lit (.bool false)], args := [d1, d2] }
  | _ => none }
def SwapRoundsWrongFalsely : Prop := swapRoundsRow.holds Try.pinned (OpenSpec.ofChange swapRoundsWrong)

/-- 'codemasonlaw.MachTexts': WHATEVER THE INPUT: true; the input reads as it did. -/
def machTextsSpec : ChangeSpec := { name := "machTexts", fn := fun _ => fun
  | [d] => { results := [.lit (.bool true)], args := [d] }
  | _ => none }
def machTextsRow : OpenClaim := { program := "ytkcnmbcefbeldaa", sum := "9528acaa75b7590be7b59d49152397dd38bbeeee1becb19dc428d7e865474fc2", func := "codemason/codemasonlaw.MachTexts", spec := "machTexts", apart := false }
def MachTextsSaid : Prop := machTextsRow.holds Try.pinned (OpenSpec.ofChange machTextsSpec)

/-- ITS FALSE NEIGHBOUR: 'it returns false'. Refute it at one input. -/
def machTextsWrong : ChangeSpec := { name := "machTexts", fn := fun _ => fun
  | [d] => { results := [.lit (.bool false)], args := [d] }
  | _ => none }
def MachTextsWrongFalsely : Prop := machTextsRow.holds Try.pinned (OpenSpec.ofChange machTextsWrong)

/- THE SECOND FORM. 'bulk': how many values and letters a reading holds, each counted each time it is reached (what is shared counts as often as it is met; a slice's spare places count too). A statement '..UptoSaid' is the law's where the arguments, and the package variables that the reading takes, are together of bulk at most 1048576: NARROWER than '..Said'. Prove '..Said' where nothing that the law and all that it calls make is longer than what came in: it says more and counts as full. Else prove '..UptoSaid'. A law counts once. -/
mutual
def uptoBulk {H : Type} : DataW H → Nat
  | .lit (.string bytes) => bytes.length + 1
  | .lit _ => 1
  | .nil => 1
  | .ptr d => uptoBulk d + 1
  | .slice elems spare => uptoBulkAll elems + uptoBulkAll spare + 1
  | .agg parts => uptoBulkAll parts + 1
  | .iface _ d => uptoBulk d + 1
  | .map entries => uptoBulkEntries entries + 1
  | .held _ => 1
def uptoBulkAll {H : Type} : List (DataW H) → Nat
  | [] => 0
  | d :: r => uptoBulk d + uptoBulkAll r
def uptoBulkEntries {H : Type} : List (Lit × DataW H) → Nat
  | [] => 0
  | x :: r => uptoBulkEntry x + uptoBulkEntries r
def uptoBulkEntry {H : Type} : Lit × DataW H → Nat
  | (.string bytes, d) => bytes.length + uptoBulk d + 1
  | (_, d) => uptoBulk d + 1
 end
def uptoSmall : (H : Type) → List (DataW H) → Bool := fun _ ds => decide (uptoBulkAll ds ≤ 1048576)
def OpenSpec.upto (s : _root_.Go.ChangeSpec) : _root_.Go.OpenSpec := { _root_.Go.OpenSpec.ofChange s with cond := some uptoSmall }

/-- 'codemasonlaw.ColorLeasts', WHERE WHAT IT READS IS OF BULK AT MOST 1048576: true; the input reads as it did. -/
def colorLeastsUptoRow : OpenClaim := { program := "ytkcnmbcefbeldaa", sum := "9528acaa75b7590be7b59d49152397dd38bbeeee1becb19dc428d7e865474fc2", func := "codemason/codemasonlaw.ColorLeasts", spec := "colorLeasts", recurses := true, apart := false, narrowed := true }
def ColorLeastsUptoSaid : Prop := colorLeastsUptoRow.holds Try.pinned (OpenSpec.upto colorLeastsSpec)

/-- 'codemasonlaw.PlanBests', WHERE WHAT IT READS IS OF BULK AT MOST 1048576: true; the input reads as it did. -/
def planBestsUptoRow : OpenClaim := { program := "ytkcnmbcefbeldaa", sum := "9528acaa75b7590be7b59d49152397dd38bbeeee1becb19dc428d7e865474fc2", func := "codemason/codemasonlaw.PlanBests", spec := "planBests", recurses := true, apart := false, narrowed := true }
def PlanBestsUptoSaid : Prop := planBestsUptoRow.holds Try.pinned (OpenSpec.upto planBestsSpec)

/-- 'codemasonlaw.HoldLrus', WHERE WHAT IT READS IS OF BULK AT MOST 1048576: true; the input reads as it did. -/
def holdLrusUptoRow : OpenClaim := { program := "ytkcnmbcefbeldaa", sum := "9528acaa75b7590be7b59d49152397dd38bbeeee1becb19dc428d7e865474fc2", func := "codemason/codemasonlaw.HoldLrus", spec := "holdLrus", unfollowed := true, recurses := true, apart := false, narrowed := true }
def HoldLrusUptoSaid : Prop := holdLrusUptoRow.holds Try.pinned (OpenSpec.upto holdLrusSpec)

/-- 'codemasonlaw.HoldFifos', WHERE WHAT IT READS IS OF BULK AT MOST 1048576: true; the input reads as it did. -/
def holdFifosUptoRow : OpenClaim := { program := "ytkcnmbcefbeldaa", sum := "9528acaa75b7590be7b59d49152397dd38bbeeee1becb19dc428d7e865474fc2", func := "codemason/codemasonlaw.HoldFifos", spec := "holdFifos", unfollowed := true, recurses := true, apart := false, narrowed := true }
def HoldFifosUptoSaid : Prop := holdFifosUptoRow.holds Try.pinned (OpenSpec.upto holdFifosSpec)

/-- 'codemasonlaw.HoldPlays', WHERE WHAT IT READS IS OF BULK AT MOST 1048576: true; the input reads as it did. -/
def holdPlaysUptoRow : OpenClaim := { program := "ytkcnmbcefbeldaa", sum := "9528acaa75b7590be7b59d49152397dd38bbeeee1becb19dc428d7e865474fc2", func := "codemason/codemasonlaw.HoldPlays", spec := "holdPlays", unfollowed := true, recurses := true, apart := false, narrowed := true }
def HoldPlaysUptoSaid : Prop := holdPlaysUptoRow.holds Try.pinned (OpenSpec.upto holdPlaysSpec)

/-- 'codemasonlaw.SwapRounds', WHERE WHAT IT READS IS OF BULK AT MOST 1048576: true; the input reads as it did. -/
def swapRoundsUptoRow : OpenClaim := { program := "ytkcnmbcefbeldaa", sum := "9528acaa75b7590be7b59d49152397dd38bbeeee1becb19dc428d7e865474fc2", func := "codemason/codemasonlaw.SwapRounds", spec := "swapRounds", apart := false, narrowed := true }
def SwapRoundsUptoSaid : Prop := swapRoundsUptoRow.holds Try.pinned (OpenSpec.upto swapRoundsSpec)

/-- 'codemasonlaw.MachTexts', WHERE WHAT IT READS IS OF BULK AT MOST 1048576: true; the input reads as it did. -/
def machTextsUptoRow : OpenClaim := { program := "ytkcnmbcefbeldaa", sum := "9528acaa75b7590be7b59d49152397dd38bbeeee1becb19dc428d7e865474fc2", func := "codemason/codemasonlaw.MachTexts", spec := "machTexts", apart := false, narrowed := true }
def MachTextsUptoSaid : Prop := machTextsUptoRow.holds Try.pinned (OpenSpec.upto machTextsSpec)

end Rows
end Go.Proofs.Ytkcnmbcefbeldaa
