/-
  NARROWER THAN 'FOR EVERY INPUT', by the rows' own cells (each row's printed sentence says how): ShapeChecks: loops · ShapeRuns: loops · ShapeFlats: loops.
  DERIVED. THE GIVEN ROWS OF THIS SEAT. 16 by the template 'for every input the law returns true; each argument reads behind the call as it read before'; 0 by the template 'total and deterministic' (their statements: YtokjogplnoeicaaTotals.lean).
  GIVEN WITH THE SEED: the statements are not yours to turn. If you find one false, say at which input.
  Laid BY PROGRAM, IN A SANDBOX (cutbox-rows.mjs): the forced cells as the released guide's own fill.sh prints them over the translation 729d5413f86bd453… (all of the seat's roots in one cut). By AI agents, Wed Nov 11 2026. No macro, syntax, notation, axiom, sorry.
-/
import Derived.Test.YtokjogplnoeicaaChecked
import GoSem.Claim
import GoSem.ClaimJoined
import GoSem.ClaimMapViews
import Derived.JoinedTies
import Derived.KernelRfl
namespace Go.Proofs.Ytokjogplnoeicaa
/- THE CELL 'sum', in the pinned program and in every row, IS THE sha256 OF THE DUMP (.gsa) THAT YtokjogplnoeicaaProg.lean LOADS. Nothing in Lean hashes anything: it is a label: what it is worth is what the hold of that sum in a sandbox is worth. -/
noncomputable def Try.pinned : Pinned := { name := "ytokjogplnoeicaa", sum := "729d5413f86bd45319afbb4d4ffd20c18d92944923bd46fd28dabf18cc526d2a", checked := Try.checked }
namespace Rows
def none {H : Type} : Left H := { results := [], args := [] }

/-- 'codemasonlaw.BlockChecks': WHATEVER THE INPUT: true; the input reads as it did. -/
def blockChecksSpec : ChangeSpec := { name := "blockChecks", fn := fun _ => fun
  | [d1, d2] => { results := [.lit (.bool true)], args := [d1, d2] }
  | _ => none }
def blockChecksRow : OpenClaim := { program := "ytokjogplnoeicaa", sum := "729d5413f86bd45319afbb4d4ffd20c18d92944923bd46fd28dabf18cc526d2a", func := "codemason/codemasonlaw.BlockChecks", spec := "blockChecks", unfollowed := true, recurses := true, apart := false }
def BlockChecksSaid : Prop := blockChecksRow.holds Try.pinned (OpenSpec.ofChange blockChecksSpec)

/-- ITS FALSE NEIGHBOUR: 'it returns false'. Refute it at one input. -/
def blockChecksWrong : ChangeSpec := { name := "blockChecks", fn := fun _ => fun
  | [d1, d2] => { results := [.lit (.bool false)], args := [d1, d2] }
  | _ => none }
def BlockChecksWrongFalsely : Prop := blockChecksRow.holds Try.pinned (OpenSpec.ofChange blockChecksWrong)

/-- 'codemasonlaw.BlockWays': WHATEVER THE INPUT: true; the input reads as it did. -/
def blockWaysSpec : ChangeSpec := { name := "blockWays", fn := fun _ => fun
  | [d1, d2] => { results := [.lit (.bool true)], args := [d1, d2] }
  | _ => none }
def blockWaysRow : OpenClaim := { program := "ytokjogplnoeicaa", sum := "729d5413f86bd45319afbb4d4ffd20c18d92944923bd46fd28dabf18cc526d2a", func := "codemason/codemasonlaw.BlockWays", spec := "blockWays", unfollowed := true, recurses := true, apart := false }
def BlockWaysSaid : Prop := blockWaysRow.holds Try.pinned (OpenSpec.ofChange blockWaysSpec)

/-- ITS FALSE NEIGHBOUR: 'it returns false'. Refute it at one input. -/
def blockWaysWrong : ChangeSpec := { name := "blockWays", fn := fun _ => fun
  | [d1, d2] => { results := [.lit (.bool false)], args := [d1, d2] }
  | _ => none }
def BlockWaysWrongFalsely : Prop := blockWaysRow.holds Try.pinned (OpenSpec.ofChange blockWaysWrong)

/-- 'codemasonlaw.BlockRuns': WHATEVER THE INPUT: true; the input reads as it did. -/
def blockRunsSpec : ChangeSpec := { name := "blockRuns", fn := fun _ => fun
  | [d1, d2, d3] => { results := [.lit (.bool true)], args := [d1, d2, d3] }
  | _ => none }
def blockRunsRow : OpenClaim := { program := "ytokjogplnoeicaa", sum := "729d5413f86bd45319afbb4d4ffd20c18d92944923bd46fd28dabf18cc526d2a", func := "codemason/codemasonlaw.BlockRuns", spec := "blockRuns", unfollowed := true, recurses := true, apart := false }
def BlockRunsSaid : Prop := blockRunsRow.holds Try.pinned (OpenSpec.ofChange blockRunsSpec)

/-- ITS FALSE NEIGHBOUR: 'it returns false'. Refute it at one input. -/
def blockRunsWrong : ChangeSpec := { name := "blockRuns", fn := fun _ => fun
  | [d1, d2, d3] => { results := [.lit (.bool false)], args := [d1, d2, d3] }
  | _ => none }
def BlockRunsWrongFalsely : Prop := blockRunsRow.holds Try.pinned (OpenSpec.ofChange blockRunsWrong)

/-- 'codemasonlaw.LiveTells': WHATEVER THE INPUT: true; the input reads as it did. -/
def liveTellsSpec : ChangeSpec := { name := "liveTells", fn := fun _ => fun
  | [d1, d2, d3] => { results := [.lit (.bool true)], args := [d1, d2, d3] }
  | _ => none }
def liveTellsRow : OpenClaim := { program := "ytokjogplnoeicaa", sum := "729d5413f86bd45319afbb4d4ffd20c18d92944923bd46fd28dabf18cc526d2a", func := "codemason/codemasonlaw.LiveTells", spec := "liveTells", unfollowed := true, recurses := true, apart := false }
def LiveTellsSaid : Prop := liveTellsRow.holds Try.pinned (OpenSpec.ofChange liveTellsSpec)

/-- ITS FALSE NEIGHBOUR: 'it returns false'. Refute it at one input. -/
def liveTellsWrong : ChangeSpec := { name := "liveTells", fn := fun _ => fun
  | [d1, d2, d3] => { results := [.lit (.bool false)], args := [d1, d2, d3] }
  | _ => none }
def LiveTellsWrongFalsely : Prop := liveTellsRow.holds Try.pinned (OpenSpec.ofChange liveTellsWrong)

/-- 'codemasonlaw.LiveTrims': WHATEVER THE INPUT: true; the input reads as it did. -/
def liveTrimsSpec : ChangeSpec := { name := "liveTrims", fn := fun _ => fun
  | [d1, d2, d3] => { results := [.lit (.bool true)], args := [d1, d2, d3] }
  | _ => none }
def liveTrimsRow : OpenClaim := { program := "ytokjogplnoeicaa", sum := "729d5413f86bd45319afbb4d4ffd20c18d92944923bd46fd28dabf18cc526d2a", func := "codemason/codemasonlaw.LiveTrims", spec := "liveTrims", unfollowed := true, recurses := true, apart := false }
def LiveTrimsSaid : Prop := liveTrimsRow.holds Try.pinned (OpenSpec.ofChange liveTrimsSpec)

/-- ITS FALSE NEIGHBOUR: 'it returns false'. Refute it at one input. -/
def liveTrimsWrong : ChangeSpec := { name := "liveTrims", fn := fun _ => fun
  | [d1, d2, d3] => { results := [.lit (.bool false)], args := [d1, d2, d3] }
  | _ => none }
def LiveTrimsWrongFalsely : Prop := liveTrimsRow.holds Try.pinned (OpenSpec.ofChange liveTrimsWrong)

/-- 'codemasonlaw.KnownTells': WHATEVER THE INPUT: true; the input reads as it did. -/
def knownTellsSpec : ChangeSpec := { name := "knownTells", fn := fun _ => fun
  | [d1, d2, d3] => { results := [.lit (.bool true)], args := [d1, d2, d3] }
  | _ => none }
def knownTellsRow : OpenClaim := { program := "ytokjogplnoeicaa", sum := "729d5413f86bd45319afbb4d4ffd20c18d92944923bd46fd28dabf18cc526d2a", func := "codemason/codemasonlaw.KnownTells", spec := "knownTells", unfollowed := true, recurses := true, apart := false }
def KnownTellsSaid : Prop := knownTellsRow.holds Try.pinned (OpenSpec.ofChange knownTellsSpec)

/-- ITS FALSE NEIGHBOUR: 'it returns false'. Refute it at one input. -/
def knownTellsWrong : ChangeSpec := { name := "knownTells", fn := fun _ => fun
  | [d1, d2, d3] => { results := [.lit (.bool false)], args := [d1, d2, d3] }
  | _ => none }
def KnownTellsWrongFalsely : Prop := knownTellsRow.holds Try.pinned (OpenSpec.ofChange knownTellsWrong)

/-- 'codemasonlaw.KnownFolds': WHATEVER THE INPUT: true; the input reads as it did. -/
def knownFoldsSpec : ChangeSpec := { name := "knownFolds", fn := fun _ => fun
  | [d1, d2, d3] => { results := [.lit (.bool true)], args := [d1, d2, d3] }
  | _ => none }
def knownFoldsRow : OpenClaim := { program := "ytokjogplnoeicaa", sum := "729d5413f86bd45319afbb4d4ffd20c18d92944923bd46fd28dabf18cc526d2a", func := "codemason/codemasonlaw.KnownFolds", spec := "knownFolds", unfollowed := true, recurses := true, apart := false }
def KnownFoldsSaid : Prop := knownFoldsRow.holds Try.pinned (OpenSpec.ofChange knownFoldsSpec)

/-- ITS FALSE NEIGHBOUR: 'it returns false'. Refute it at one input. -/
def knownFoldsWrong : ChangeSpec := { name := "knownFolds", fn := fun _ => fun
  | [d1, d2, d3] => { results := [.lit (.bool false)], args := [d1, d2, d3] }
  | _ => none }
def KnownFoldsWrongFalsely : Prop := knownFoldsRow.holds Try.pinned (OpenSpec.ofChange knownFoldsWrong)

/-- 'codemasonlaw.SpanTells': WHATEVER THE INPUT: true; the input reads as it did. -/
def spanTellsSpec : ChangeSpec := { name := "spanTells", fn := fun _ => fun
  | [d1, d2, d3] => { results := [.lit (.bool true)], args := [d1, d2, d3] }
  | _ => none }
def spanTellsRow : OpenClaim := { program := "ytokjogplnoeicaa", sum := "729d5413f86bd45319afbb4d4ffd20c18d92944923bd46fd28dabf18cc526d2a", func := "codemason/codemasonlaw.SpanTells", spec := "spanTells", unfollowed := true, recurses := true, apart := false }
def SpanTellsSaid : Prop := spanTellsRow.holds Try.pinned (OpenSpec.ofChange spanTellsSpec)

/-- ITS FALSE NEIGHBOUR: 'it returns false'. Refute it at one input. -/
def spanTellsWrong : ChangeSpec := { name := "spanTells", fn := fun _ => fun
  | [d1, d2, d3] => { results := [.lit (.bool false)], args := [d1, d2, d3] }
  | _ => none }
def SpanTellsWrongFalsely : Prop := spanTellsRow.holds Try.pinned (OpenSpec.ofChange spanTellsWrong)

/-- 'codemasonlaw.ShapeChecks': WHATEVER THE INPUT: true; the input reads as it did. -/
def shapeChecksSpec : ChangeSpec := { name := "shapeChecks", fn := fun _ => fun
  | [d1, d2] => { results := [.lit (.bool true)], args := [d1, d2] }
  | _ => none }
def shapeChecksRow : OpenClaim := { program := "ytokjogplnoeicaa", sum := "729d5413f86bd45319afbb4d4ffd20c18d92944923bd46fd28dabf18cc526d2a", func := "codemason/codemasonlaw.ShapeChecks", spec := "shapeChecks", unfollowed := true, recurses := true, loops := true, apart := false }
def ShapeChecksSaid : Prop := shapeChecksRow.holds Try.pinned (OpenSpec.ofChange shapeChecksSpec)

/-- ITS FALSE NEIGHBOUR: 'it returns false'. Refute it at one input. -/
def shapeChecksWrong : ChangeSpec := { name := "shapeChecks", fn := fun _ => fun
  | [d1, d2] => { results := [.lit (.bool false)], args := [d1, d2] }
  | _ => none }
def ShapeChecksWrongFalsely : Prop := shapeChecksRow.holds Try.pinned (OpenSpec.ofChange shapeChecksWrong)

/-- 'codemasonlaw.ShapeBuilds': WHATEVER THE INPUT: true; the input reads as it did. -/
def shapeBuildsSpec : ChangeSpec := { name := "shapeBuilds", fn := fun _ => fun
  | [d1, d2, d3] => { results := [.lit (.bool true)], args := [d1, d2, d3] }
  | _ => none }
def shapeBuildsRow : OpenClaim := { program := "ytokjogplnoeicaa", sum := "729d5413f86bd45319afbb4d4ffd20c18d92944923bd46fd28dabf18cc526d2a", func := "codemason/codemasonlaw.ShapeBuilds", spec := "shapeBuilds", unfollowed := true, recurses := true, apart := false }
def ShapeBuildsSaid : Prop := shapeBuildsRow.holds Try.pinned (OpenSpec.ofChange shapeBuildsSpec)

/-- ITS FALSE NEIGHBOUR: 'it returns false'. Refute it at one input. -/
def shapeBuildsWrong : ChangeSpec := { name := "shapeBuilds", fn := fun _ => fun
  | [d1, d2, d3] => { results := [.lit (.bool false)], args := [d1, d2, d3] }
  | _ => none }
def ShapeBuildsWrongFalsely : Prop := shapeBuildsRow.holds Try.pinned (OpenSpec.ofChange shapeBuildsWrong)

/-- 'codemasonlaw.ShapeRuns': WHATEVER THE INPUT: true; the input reads as it did. -/
def shapeRunsSpec : ChangeSpec := { name := "shapeRuns", fn := fun _ => fun
  | [d1, d2, d3] => { results := [.lit (.bool true)], args := [d1, d2, d3] }
  | _ => none }
def shapeRunsRow : OpenClaim := { program := "ytokjogplnoeicaa", sum := "729d5413f86bd45319afbb4d4ffd20c18d92944923bd46fd28dabf18cc526d2a", func := "codemason/codemasonlaw.ShapeRuns", spec := "shapeRuns", unfollowed := true, recurses := true, loops := true, apart := false }
def ShapeRunsSaid : Prop := shapeRunsRow.holds Try.pinned (OpenSpec.ofChange shapeRunsSpec)

/-- ITS FALSE NEIGHBOUR: 'it returns false'. Refute it at one input. -/
def shapeRunsWrong : ChangeSpec := { name := "shapeRuns", fn := fun _ => fun
  | [d1, d2, d3] => { results := [.lit (.bool false)], args := [d1, d2, d3] }
  | _ => none }
def ShapeRunsWrongFalsely : Prop := shapeRunsRow.holds Try.pinned (OpenSpec.ofChange shapeRunsWrong)

/-- 'codemasonlaw.ShapeFlats': WHATEVER THE INPUT: true; the input reads as it did. -/
def shapeFlatsSpec : ChangeSpec := { name := "shapeFlats", fn := fun _ => fun
  | [d1, d2, d3] => { results := [.lit (.bool true)], args := [d1, d2, d3] }
  | _ => none }
def shapeFlatsRow : OpenClaim := { program := "ytokjogplnoeicaa", sum := "729d5413f86bd45319afbb4d4ffd20c18d92944923bd46fd28dabf18cc526d2a", func := "codemason/codemasonlaw.ShapeFlats", spec := "shapeFlats", unfollowed := true, recurses := true, loops := true, apart := false }
def ShapeFlatsSaid : Prop := shapeFlatsRow.holds Try.pinned (OpenSpec.ofChange shapeFlatsSpec)

/-- ITS FALSE NEIGHBOUR: 'it returns false'. Refute it at one input. -/
def shapeFlatsWrong : ChangeSpec := { name := "shapeFlats", fn := fun _ => fun
  | [d1, d2, d3] => { results := [.lit (.bool false)], args := [d1, d2, d3] }
  | _ => none }
def ShapeFlatsWrongFalsely : Prop := shapeFlatsRow.holds Try.pinned (OpenSpec.ofChange shapeFlatsWrong)

/-- 'codemasonlaw.CutNeeds': WHATEVER THE INPUT: true; the input reads as it did. -/
def cutNeedsSpec : ChangeSpec := { name := "cutNeeds", fn := fun _ => fun
  | [d1, d2, d3] => { results := [.lit (.bool true)], args := [d1, d2, d3] }
  | _ => none }
def cutNeedsRow : OpenClaim := { program := "ytokjogplnoeicaa", sum := "729d5413f86bd45319afbb4d4ffd20c18d92944923bd46fd28dabf18cc526d2a", func := "codemason/codemasonlaw.CutNeeds", spec := "cutNeeds", unfollowed := true, recurses := true, apart := false }
def CutNeedsSaid : Prop := cutNeedsRow.holds Try.pinned (OpenSpec.ofChange cutNeedsSpec)

/-- ITS FALSE NEIGHBOUR: 'it returns false'. Refute it at one input. -/
def cutNeedsWrong : ChangeSpec := { name := "cutNeeds", fn := fun _ => fun
  | [d1, d2, d3] => { results := [.lit (.bool false)], args := [d1, d2, d3] }
  | _ => none }
def CutNeedsWrongFalsely : Prop := cutNeedsRow.holds Try.pinned (OpenSpec.ofChange cutNeedsWrong)

/-- 'codemasonlaw.CutSlices': WHATEVER THE INPUT: true; the input reads as it did. -/
def cutSlicesSpec : ChangeSpec := { name := "cutSlices", fn := fun _ => fun
  | [d1, d2, d3] => { results := [.lit (.bool true)], args := [d1, d2, d3] }
  | _ => none }
def cutSlicesRow : OpenClaim := { program := "ytokjogplnoeicaa", sum := "729d5413f86bd45319afbb4d4ffd20c18d92944923bd46fd28dabf18cc526d2a", func := "codemason/codemasonlaw.CutSlices", spec := "cutSlices", unfollowed := true, recurses := true, apart := false }
def CutSlicesSaid : Prop := cutSlicesRow.holds Try.pinned (OpenSpec.ofChange cutSlicesSpec)

/-- ITS FALSE NEIGHBOUR: 'it returns false'. Refute it at one input. -/
def cutSlicesWrong : ChangeSpec := { name := "cutSlices", fn := fun _ => fun
  | [d1, d2, d3] => { results := [.lit (.bool false)], args := [d1, d2, d3] }
  | _ => none }
def CutSlicesWrongFalsely : Prop := cutSlicesRow.holds Try.pinned (OpenSpec.ofChange cutSlicesWrong)

/-- 'codemasonlaw.MachRuns': WHATEVER THE INPUT: true; the input reads as it did. -/
def machRunsSpec : ChangeSpec := { name := "machRuns", fn := fun _ => fun
  | [d1, d2] => { results := [.lit (.bool true)], args := [d1, d2] }
  | _ => none }
def machRunsRow : OpenClaim := { program := "ytokjogplnoeicaa", sum := "729d5413f86bd45319afbb4d4ffd20c18d92944923bd46fd28dabf18cc526d2a", func := "codemason/codemasonlaw.MachRuns", spec := "machRuns", unfollowed := true, recurses := true, apart := false }
def MachRunsSaid : Prop := machRunsRow.holds Try.pinned (OpenSpec.ofChange machRunsSpec)

/-- ITS FALSE NEIGHBOUR: 'it returns false'. Refute it at one input. -/
def machRunsWrong : ChangeSpec := { name := "machRuns", fn := fun _ => fun
  | [d1, d2] => { results := [.lit (.bool false)], args := [d1, d2] }
  | _ => none }
def MachRunsWrongFalsely : Prop := machRunsRow.holds Try.pinned (OpenSpec.ofChange machRunsWrong)

/-- 'codemasonlaw.MachCodes': WHATEVER THE INPUT: true; the input reads as it did. -/
def machCodesSpec : ChangeSpec := { name := "machCodes", fn := fun _ => fun
  | [d1, d2, d3] => { results := [.lit (.bool true)], args := [d1, d2, d3] }
  | _ => none }
def machCodesRow : OpenClaim := { program := "ytokjogplnoeicaa", sum := "729d5413f86bd45319afbb4d4ffd20c18d92944923bd46fd28dabf18cc526d2a", func := "codemason/codemasonlaw.MachCodes", spec := "machCodes", unfollowed := true, recurses := true, apart := false }
def MachCodesSaid : Prop := machCodesRow.holds Try.pinned (OpenSpec.ofChange machCodesSpec)

/-- ITS FALSE NEIGHBOUR: 'it returns false'. Refute it at one input. -/
def machCodesWrong : ChangeSpec := { name := "machCodes", fn := fun _ => fun
  | [d1, d2, d3] => { results := [.lit (.bool false)], args := [d1, d2, d3] }
  | _ => none }
def MachCodesWrongFalsely : Prop := machCodesRow.holds Try.pinned (OpenSpec.ofChange machCodesWrong)

/- THE SECOND FORM. 'bulk': how many values and letters a reading holds, each counted each time it is reached (what is shared counts as often as it is met; a slice's spare places count too). A statement '..UptoSaid' is the law's where the arguments, and the package variables that the reading takes, are together of bulk at most 1048576: NARROWER than '..Said'. Prove '..Said' where nothing that the law and all that it calls make is longer than what came in: it says more and counts as full. Else prove '..UptoSaid'. A law counts once. -/
mutual
def uptoBulk {H : Type} : DataW H → Nat
  | .lit (.string bytes) => bytes.length + 1
  | .lit _ => 1
  | .nil => 1
  | .ptr d => uptoBulk d + 1
  | .slice elems spare => uptoBulkAll elems + uptoBulkAll spare + 1
  | .agg parts => uptoBulkAll parts + 1
  | .iface _ d => uptoBulk d + 1
  | .map entries => uptoBulkEntries entries + 1
  | .held _ => 1
def uptoBulkAll {H : Type} : List (DataW H) → Nat
  | [] => 0
  | d :: r => uptoBulk d + uptoBulkAll r
def uptoBulkEntries {H : Type} : List (Lit × DataW H) → Nat
  | [] => 0
  | x :: r => uptoBulkEntry x + uptoBulkEntries r
def uptoBulkEntry {H : Type} : Lit × DataW H → Nat
  | (.string bytes, d) => bytes.length + uptoBulk d + 1
  | (_, d) => uptoBulk d + 1
 end
def uptoSmall : (H : Type) → List (DataW H) → Bool := fun _ ds => decide (uptoBulkAll ds ≤ 1048576)
def OpenSpec.upto (s : _root_.Go.ChangeSpec) : _root_.Go.OpenSpec := { _root_.Go.OpenSpec.ofChange s with cond := some uptoSmall }

/-- 'codemasonlaw.BlockChecks', WHERE WHAT IT READS IS OF BULK AT MOST 1048576: true; the input reads as it did. -/
def blockChecksUptoRow : OpenClaim := { program := "ytokjogplnoeicaa", sum := "729d5413f86bd45319afbb4d4ffd20c18d92944923bd46fd28dabf18cc526d2a", func := "codemason/codemasonlaw.BlockChecks", spec := "blockChecks", unfollowed := true, recurses := true, apart := false, narrowed := true }
def BlockChecksUptoSaid : Prop := blockChecksUptoRow.holds Try.pinned (OpenSpec.upto blockChecksSpec)

/-- 'codemasonlaw.BlockWays', WHERE WHAT IT READS IS OF BULK AT MOST 1048576: true; the input reads as it did. -/
def blockWaysUptoRow : OpenClaim := { program := "ytokjogplnoeicaa", sum := "729d5413f86bd45319afbb4d4ffd20c18d92944923bd46fd28dabf18cc526d2a", func := "codemason/codemasonlaw.BlockWays", spec := "blockWays", unfollowed := true, recurses := true, apart := false, narrowed := true }
def BlockWaysUptoSaid : Prop := blockWaysUptoRow.holds Try.pinned (OpenSpec.upto blockWaysSpec)

/-- 'codemasonlaw.BlockRuns', WHERE WHAT IT READS IS OF BULK AT MOST 1048576: true; the input reads as it did. -/
def blockRunsUptoRow : OpenClaim := { program := "ytokjogplnoeicaa", sum := "729d5413f86bd45319afbb4d4ffd20c18d92944923bd46fd28dabf18cc526d2a", func := "codemason/codemasonlaw.BlockRuns", spec := "blockRuns", unfollowed := true, recurses := true, apart := false, narrowed := true }
def BlockRunsUptoSaid : Prop := blockRunsUptoRow.holds Try.pinned (OpenSpec.upto blockRunsSpec)

/-- 'codemasonlaw.LiveTells', WHERE WHAT IT READS IS OF BULK AT MOST 1048576: true; the input reads as it did. -/
def liveTellsUptoRow : OpenClaim := { program := "ytokjogplnoeicaa", sum := "729d5413f86bd45319afbb4d4ffd20c18d92944923bd46fd28dabf18cc526d2a", func := "codemason/codemasonlaw.LiveTells", spec := "liveTells", unfollowed := true, recurses := true, apart := false, narrowed := true }
def LiveTellsUptoSaid : Prop := liveTellsUptoRow.holds Try.pinned (OpenSpec.upto liveTellsSpec)

/-- 'codemasonlaw.LiveTrims', WHERE WHAT IT READS IS OF BULK AT MOST 1048576: true; the input reads as it did. -/
def liveTrimsUptoRow : OpenClaim := { program := "ytokjogplnoeicaa", sum := "729d5413f86bd45319afbb4d4ffd20c18d92944923bd46fd28dabf18cc526d2a", func := "codemason/codemasonlaw.LiveTrims", spec := "liveTrims", unfollowed := true, recurses := true, apart := false, narrowed := true }
def LiveTrimsUptoSaid : Prop := liveTrimsUptoRow.holds Try.pinned (OpenSpec.upto liveTrimsSpec)

/-- 'codemasonlaw.KnownTells', WHERE WHAT IT READS IS OF BULK AT MOST 1048576: true; the input reads as it did. -/
def knownTellsUptoRow : OpenClaim := { program := "ytokjogplnoeicaa", sum := "729d5413f86bd45319afbb4d4ffd20c18d92944923bd46fd28dabf18cc526d2a", func := "codemason/codemasonlaw.KnownTells", spec := "knownTells", unfollowed := true, recurses := true, apart := false, narrowed := true }
def KnownTellsUptoSaid : Prop := knownTellsUptoRow.holds Try.pinned (OpenSpec.upto knownTellsSpec)

/-- 'codemasonlaw.KnownFolds', WHERE WHAT IT READS IS OF BULK AT MOST 1048576: true; the input reads as it did. -/
def knownFoldsUptoRow : OpenClaim := { program := "ytokjogplnoeicaa", sum := "729d5413f86bd45319afbb4d4ffd20c18d92944923bd46fd28dabf18cc526d2a", func := "codemason/codemasonlaw.KnownFolds", spec := "knownFolds", unfollowed := true, recurses := true, apart := false, narrowed := true }
def KnownFoldsUptoSaid : Prop := knownFoldsUptoRow.holds Try.pinned (OpenSpec.upto knownFoldsSpec)

/-- 'codemasonlaw.SpanTells', WHERE WHAT IT READS IS OF BULK AT MOST 1048576: true; the input reads as it did. -/
def spanTellsUptoRow : OpenClaim := { program := "ytokjogplnoeicaa", sum := "729d5413f86bd45319afbb4d4ffd20c18d92944923bd46fd28dabf18cc526d2a", func := "codemason/codemasonlaw.SpanTells", spec := "spanTells", unfollowed := true, recurses := true, apart := false, narrowed := true }
def SpanTellsUptoSaid : Prop := spanTellsUptoRow.holds Try.pinned (OpenSpec.upto spanTellsSpec)

/-- 'codemasonlaw.ShapeChecks', WHERE WHAT IT READS IS OF BULK AT MOST 1048576: true; the input reads as it did. -/
def shapeChecksUptoRow : OpenClaim := { program := "ytokjogplnoeicaa", sum := "729d5413f86bd45319afbb4d4ffd20c18d92944923bd46fd28dabf18cc526d2a", func := "codemason/codemasonlaw.ShapeChecks", spec := "shapeChecks", unfollowed := true, recurses := true, loops := true, apart := false, narrowed := true }
def ShapeChecksUptoSaid : Prop := shapeChecksUptoRow.holds Try.pinned (OpenSpec.upto shapeChecksSpec)

/-- 'codemasonlaw.ShapeBuilds', WHERE WHAT IT READS IS OF BULK AT MOST 1048576: true; the input reads as it did. -/
def shapeBuildsUptoRow : OpenClaim := { program := "ytokjogplnoeicaa", sum := "729d5413f86bd45319afbb4d4ffd20c18d92944923bd46fd28dabf18cc526d2a", func := "codemason/codemasonlaw.ShapeBuilds", spec := "shapeBuilds", unfollowed := true, recurses := true, apart := false, narrowed := true }
def ShapeBuildsUptoSaid : Prop := shapeBuildsUptoRow.holds Try.pinned (OpenSpec.upto shapeBuildsSpec)

/-- 'codemasonlaw.ShapeRuns', WHERE WHAT IT READS IS OF BULK AT MOST 1048576: true; the input reads as it did. -/
def shapeRunsUptoRow : OpenClaim := { program := "ytokjogplnoeicaa", sum := "729d5413f86bd45319afbb4d4ffd20c18d92944923bd46fd28dabf18cc526d2a", func := "codemason/codemasonlaw.ShapeRuns", spec := "shapeRuns", unfollowed := true, recurses := true, loops := true, apart := false, narrowed := true }
def ShapeRunsUptoSaid : Prop := shapeRunsUptoRow.holds Try.pinned (OpenSpec.upto shapeRunsSpec)

/-- 'codemasonlaw.ShapeFlats', WHERE WHAT IT READS IS OF BULK AT MOST 1048576: true; the input reads as it did. -/
def shapeFlatsUptoRow : OpenClaim := { program := "ytokjogplnoeicaa", sum := "729d5413f86bd45319afbb4d4ffd20c18d92944923bd46fd28dabf18cc526d2a", func := "codemason/codemasonlaw.ShapeFlats", spec := "shapeFlats", unfollowed := true, recurses := true, loops := true, apart := false, narrowed := true }
def ShapeFlatsUptoSaid : Prop := shapeFlatsUptoRow.holds Try.pinned (OpenSpec.upto shapeFlatsSpec)

/-- 'codemasonlaw.CutNeeds', WHERE WHAT IT READS IS OF BULK AT MOST 1048576: true; the input reads as it did. -/
def cutNeedsUptoRow : OpenClaim := { program := "ytokjogplnoeicaa", sum := "729d5413f86bd45319afbb4d4ffd20c18d92944923bd46fd28dabf18cc526d2a", func := "codemason/codemasonlaw.CutNeeds", spec := "cutNeeds", unfollowed := true, recurses := true, apart := false, narrowed := true }
def CutNeedsUptoSaid : Prop := cutNeedsUptoRow.holds Try.pinned (OpenSpec.upto cutNeedsSpec)

/-- 'codemasonlaw.CutSlices', WHERE WHAT IT READS IS OF BULK AT MOST 1048576: true; the input reads as it did. -/
def cutSlicesUptoRow : OpenClaim := { program := "ytokjogplnoeicaa", sum := "729d5413f86bd45319afbb4d4ffd20c18d92944923bd46fd28dabf18cc526d2a", func := "codemason/codemasonlaw.CutSlices", spec := "cutSlices", unfollowed := true, recurses := true, apart := false, narrowed := true }
def CutSlicesUptoSaid : Prop := cutSlicesUptoRow.holds Try.pinned (OpenSpec.upto cutSlicesSpec)

/-- 'codemasonlaw.MachRuns', WHERE WHAT IT READS IS OF BULK AT MOST 1048576: true; the input reads as it did. -/
def machRunsUptoRow : OpenClaim := { program := "ytokjogplnoeicaa", sum := "729d5413f86bd45319afbb4d4ffd20c18d92944923bd46fd28dabf18cc526d2a", func := "codemason/codemasonlaw.MachRuns", spec := "machRuns", unfollowed := true, recurses := true, apart := false, narrowed := true }
def MachRunsUptoSaid : Prop := machRunsUptoRow.holds Try.pinned (OpenSpec.upto machRunsSpec)

/-- 'codemasonlaw.MachCodes', WHERE WHAT IT READS IS OF BULK AT MOST 1048576: true; the input reads as it did. -/
def machCodesUptoRow : OpenClaim := { program := "ytokjogplnoeicaa", sum := "729d5413f86bd45319afbb4d4ffd20c18d92944923bd46fd28dabf18cc526d2a", func := "codemason/codemasonlaw.MachCodes", spec := "machCodes", unfollowed := true, recurses := true, apart := false, narrowed := true }
def MachCodesUptoSaid : Prop := machCodesUptoRow.holds Try.pinned (OpenSpec.upto machCodesSpec)

end Rows
end Go.Proofs.Ytokjogplnoeicaa
