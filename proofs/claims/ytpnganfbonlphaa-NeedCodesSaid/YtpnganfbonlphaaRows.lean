/-
  No cell of these rows narrows 'for every input' (looked for: loops, veiled, ifaces, maps, wideKeys, modest, calm, conditions, laid).
  DERIVED. THE GIVEN ROWS OF THIS SEAT. 17 by the template 'for every input the law returns true; each argument reads behind the call as it read before'; 0 by the template 'total and deterministic' (their statements: YtpnganfbonlphaaTotals.lean).
  GIVEN WITH THE SEED: the statements are not yours to turn. If you find one false, say at which input.
  Laid BY PROGRAM, IN A SANDBOX (cutbox-rows.mjs): the forced cells as the released guide's own fill.sh prints them over the translation 504c6e465b9fd4e6… (all of the seat's roots in one cut). By AI agents, Wed Nov 11 2026. No macro, syntax, notation, axiom, sorry.
-/
import Derived.Test.YtpnganfbonlphaaChecked
import GoSem.Claim
import GoSem.ClaimJoined
import GoSem.ClaimMapViews
import Derived.JoinedTies
import Derived.KernelRfl
namespace Go.Proofs.Ytpnganfbonlphaa
/- THE CELL 'sum', in the pinned program and in every row, IS THE sha256 OF THE DUMP (.gsa) THAT YtpnganfbonlphaaProg.lean LOADS. Nothing in Lean hashes anything: it is a label: what it is worth is what the hold of that sum in a sandbox is worth. -/
noncomputable def Try.pinned : Pinned := { name := "ytpnganfbonlphaa", sum := "504c6e465b9fd4e632aab3f7552fa9642ae9f594fc1c894d57c8c27846a12689", checked := Try.checked }
namespace Rows
def none {H : Type} : Left H := { results := [], args := [] }

/-- 'codemasonlaw.TermChecks': WHATEVER THE INPUT: true; the input reads as it did. -/
def termChecksSpec : ChangeSpec := { name := "termChecks", fn := fun _ => fun
  | [d1, d2] => { results := [.lit (.bool true)], args := [d1, d2] }
  | _ => none }
def termChecksRow : OpenClaim := { program := "ytpnganfbonlphaa", sum := "504c6e465b9fd4e632aab3f7552fa9642ae9f594fc1c894d57c8c27846a12689", func := "codemason/codemasonlaw.TermChecks", spec := "termChecks", plainKeys := false, apart := false }
def TermChecksSaid : Prop := termChecksRow.holds Try.pinned (OpenSpec.ofChange termChecksSpec)

/-- ITS FALSE NEIGHBOUR: 'it returns false'. Refute it at one input. -/
def termChecksWrong : ChangeSpec := { name := "termChecks", fn := fun _ => fun
  | [d1, d2] => { results := [.lit (.bool false)], args := [d1, d2] }
  | _ => none }
def TermChecksWrongFalsely : Prop := termChecksRow.holds Try.pinned (OpenSpec.ofChange termChecksWrong)

/-- 'codemasonlaw.TermUses': WHATEVER THE INPUT: true; the input reads as it did. -/
def termUsesSpec : ChangeSpec := { name := "termUses", fn := fun _ => fun
  | [d1, d2] => { results := [.lit (.bool true)], args := [d1, d2] }
  | _ => none }
def termUsesRow : OpenClaim := { program := "ytpnganfbonlphaa", sum := "504c6e465b9fd4e632aab3f7552fa9642ae9f594fc1c894d57c8c27846a12689", func := "codemason/codemasonlaw.TermUses", spec := "termUses", unfollowed := true, recurses := true, plainKeys := false, apart := false }
def TermUsesSaid : Prop := termUsesRow.holds Try.pinned (OpenSpec.ofChange termUsesSpec)

/-- ITS FALSE NEIGHBOUR: 'it returns false'. Refute it at one input. -/
def termUsesWrong : ChangeSpec := { name := "termUses", fn := fun _ => fun
  | [d1, d2] => { results := [.lit (.bool false)], args := [d1, d2] }
  | _ => none }
def TermUsesWrongFalsely : Prop := termUsesRow.holds Try.pinned (OpenSpec.ofChange termUsesWrong)

/-- 'codemasonlaw.TermValues': WHATEVER THE INPUT: true; the input reads as it did. -/
def termValuesSpec : ChangeSpec := { name := "termValues", fn := fun _ => fun
  | [d1, d2, d3] => { results := [.lit (.bool true)], args := [d1, d2, d3] }
  | _ => none }
def termValuesRow : OpenClaim := { program := "ytpnganfbonlphaa", sum := "504c6e465b9fd4e632aab3f7552fa9642ae9f594fc1c894d57c8c27846a12689", func := "codemason/codemasonlaw.TermValues", spec := "termValues", unfollowed := true, recurses := true, plainKeys := false, apart := false }
def TermValuesSaid : Prop := termValuesRow.holds Try.pinned (OpenSpec.ofChange termValuesSpec)

/-- ITS FALSE NEIGHBOUR: 'it returns false'. Refute it at one input. -/
def termValuesWrong : ChangeSpec := { name := "termValues", fn := fun _ => fun
  | [d1, d2, d3] => { results := [.lit (.bool false)], args := [d1, d2, d3] }
  | _ => none }
def TermValuesWrongFalsely : Prop := termValuesRow.holds Try.pinned (OpenSpec.ofChange termValuesWrong)

/-- 'codemasonlaw.TermFolds': WHATEVER THE INPUT: true; the input reads as it did. -/
def termFoldsSpec : ChangeSpec := { name := "termFolds", fn := fun _ => fun
  | [d1, d2, d3] => { results := [.lit (.bool true)], args := [d1, d2, d3] }
  | _ => none }
def termFoldsRow : OpenClaim := { program := "ytpnganfbonlphaa", sum := "504c6e465b9fd4e632aab3f7552fa9642ae9f594fc1c894d57c8c27846a12689", func := "codemason/codemasonlaw.TermFolds", spec := "termFolds", unfollowed := true, recurses := true, plainKeys := false, apart := false }
def TermFoldsSaid : Prop := termFoldsRow.holds Try.pinned (OpenSpec.ofChange termFoldsSpec)

/-- ITS FALSE NEIGHBOUR: 'it returns false'. Refute it at one input. -/
def termFoldsWrong : ChangeSpec := { name := "termFolds", fn := fun _ => fun
  | [d1, d2, d3] => { results := [.lit (.bool false)], args := [d1, d2, d3] }
  | _ => none }
def TermFoldsWrongFalsely : Prop := termFoldsRow.holds Try.pinned (OpenSpec.ofChange termFoldsWrong)

/-- 'codemasonlaw.NeedTells': WHATEVER THE INPUT: true; the input reads as it did. -/
def needTellsSpec : ChangeSpec := { name := "needTells", fn := fun _ => fun
  | [d1, d2] => { results := [.lit (.bool true)], args := [d1, d2] }
  | _ => none }
def needTellsRow : OpenClaim := { program := "ytpnganfbonlphaa", sum := "504c6e465b9fd4e632aab3f7552fa9642ae9f594fc1c894d57c8c27846a12689", func := "codemason/codemasonlaw.NeedTells", spec := "needTells", recurses := true, plainKeys := false, apart := false }
def NeedTellsSaid : Prop := needTellsRow.holds Try.pinned (OpenSpec.ofChange needTellsSpec)

/-- ITS FALSE NEIGHBOUR: 'it returns false'. Refute it at one input. -/
def needTellsWrong : ChangeSpec := { name := "needTells", fn := fun _ => fun
  | [d1, d2] => { results := [.lit (.bool false)], args := [d1, d2] }
  | _ => none }
def NeedTellsWrongFalsely : Prop := needTellsRow.holds Try.pinned (OpenSpec.ofChange needTellsWrong)

/-- 'codemasonlaw.NeedRuns': WHATEVER THE INPUT: true; the input reads as it did. -/
def needRunsSpec : ChangeSpec := { name := "needRuns", fn := fun _ => fun
  | [d1, d2, d3, d4] => { results := [.lit (.bool true)], args := [d1, d2, d3, d4] }
  | _ => none }
def needRunsRow : OpenClaim := { program := "ytpnganfbonlphaa", sum := "504c6e465b9fd4e632aab3f7552fa9642ae9f594fc1c894d57c8c27846a12689", func := "codemason/codemasonlaw.NeedRuns", spec := "needRuns", unfollowed := true, recurses := true, plainKeys := false, apart := false }
def NeedRunsSaid : Prop := needRunsRow.holds Try.pinned (OpenSpec.ofChange needRunsSpec)

/-- ITS FALSE NEIGHBOUR: 'it returns false'. Refute it at one input. -/
def needRunsWrong : ChangeSpec := { name := "needRuns", fn := fun _ => fun
  | [d1, d2, d3, d4] => { results := [.lit (.bool false)], args := [d1, d2, d3, d4] }
  | _ => none }
def NeedRunsWrongFalsely : Prop := needRunsRow.holds Try.pinned (OpenSpec.ofChange needRunsWrong)

/-- 'codemasonlaw.NeedCodes': WHATEVER THE INPUT: true; the input reads as it did. -/
def needCodesSpec : ChangeSpec := { name := "needCodes", fn := fun _ => fun
  | [d1, d2, d3, d4] => { results := [.lit (.bool true)], args := [d1, d2, d3, d4] }
  | _ => none }
def needCodesRow : OpenClaim := { program := "ytpnganfbonlphaa", sum := "504c6e465b9fd4e632aab3f7552fa9642ae9f594fc1c894d57c8c27846a12689", func := "codemason/codemasonlaw.NeedCodes", spec := "needCodes", recurses := true, plainKeys := false, apart := false }
def NeedCodesSaid : Prop := needCodesRow.holds Try.pinned (OpenSpec.ofChange needCodesSpec)

/-- ITS FALSE NEIGHBOUR: 'it returns false'. Refute it at one input. -/
def needCodesWrong : ChangeSpec := { name := "needCodes", fn := fun _ => fun
  | [d1, d2, d3, d4] => { results := [.lit (.bool false)], args := [d1, d2, d3, d4] }
  | _ => none }
def NeedCodesWrongFalsely : Prop := needCodesRow.holds Try.pinned (OpenSpec.ofChange needCodesWrong)

/-- 'codemasonlaw.StackCodes': WHATEVER THE INPUT: true; the input reads as it did. -/
def stackCodesSpec : ChangeSpec := { name := "stackCodes", fn := fun _ => fun
  | [d1, d2] => { results := [.lit (.bool true)], args := [d1, d2] }
  | _ => none }
def stackCodesRow : OpenClaim := { program := "ytpnganfbonlphaa", sum := "504c6e465b9fd4e632aab3f7552fa9642ae9f594fc1c894d57c8c27846a12689", func := "codemason/codemasonlaw.StackCodes", spec := "stackCodes", unfollowed := true, recurses := true, plainKeys := false, apart := false }
def StackCodesSaid : Prop := stackCodesRow.holds Try.pinned (OpenSpec.ofChange stackCodesSpec)

/-- ITS FALSE NEIGHBOUR: 'it returns false'. Refute it at one input. -/
def stackCodesWrong : ChangeSpec := { name := "stackCodes", fn := fun _ => fun
  | [d1, d2] => { results := [.lit (.bool false)], args := [d1, d2] }
  | _ => none }
def StackCodesWrongFalsely : Prop := stackCodesRow.holds Try.pinned (OpenSpec.ofChange stackCodesWrong)

/-- 'codemasonlaw.StackRuns': WHATEVER THE INPUT: true; the input reads as it did. -/
def stackRunsSpec : ChangeSpec := { name := "stackRuns", fn := fun _ => fun
  | [d1, d2, d3] => { results := [.lit (.bool true)], args := [d1, d2, d3] }
  | _ => none }
def stackRunsRow : OpenClaim := { program := "ytpnganfbonlphaa", sum := "504c6e465b9fd4e632aab3f7552fa9642ae9f594fc1c894d57c8c27846a12689", func := "codemason/codemasonlaw.StackRuns", spec := "stackRuns", unfollowed := true, recurses := true, plainKeys := false, apart := false }
def StackRunsSaid : Prop := stackRunsRow.holds Try.pinned (OpenSpec.ofChange stackRunsSpec)

/-- ITS FALSE NEIGHBOUR: 'it returns false'. Refute it at one input. -/
def stackRunsWrong : ChangeSpec := { name := "stackRuns", fn := fun _ => fun
  | [d1, d2, d3] => { results := [.lit (.bool false)], args := [d1, d2, d3] }
  | _ => none }
def StackRunsWrongFalsely : Prop := stackRunsRow.holds Try.pinned (OpenSpec.ofChange stackRunsWrong)

/-- 'codemasonlaw.StackDeeps': WHATEVER THE INPUT: true; the input reads as it did. -/
def stackDeepsSpec : ChangeSpec := { name := "stackDeeps", fn := fun _ => fun
  | [d] => { results := [.lit (.bool true)], args := [d] }
  | _ => none }
def stackDeepsRow : OpenClaim := { program := "ytpnganfbonlphaa", sum := "504c6e465b9fd4e632aab3f7552fa9642ae9f594fc1c894d57c8c27846a12689", func := "codemason/codemasonlaw.StackDeeps", spec := "stackDeeps", plainKeys := false, apart := false }
def StackDeepsSaid : Prop := stackDeepsRow.holds Try.pinned (OpenSpec.ofChange stackDeepsSpec)

/-- ITS FALSE NEIGHBOUR: 'it returns false'. Refute it at one input. -/
def stackDeepsWrong : ChangeSpec := { name := "stackDeeps", fn := fun _ => fun
  | [d] => { results := [.lit (.bool false)], args := [d] }
  | _ => none }
def StackDeepsWrongFalsely : Prop := stackDeepsRow.holds Try.pinned (OpenSpec.ofChange stackDeepsWrong)

/-- 'codemasonlaw.StackBacks': WHATEVER THE INPUT: true; the input reads as it did. -/
def stackBacksSpec : ChangeSpec := { name := "stackBacks", fn := fun _ => fun
  | [d1, d2] => { results := [.lit (.bool true)], args := [d1, d2] }
  | _ => none }
def stackBacksRow : OpenClaim := { program := "ytpnganfbonlphaa", sum := "504c6e465b9fd4e632aab3f7552fa9642ae9f594fc1c894d57c8c27846a12689", func := "codemason/codemasonlaw.StackBacks", spec := "stackBacks", plainKeys := false, apart := false }
def StackBacksSaid : Prop := stackBacksRow.holds Try.pinned (OpenSpec.ofChange stackBacksSpec)

/-- ITS FALSE NEIGHBOUR: 'it returns false'. Refute it at one input. -/
def stackBacksWrong : ChangeSpec := { name := "stackBacks", fn := fun _ => fun
  | [d1, d2] => { results := [.lit (.bool false)], args := [d1, d2] }
  | _ => none }
def StackBacksWrongFalsely : Prop := stackBacksRow.holds Try.pinned (OpenSpec.ofChange stackBacksWrong)

/-- 'codemasonlaw.ValueSames': WHATEVER THE INPUT: true; the input reads as it did. -/
def valueSamesSpec : ChangeSpec := { name := "valueSames", fn := fun _ => fun
  | [d1, d2, d3, d4] => { results := [.lit (.bool true)], args := [d1, d2, d3, d4] }
  | _ => none }
def valueSamesRow : OpenClaim := { program := "ytpnganfbonlphaa", sum := "504c6e465b9fd4e632aab3f7552fa9642ae9f594fc1c894d57c8c27846a12689", func := "codemason/codemasonlaw.ValueSames", spec := "valueSames", plainKeys := false, apart := false }
def ValueSamesSaid : Prop := valueSamesRow.holds Try.pinned (OpenSpec.ofChange valueSamesSpec)

/-- ITS FALSE NEIGHBOUR: 'it returns false'. Refute it at one input. -/
def valueSamesWrong : ChangeSpec := { name := "valueSames", fn := fun _ => fun
  | [d1, d2, d3, d4] => { results := [.lit (.bool false)], args := [d1, d2, d3, d4] }
  | _ => none }
def ValueSamesWrongFalsely : Prop := valueSamesRow.holds Try.pinned (OpenSpec.ofChange valueSamesWrong)

/-- 'codemasonlaw.ValueLeasts': WHATEVER THE INPUT: true; the input reads as it did. -/
def valueLeastsSpec : ChangeSpec := { name := "valueLeasts", fn := fun _ => fun
  | [d1, d2] => { results := [.lit (.bool true)], args := [d1, d2] }
  | _ => none }
def valueLeastsRow : OpenClaim := { program := "ytpnganfbonlphaa", sum := "504c6e465b9fd4e632aab3f7552fa9642ae9f594fc1c894d57c8c27846a12689", func := "codemason/codemasonlaw.ValueLeasts", spec := "valueLeasts", unfollowed := true, recurses := true, plainKeys := false, apart := false }
def ValueLeastsSaid : Prop := valueLeastsRow.holds Try.pinned (OpenSpec.ofChange valueLeastsSpec)

/-- ITS FALSE NEIGHBOUR: 'it returns false'. Refute it at one input. -/
def valueLeastsWrong : ChangeSpec := { name := "valueLeasts", fn := fun _ => fun
  | [d1, d2] => { results := [.lit (.bool false)], args := [d1, d2] }
  | _ => none }
def ValueLeastsWrongFalsely : Prop := valueLeastsRow.holds Try.pinned (OpenSpec.ofChange valueLeastsWrong)

/-- 'codemasonlaw.WeakAheads': WHATEVER THE INPUT: true; the input reads as it did. -/
def weakAheadsSpec : ChangeSpec := { name := "weakAheads", fn := fun _ => fun
  | [d1, d2, d3, d4] => { results := [.lit (.bool true)], args := [d1, d2, d3, d4] }
  | _ => none }
def weakAheadsRow : OpenClaim := { program := "ytpnganfbonlphaa", sum := "504c6e465b9fd4e632aab3f7552fa9642ae9f594fc1c894d57c8c27846a12689", func := "codemason/codemasonlaw.WeakAheads", spec := "weakAheads", unfollowed := true, recurses := true, plainKeys := false, apart := false }
def WeakAheadsSaid : Prop := weakAheadsRow.holds Try.pinned (OpenSpec.ofChange weakAheadsSpec)

/-- ITS FALSE NEIGHBOUR: 'it returns false'. Refute it at one input. -/
def weakAheadsWrong : ChangeSpec := { name := "weakAheads", fn := fun _ => fun
  | [d1, d2, d3, d4] => { results := [.lit (.bool false)], args := [d1, d2, d3, d4] }
  | _ => none }
def WeakAheadsWrongFalsely : Prop := weakAheadsRow.holds Try.pinned (OpenSpec.ofChange weakAheadsWrong)

/-- 'codemasonlaw.WeakHolds': WHATEVER THE INPUT: true; the input reads as it did. -/
def weakHoldsSpec : ChangeSpec := { name := "weakHolds", fn := fun _ => fun
  | [d1, d2, d3, d4, d5] => { results := [.lit (.bool true)], args := [d1, d2, d3, d4, d5] }
  | _ => none }
def weakHoldsRow : OpenClaim := { program := "ytpnganfbonlphaa", sum := "504c6e465b9fd4e632aab3f7552fa9642ae9f594fc1c894d57c8c27846a12689", func := "codemason/codemasonlaw.WeakHolds", spec := "weakHolds", unfollowed := true, recurses := true, plainKeys := false, apart := false }
def WeakHoldsSaid : Prop := weakHoldsRow.holds Try.pinned (OpenSpec.ofChange weakHoldsSpec)

/-- ITS FALSE NEIGHBOUR: 'it returns false'. Refute it at one input. -/
def weakHoldsWrong : ChangeSpec := { name := "weakHolds", fn := fun _ => fun
  | [d1, d2, d3, d4, d5] => { results := [.lit (.bool false)], args := [d1, d2, d3, d4, d5] }
  | _ => none }
def WeakHoldsWrongFalsely : Prop := weakHoldsRow.holds Try.pinned (OpenSpec.ofChange weakHoldsWrong)

/-- 'codemasonlaw.TileCosts': WHATEVER THE INPUT: true; the input reads as it did. -/
def tileCostsSpec : ChangeSpec := { name := "tileCosts", fn := fun _ => fun
  | [d1, d2, d3] => { results := [.lit (.bool true)], args := [d1, d2, d3] }
  | _ => none }
def tileCostsRow : OpenClaim := { program := "ytpnganfbonlphaa", sum := "504c6e465b9fd4e632aab3f7552fa9642ae9f594fc1c894d57c8c27846a12689", func := "codemason/codemasonlaw.TileCosts", spec := "tileCosts", recurses := true, plainKeys := false, apart := false }
def TileCostsSaid : Prop := tileCostsRow.holds Try.pinned (OpenSpec.ofChange tileCostsSpec)

/-- ITS FALSE NEIGHBOUR: 'it returns false'. Refute it at one input. -/
def tileCostsWrong : ChangeSpec := { name := "tileCosts", fn := fun _ => fun
  | [d1, d2, d3] => { results := [.lit (.bool false)], args := [d1, d2, d3] }
  | _ => none }
def TileCostsWrongFalsely : Prop := tileCostsRow.holds Try.pinned (OpenSpec.ofChange tileCostsWrong)

/-- 'codemasonlaw.TileCovers': WHATEVER THE INPUT: true; the input reads as it did. -/
def tileCoversSpec : ChangeSpec := { name := "tileCovers", fn := fun _ => fun
  | [d1, d2, d3] => { results := [.lit (.bool true)], args := [d1, d2, d3] }
  | _ => none }
def tileCoversRow : OpenClaim := { program := "ytpnganfbonlphaa", sum := "504c6e465b9fd4e632aab3f7552fa9642ae9f594fc1c894d57c8c27846a12689", func := "codemason/codemasonlaw.TileCovers", spec := "tileCovers", recurses := true, plainKeys := false, apart := false }
def TileCoversSaid : Prop := tileCoversRow.holds Try.pinned (OpenSpec.ofChange tileCoversSpec)

/-- ITS FALSE NEIGHBOUR: 'it returns false'. Refute it at one input. -/
def tileCoversWrong : ChangeSpec := { name := "tileCovers", fn := fun _ => fun
  | [d1, d2, d3] => { results := [.lit (.bool false)], args := [d1, d2, d3] }
  | _ => none }
def TileCoversWrongFalsely : Prop := tileCoversRow.holds Try.pinned (OpenSpec.ofChange tileCoversWrong)

/- THE SECOND FORM. 'bulk': how many values and letters a reading holds, each counted each time it is reached (what is shared counts as often as it is met; a slice's spare places count too). A statement '..UptoSaid' is the law's where the arguments, and the package variables that the reading takes, are together of bulk at most 1048576: NARROWER than '..Said'. Prove '..Said' where nothing that the law and all that it calls make is longer than what came in: it says more and counts as full. Else prove '..UptoSaid'. A law counts once. -/
mutual
def uptoBulk {H : Type} : DataW H → Nat
  | .lit (.string bytes) => bytes.length + 1
  | .lit _ => 1
  | .nil => 1
  | .ptr d => uptoBulk d + 1
  | .slice elems spare => uptoBulkAll elems + uptoBulkAll spare + 1
  | .agg parts => uptoBulkAll parts + 1
  | .iface _ d => uptoBulk d + 1
  | .map entries => uptoBulkEntries entries + 1
  | .held _ => 1
def uptoBulkAll {H : Type} : List (DataW H) → Nat
  | [] => 0
  | d :: r => uptoBulk d + uptoBulkAll r
def uptoBulkEntries {H : Type} : List (Lit × DataW H) → Nat
  | [] => 0
  | x :: r => uptoBulkEntry x + uptoBulkEntries r
def uptoBulkEntry {H : Type} : Lit × DataW H → Nat
  | (.string bytes, d) => bytes.length + uptoBulk d + 1
  | (_, d) => uptoBulk d + 1
 end
def uptoSmall : (H : Type) → List (DataW H) → Bool := fun _ ds => decide (uptoBulkAll ds ≤ 1048576)
def OpenSpec.upto (s : _root_.Go.ChangeSpec) : _root_.Go.OpenSpec := { _root_.Go.OpenSpec.ofChange s with cond := some uptoSmall }

/-- 'codemasonlaw.TermChecks', WHERE WHAT IT READS IS OF BULK AT MOST 1048576: true; the input reads as it did. -/
def termChecksUptoRow : OpenClaim := { program := "ytpnganfbonlphaa", sum := "504c6e465b9fd4e632aab3f7552fa9642ae9f594fc1c894d57c8c27846a12689", func := "codemason/codemasonlaw.TermChecks", spec := "termChecks", plainKeys := false, apart := false, narrowed := true }
def TermChecksUptoSaid : Prop := termChecksUptoRow.holds Try.pinned (OpenSpec.upto termChecksSpec)

/-- 'codemasonlaw.TermUses', WHERE WHAT IT READS IS OF BULK AT MOST 1048576: true; the input reads as it did. -/
def termUsesUptoRow : OpenClaim := { program := "ytpnganfbonlphaa", sum := "504c6e465b9fd4e632aab3f7552fa9642ae9f594fc1c894d57c8c27846a12689", func := "codemason/codemasonlaw.TermUses", spec := "termUses", unfollowed := true, recurses := true, plainKeys := false, apart := false, narrowed := true }
def TermUsesUptoSaid : Prop := termUsesUptoRow.holds Try.pinned (OpenSpec.upto termUsesSpec)

/-- 'codemasonlaw.TermValues', WHERE WHAT IT READS IS OF BULK AT MOST 1048576: true; the input reads as it did. -/
def termValuesUptoRow : OpenClaim := { program := "ytpnganfbonlphaa", sum := "504c6e465b9fd4e632aab3f7552fa9642ae9f594fc1c894d57c8c27846a12689", func := "codemason/codemasonlaw.TermValues", spec := "termValues", unfollowed := true, recurses := true, plainKeys := false, apart := false, narrowed := true }
def TermValuesUptoSaid : Prop := termValuesUptoRow.holds Try.pinned (OpenSpec.upto termValuesSpec)

/-- 'codemasonlaw.TermFolds', WHERE WHAT IT READS IS OF BULK AT MOST 1048576: true; the input reads as it did. -/
def termFoldsUptoRow : OpenClaim := { program := "ytpnganfbonlphaa", sum := "504c6e465b9fd4e632aab3f7552fa9642ae9f594fc1c894d57c8c27846a12689", func := "codemason/codemasonlaw.TermFolds", spec := "termFolds", unfollowed := true, recurses := true, plainKeys := false, apart := false, narrowed := true }
def TermFoldsUptoSaid : Prop := termFoldsUptoRow.holds Try.pinned (OpenSpec.upto termFoldsSpec)

/-- 'codemasonlaw.NeedTells', WHERE WHAT IT READS IS OF BULK AT MOST 1048576: true; the input reads as it did. -/
def needTellsUptoRow : OpenClaim := { program := "ytpnganfbonlphaa", sum := "504c6e465b9fd4e632aab3f7552fa9642ae9f594fc1c894d57c8c27846a12689", func := "codemason/codemasonlaw.NeedTells", spec := "needTells", recurses := true, plainKeys := false, apart := false, narrowed := true }
def NeedTellsUptoSaid : Prop := needTellsUptoRow.holds Try.pinned (OpenSpec.upto needTellsSpec)

/-- 'codemasonlaw.NeedRuns', WHERE WHAT IT READS IS OF BULK AT MOST 1048576: true; the input reads as it did. -/
def needRunsUptoRow : OpenClaim := { program := "ytpnganfbonlphaa", sum := "504c6e465b9fd4e632aab3f7552fa9642ae9f594fc1c894d57c8c27846a12689", func := "codemason/codemasonlaw.NeedRuns", spec := "needRuns", unfollowed := true, recurses := true, plainKeys := false, apart := false, narrowed := true }
def NeedRunsUptoSaid : Prop := needRunsUptoRow.holds Try.pinned (OpenSpec.upto needRunsSpec)

/-- 'codemasonlaw.NeedCodes', WHERE WHAT IT READS IS OF BULK AT MOST 1048576: true; the input reads as it did. -/
def needCodesUptoRow : OpenClaim := { program := "ytpnganfbonlphaa", sum := "504c6e465b9fd4e632aab3f7552fa9642ae9f594fc1c894d57c8c27846a12689", func := "codemason/codemasonlaw.NeedCodes", spec := "needCodes", recurses := true, plainKeys := false, apart := false, narrowed := true }
def NeedCodesUptoSaid : Prop := needCodesUptoRow.holds Try.pinned (OpenSpec.upto needCodesSpec)

/-- 'codemasonlaw.StackCodes', WHERE WHAT IT READS IS OF BULK AT MOST 1048576: true; the input reads as it did. -/
def stackCodesUptoRow : OpenClaim := { program := "ytpnganfbonlphaa", sum := "504c6e465b9fd4e632aab3f7552fa9642ae9f594fc1c894d57c8c27846a12689", func := "codemason/codemasonlaw.StackCodes", spec := "stackCodes", unfollowed := true, recurses := true, plainKeys := false, apart := false, narrowed := true }
def StackCodesUptoSaid : Prop := stackCodesUptoRow.holds Try.pinned (OpenSpec.upto stackCodesSpec)

/-- 'codemasonlaw.StackRuns', WHERE WHAT IT READS IS OF BULK AT MOST 1048576: true; the input reads as it did. -/
def stackRunsUptoRow : OpenClaim := { program := "ytpnganfbonlphaa", sum := "504c6e465b9fd4e632aab3f7552fa9642ae9f594fc1c894d57c8c27846a12689", func := "codemason/codemasonlaw.StackRuns", spec := "stackRuns", unfollowed := true, recurses := true, plainKeys := false, apart := false, narrowed := true }
def StackRunsUptoSaid : Prop := stackRunsUptoRow.holds Try.pinned (OpenSpec.upto stackRunsSpec)

/-- 'codemasonlaw.StackDeeps', WHERE WHAT IT READS IS OF BULK AT MOST 1048576: true; the input reads as it did. -/
def stackDeepsUptoRow : OpenClaim := { program := "ytpnganfbonlphaa", sum := "504c6e465b9fd4e632aab3f7552fa9642ae9f594fc1c894d57c8c27846a12689", func := "codemason/codemasonlaw.StackDeeps", spec := "stackDeeps", plainKeys := false, apart := false, narrowed := true }
def StackDeepsUptoSaid : Prop := stackDeepsUptoRow.holds Try.pinned (OpenSpec.upto stackDeepsSpec)

/-- 'codemasonlaw.StackBacks', WHERE WHAT IT READS IS OF BULK AT MOST 1048576: true; the input reads as it did. -/
def stackBacksUptoRow : OpenClaim := { program := "ytpnganfbonlphaa", sum := "504c6e465b9fd4e632aab3f7552fa9642ae9f594fc1c894d57c8c27846a12689", func := "codemason/codemasonlaw.StackBacks", spec := "stackBacks", plainKeys := false, apart := false, narrowed := true }
def StackBacksUptoSaid : Prop := stackBacksUptoRow.holds Try.pinned (OpenSpec.upto stackBacksSpec)

/-- 'codemasonlaw.ValueSames', WHERE WHAT IT READS IS OF BULK AT MOST 1048576: true; the input reads as it did. -/
def valueSamesUptoRow : OpenClaim := { program := "ytpnganfbonlphaa", sum := "504c6e465b9fd4e632aab3f7552fa9642ae9f594fc1c894d57c8c27846a12689", func := "codemason/codemasonlaw.ValueSames", spec := "valueSames", plainKeys := false, apart := false, narrowed := true }
def ValueSamesUptoSaid : Prop := valueSamesUptoRow.holds Try.pinned (OpenSpec.upto valueSamesSpec)

/-- 'codemasonlaw.ValueLeasts', WHERE WHAT IT READS IS OF BULK AT MOST 1048576: true; the input reads as it did. -/
def valueLeastsUptoRow : OpenClaim := { program := "ytpnganfbonlphaa", sum := "504c6e465b9fd4e632aab3f7552fa9642ae9f594fc1c894d57c8c27846a12689", func := "codemason/codemasonlaw.ValueLeasts", spec := "valueLeasts", unfollowed := true, recurses := true, plainKeys := false, apart := false, narrowed := true }
def ValueLeastsUptoSaid : Prop := valueLeastsUptoRow.holds Try.pinned (OpenSpec.upto valueLeastsSpec)

/-- 'codemasonlaw.WeakAheads', WHERE WHAT IT READS IS OF BULK AT MOST 1048576: true; the input reads as it did. -/
def weakAheadsUptoRow : OpenClaim := { program := "ytpnganfbonlphaa", sum := "504c6e465b9fd4e632aab3f7552fa9642ae9f594fc1c894d57c8c27846a12689", func := "codemason/codemasonlaw.WeakAheads", spec := "weakAheads", unfollowed := true, recurses := true, plainKeys := false, apart := false, narrowed := true }
def WeakAheadsUptoSaid : Prop := weakAheadsUptoRow.holds Try.pinned (OpenSpec.upto weakAheadsSpec)

/-- 'codemasonlaw.WeakHolds', WHERE WHAT IT READS IS OF BULK AT MOST 1048576: true; the input reads as it did. -/
def weakHoldsUptoRow : OpenClaim := { program := "ytpnganfbonlphaa", sum := "504c6e465b9fd4e632aab3f7552fa9642ae9f594fc1c894d57c8c27846a12689", func := "codemason/codemasonlaw.WeakHolds", spec := "weakHolds", unfollowed := true, recurses := true, plainKeys := false, apart := false, narrowed := true }
def WeakHoldsUptoSaid : Prop := weakHoldsUptoRow.holds Try.pinned (OpenSpec.upto weakHoldsSpec)

/-- 'codemasonlaw.TileCosts', WHERE WHAT IT READS IS OF BULK AT MOST 1048576: true; the input reads as it did. -/
def tileCostsUptoRow : OpenClaim := { program := "ytpnganfbonlphaa", sum := "504c6e465b9fd4e632aab3f7552fa9642ae9f594fc1c894d57c8c27846a12689", func := "codemason/codemasonlaw.TileCosts", spec := "tileCosts", recurses := true, plainKeys := false, apart := false, narrowed := true }
def TileCostsUptoSaid : Prop := tileCostsUptoRow.holds Try.pinned (OpenSpec.upto tileCostsSpec)

/-- 'codemasonlaw.TileCovers', WHERE WHAT IT READS IS OF BULK AT MOST 1048576: true; the input reads as it did. -/
def tileCoversUptoRow : OpenClaim := { program := "ytpnganfbonlphaa", sum := "504c6e465b9fd4e632aab3f7552fa9642ae9f594fc1c894d57c8c27846a12689", func := "codemason/codemasonlaw.TileCovers", spec := "tileCovers", recurses := true, plainKeys := false, apart := false, narrowed := true }
def TileCoversUptoSaid : Prop := tileCoversUptoRow.holds Try.pinned (OpenSpec.upto tileCoversSpec)

end Rows
end Go.Proofs.Ytpnganfbonlphaa
