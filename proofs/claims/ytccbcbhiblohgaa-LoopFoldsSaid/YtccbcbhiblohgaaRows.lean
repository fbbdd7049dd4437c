/-
  No cell of these rows narrows 'for every input' (looked for: loops, veiled, ifaces, maps, wideKeys, modest, calm, conditions, laid).
  DERIVED. THE GIVEN ROWS OF THIS SEAT. 17 by the template 'for every input the law returns true; each argument reads behind the call as it read before'; 0 by the template 'total and deterministic' (their statements: YtccbcbhiblohgaaTotals.lean).
  GIVEN WITH THE SEED: the statements are not yours to turn. If you find one false, say at which input.
  Laid BY PROGRAM, IN A SANDBOX (cutbox-rows.mjs): the forced cells as the released guide's own fill.sh prints them over the translation 415690686b22d181… (all of the seat's roots in one cut). By AI agents, Wed Nov 11 2026. No macro, syntax, notation, axiom, sorry.
-/
import Derived.Test.YtccbcbhiblohgaaChecked
import GoSem.Claim
import GoSem.ClaimJoined
import GoSem.ClaimMapViews
import Derived.JoinedTies
import Derived.KernelRfl
namespace Go.Proofs.Ytccbcbhiblohgaa
/- THE CELL 'sum', in the pinned program and in every row, IS THE sha256 OF THE DUMP (.gsa) THAT YtccbcbhiblohgaaProg.lean LOADS. Nothing in Lean hashes anything: it is a label: what it is worth is what the hold of that sum in a sandbox is worth. -/
noncomputable def Try.pinned : Pinned := { name := "ytccbcbhiblohgaa", sum := "415690686b22d18106342dd79dc6b05d91c36c8b3a46905726e7f238d0d9cdc0", checked := Try.checked }
namespace Rows
def none {H : Type} : Left H := { results := [], args := [] }

/-- 'codemasonlaw.WayChecks': WHATEVER THE INPUT: true; the input reads as it did. -/
def wayChecksSpec : ChangeSpec := { name := "wayChecks", fn := fun _ => fun
  | [d] => { results := [.lit (.bool true)], args := [d] }
  | _ => none }
def wayChecksRow : OpenClaim := { program := "ytccbcbhiblohgaa", sum := "415690686b22d18106342dd79dc6b05d91c36c8b3a46905726e7f238d0d9cdc0", func := "codemason/codemasonlaw.WayChecks", spec := "wayChecks", unfollowed := true, recurses := true, plainKeys := false, apart := false }
def WayChecksSaid : Prop := wayChecksRow.holds Try.pinned (OpenSpec.ofChange wayChecksSpec)

/-- ITS FALSE NEIGHBOUR: 'it returns false'. Refute it at one input. -/
def wayChecksWrong : ChangeSpec := { name := "wayChecks", fn := fun _ => fun
  | [d] => { results := [.lit (.bool false)], args := [d] }
  | _ => none }
def WayChecksWrongFalsely : Prop := wayChecksRow.holds Try.pinned (OpenSpec.ofChange wayChecksWrong)

/-- 'codemasonlaw.WayReaches': WHATEVER THE INPUT: true; the input reads as it did. -/
def wayReachesSpec : ChangeSpec := { name := "wayReaches", fn := fun _ => fun
  | [d] => { results := [.lit (.bool true)], args := [d] }
  | _ => none }
def wayReachesRow : OpenClaim := { program := "ytccbcbhiblohgaa", sum := "415690686b22d18106342dd79dc6b05d91c36c8b3a46905726e7f238d0d9cdc0", func := "codemason/codemasonlaw.WayReaches", spec := "wayReaches", unfollowed := true, recurses := true, plainKeys := false, apart := false }
def WayReachesSaid : Prop := wayReachesRow.holds Try.pinned (OpenSpec.ofChange wayReachesSpec)

/-- ITS FALSE NEIGHBOUR: 'it returns false'. Refute it at one input. -/
def wayReachesWrong : ChangeSpec := { name := "wayReaches", fn := fun _ => fun
  | [d] => { results := [.lit (.bool false)], args := [d] }
  | _ => none }
def WayReachesWrongFalsely : Prop := wayReachesRow.holds Try.pinned (OpenSpec.ofChange wayReachesWrong)

/-- 'codemasonlaw.WayOrders': WHATEVER THE INPUT: true; the input reads as it did. -/
def wayOrdersSpec : ChangeSpec := { name := "wayOrders", fn := fun _ => fun
  | [d] => { results := [.lit (.bool true)], args := [d] }
  | _ => none }
def wayOrdersRow : OpenClaim := { program := "ytccbcbhiblohgaa", sum := "415690686b22d18106342dd79dc6b05d91c36c8b3a46905726e7f238d0d9cdc0", func := "codemason/codemasonlaw.WayOrders", spec := "wayOrders", unfollowed := true, recurses := true, plainKeys := false, apart := false }
def WayOrdersSaid : Prop := wayOrdersRow.holds Try.pinned (OpenSpec.ofChange wayOrdersSpec)

/-- ITS FALSE NEIGHBOUR: 'it returns false'. Refute it at one input. -/
def wayOrdersWrong : ChangeSpec := { name := "wayOrders", fn := fun _ => fun
  | [d] => { results := [.lit (.bool false)], args := [d] }
  | _ => none }
def WayOrdersWrongFalsely : Prop := wayOrdersRow.holds Try.pinned (OpenSpec.ofChange wayOrdersWrong)

/-- 'codemasonlaw.WayParts': WHATEVER THE INPUT: true; the input reads as it did. -/
def wayPartsSpec : ChangeSpec := { name := "wayParts", fn := fun _ => fun
  | [d] => { results := [.lit (.bool true)], args := [d] }
  | _ => none }
def wayPartsRow : OpenClaim := { program := "ytccbcbhiblohgaa", sum := "415690686b22d18106342dd79dc6b05d91c36c8b3a46905726e7f238d0d9cdc0", func := "codemason/codemasonlaw.WayParts", spec := "wayParts", unfollowed := true, recurses := true, plainKeys := false, apart := false }
def WayPartsSaid : Prop := wayPartsRow.holds Try.pinned (OpenSpec.ofChange wayPartsSpec)

/-- ITS FALSE NEIGHBOUR: 'it returns false'. Refute it at one input. -/
def wayPartsWrong : ChangeSpec := { name := "wayParts", fn := fun _ => fun
  | [d] => { results := [.lit (.bool false)], args := [d] }
  | _ => none }
def WayPartsWrongFalsely : Prop := wayPartsRow.holds Try.pinned (OpenSpec.ofChange wayPartsWrong)

/-- 'codemasonlaw.WayBacks': WHATEVER THE INPUT: true; the input reads as it did. -/
def wayBacksSpec : ChangeSpec := { name := "wayBacks", fn := fun _ => fun
  | [d] => { results := [.lit (.bool true)], args := [d] }
  | _ => none }
def wayBacksRow : OpenClaim := { program := "ytccbcbhiblohgaa", sum := "415690686b22d18106342dd79dc6b05d91c36c8b3a46905726e7f238d0d9cdc0", func := "codemason/codemasonlaw.WayBacks", spec := "wayBacks", unfollowed := true, recurses := true, plainKeys := false, apart := false }
def WayBacksSaid : Prop := wayBacksRow.holds Try.pinned (OpenSpec.ofChange wayBacksSpec)

/-- ITS FALSE NEIGHBOUR: 'it returns false'. Refute it at one input. -/
def wayBacksWrong : ChangeSpec := { name := "wayBacks", fn := fun _ => fun
  | [d] => { results := [.lit (.bool false)], args := [d] }
  | _ => none }
def WayBacksWrongFalsely : Prop := wayBacksRow.holds Try.pinned (OpenSpec.ofChange wayBacksWrong)

/-- 'codemasonlaw.RuleTables': WHATEVER THE INPUT: true; the input reads as it did. -/
def ruleTablesSpec : ChangeSpec := { name := "ruleTables", fn := fun _ => fun
  | [d] => { results := [.lit (.bool true)], args := [d] }
  | _ => none }
def ruleTablesRow : OpenClaim := { program := "ytccbcbhiblohgaa", sum := "415690686b22d18106342dd79dc6b05d91c36c8b3a46905726e7f238d0d9cdc0", func := "codemason/codemasonlaw.RuleTables", spec := "ruleTables", unfollowed := true, recurses := true, plainKeys := false, apart := false }
def RuleTablesSaid : Prop := ruleTablesRow.holds Try.pinned (OpenSpec.ofChange ruleTablesSpec)

/-- ITS FALSE NEIGHBOUR: 'it returns false'. Refute it at one input. -/
def ruleTablesWrong : ChangeSpec := { name := "ruleTables", fn := fun _ => fun
  | [d] => { results := [.lit (.bool false)], args := [d] }
  | _ => none }
def RuleTablesWrongFalsely : Prop := ruleTablesRow.holds Try.pinned (OpenSpec.ofChange ruleTablesWrong)

/-- 'codemasonlaw.RuleTrees': WHATEVER THE INPUT: true; the input reads as it did. -/
def ruleTreesSpec : ChangeSpec := { name := "ruleTrees", fn := fun _ => fun
  | [d] => { results := [.lit (.bool true)], args := [d] }
  | _ => none }
def ruleTreesRow : OpenClaim := { program := "ytccbcbhiblohgaa", sum := "415690686b22d18106342dd79dc6b05d91c36c8b3a46905726e7f238d0d9cdc0", func := "codemason/codemasonlaw.RuleTrees", spec := "ruleTrees", unfollowed := true, recurses := true, plainKeys := false, apart := false }
def RuleTreesSaid : Prop := ruleTreesRow.holds Try.pinned (OpenSpec.ofChange ruleTreesSpec)

/-- ITS FALSE NEIGHBOUR: 'it returns false'. Refute it at one input. -/
def ruleTreesWrong : ChangeSpec := { name := "ruleTrees", fn := fun _ => fun
  | [d] => { results := [.lit (.bool false)], args := [d] }
  | _ => none }
def RuleTreesWrongFalsely : Prop := ruleTreesRow.holds Try.pinned (OpenSpec.ofChange ruleTreesWrong)

/-- 'codemasonlaw.RuleEdges': WHATEVER THE INPUT: true; the input reads as it did. -/
def ruleEdgesSpec : ChangeSpec := { name := "ruleEdges", fn := fun _ => fun
  | [d] => { results := [.lit (.bool true)], args := [d] }
  | _ => none }
def ruleEdgesRow : OpenClaim := { program := "ytccbcbhiblohgaa", sum := "415690686b22d18106342dd79dc6b05d91c36c8b3a46905726e7f238d0d9cdc0", func := "codemason/codemasonlaw.RuleEdges", spec := "ruleEdges", unfollowed := true, recurses := true, plainKeys := false, apart := false }
def RuleEdgesSaid : Prop := ruleEdgesRow.holds Try.pinned (OpenSpec.ofChange ruleEdgesSpec)

/-- ITS FALSE NEIGHBOUR: 'it returns false'. Refute it at one input. -/
def ruleEdgesWrong : ChangeSpec := { name := "ruleEdges", fn := fun _ => fun
  | [d] => { results := [.lit (.bool false)], args := [d] }
  | _ => none }
def RuleEdgesWrongFalsely : Prop := ruleEdgesRow.holds Try.pinned (OpenSpec.ofChange ruleEdgesWrong)

/-- 'codemasonlaw.RuleMeets': WHATEVER THE INPUT: true; the input reads as it did. -/
def ruleMeetsSpec : ChangeSpec := { name := "ruleMeets", fn := fun _ => fun
  | [d1, d2] => { results := [.lit (.bool true)], args := [d1, d2] }
  | _ => none }
def ruleMeetsRow : OpenClaim := { program := "ytccbcbhiblohgaa", sum := "415690686b22d18106342dd79dc6b05d91c36c8b3a46905726e7f238d0d9cdc0", func := "codemason/codemasonlaw.RuleMeets", spec := "ruleMeets", unfollowed := true, recurses := true, plainKeys := false, apart := false }
def RuleMeetsSaid : Prop := ruleMeetsRow.holds Try.pinned (OpenSpec.ofChange ruleMeetsSpec)

/-- ITS FALSE NEIGHBOUR: 'it returns false'. Refute it at one input. -/
def ruleMeetsWrong : ChangeSpec := { name := "ruleMeets", fn := fun _ => fun
  | [d1, d2] => { results := [.lit (.bool false)], args := [d1, d2] }
  | _ => none }
def RuleMeetsWrongFalsely : Prop := ruleMeetsRow.holds Try.pinned (OpenSpec.ofChange ruleMeetsWrong)

/-- 'codemasonlaw.LoopTells': WHATEVER THE INPUT: true; the input reads as it did. -/
def loopTellsSpec : ChangeSpec := { name := "loopTells", fn := fun _ => fun
  | [d] => { results := [.lit (.bool true)], args := [d] }
  | _ => none }
def loopTellsRow : OpenClaim := { program := "ytccbcbhiblohgaa", sum := "415690686b22d18106342dd79dc6b05d91c36c8b3a46905726e7f238d0d9cdc0", func := "codemason/codemasonlaw.LoopTells", spec := "loopTells", unfollowed := true, recurses := true, plainKeys := false, apart := false }
def LoopTellsSaid : Prop := loopTellsRow.holds Try.pinned (OpenSpec.ofChange loopTellsSpec)

/-- ITS FALSE NEIGHBOUR: 'it returns false'. Refute it at one input. -/
def loopTellsWrong : ChangeSpec := { name := "loopTells", fn := fun _ => fun
  | [d] => { results := [.lit (.bool false)], args := [d] }
  | _ => none }
def LoopTellsWrongFalsely : Prop := loopTellsRow.holds Try.pinned (OpenSpec.ofChange loopTellsWrong)

/-- 'codemasonlaw.LoopDeeps': WHATEVER THE INPUT: true; the input reads as it did. -/
def loopDeepsSpec : ChangeSpec := { name := "loopDeeps", fn := fun _ => fun
  | [d] => { results := [.lit (.bool true)], args := [d] }
  | _ => none }
def loopDeepsRow : OpenClaim := { program := "ytccbcbhiblohgaa", sum := "415690686b22d18106342dd79dc6b05d91c36c8b3a46905726e7f238d0d9cdc0", func := "codemason/codemasonlaw.LoopDeeps", spec := "loopDeeps", unfollowed := true, recurses := true, plainKeys := false, apart := false }
def LoopDeepsSaid : Prop := loopDeepsRow.holds Try.pinned (OpenSpec.ofChange loopDeepsSpec)

/-- ITS FALSE NEIGHBOUR: 'it returns false'. Refute it at one input. -/
def loopDeepsWrong : ChangeSpec := { name := "loopDeeps", fn := fun _ => fun
  | [d] => { results := [.lit (.bool false)], args := [d] }
  | _ => none }
def LoopDeepsWrongFalsely : Prop := loopDeepsRow.holds Try.pinned (OpenSpec.ofChange loopDeepsWrong)

/-- 'codemasonlaw.LoopTames': WHATEVER THE INPUT: true; the input reads as it did. -/
def loopTamesSpec : ChangeSpec := { name := "loopTames", fn := fun _ => fun
  | [d] => { results := [.lit (.bool true)], args := [d] }
  | _ => none }
def loopTamesRow : OpenClaim := { program := "ytccbcbhiblohgaa", sum := "415690686b22d18106342dd79dc6b05d91c36c8b3a46905726e7f238d0d9cdc0", func := "codemason/codemasonlaw.LoopTames", spec := "loopTames", unfollowed := true, recurses := true, plainKeys := false, apart := false }
def LoopTamesSaid : Prop := loopTamesRow.holds Try.pinned (OpenSpec.ofChange loopTamesSpec)

/-- ITS FALSE NEIGHBOUR: 'it returns false'. Refute it at one input. -/
def loopTamesWrong : ChangeSpec := { name := "loopTames", fn := fun _ => fun
  | [d] => { results := [.lit (.bool false)], args := [d] }
  | _ => none }
def LoopTamesWrongFalsely : Prop := loopTamesRow.holds Try.pinned (OpenSpec.ofChange loopTamesWrong)

/-- 'codemasonlaw.LoopFolds': WHATEVER THE INPUT: true; the input reads as it did. -/
def loopFoldsSpec : ChangeSpec := { name := "loopFolds", fn := fun _ => fun
  | [d] => { results := [.lit (.bool true)], args := [d] }
  | _ => none }
def loopFoldsRow : OpenClaim := { program := "ytccbcbhiblohgaa", sum := "415690686b22d18106342dd79dc6b05d91c36c8b3a46905726e7f238d0d9cdc0", func := "codemason/codemasonlaw.LoopFolds", spec := "loopFolds", unfollowed := true, recurses := true, plainKeys := false, apart := false }
def LoopFoldsSaid : Prop := loopFoldsRow.holds Try.pinned (OpenSpec.ofChange loopFoldsSpec)

/-- ITS FALSE NEIGHBOUR: 'it returns false'. Refute it at one input. -/
def loopFoldsWrong : ChangeSpec := { name := "loopFolds", fn := fun _ => fun
  | [d] => { results := [.lit (.bool false)], args := [d] }
  | _ => none }
def LoopFoldsWrongFalsely : Prop := loopFoldsRow.holds Try.pinned (OpenSpec.ofChange loopFoldsWrong)

/-- 'codemasonlaw.HangLasts': WHATEVER THE INPUT: true; the input reads as it did. -/
def hangLastsSpec : ChangeSpec := { name := "hangLasts", fn := fun _ => fun
  | [d] => { results := [.lit (.bool true)], args := [d] }
  | _ => none }
def hangLastsRow : OpenClaim := { program := "ytccbcbhiblohgaa", sum := "415690686b22d18106342dd79dc6b05d91c36c8b3a46905726e7f238d0d9cdc0", func := "codemason/codemasonlaw.HangLasts", spec := "hangLasts", unfollowed := true, recurses := true, plainKeys := false, apart := false }
def HangLastsSaid : Prop := hangLastsRow.holds Try.pinned (OpenSpec.ofChange hangLastsSpec)

/-- ITS FALSE NEIGHBOUR: 'it returns false'. Refute it at one input. -/
def hangLastsWrong : ChangeSpec := { name := "hangLasts", fn := fun _ => fun
  | [d] => { results := [.lit (.bool false)], args := [d] }
  | _ => none }
def HangLastsWrongFalsely : Prop := hangLastsRow.holds Try.pinned (OpenSpec.ofChange hangLastsWrong)

/-- 'codemasonlaw.HangTells': WHATEVER THE INPUT: true; the input reads as it did. -/
def hangTellsSpec : ChangeSpec := { name := "hangTells", fn := fun _ => fun
  | [d] => { results := [.lit (.bool true)], args := [d] }
  | _ => none }
def hangTellsRow : OpenClaim := { program := "ytccbcbhiblohgaa", sum := "415690686b22d18106342dd79dc6b05d91c36c8b3a46905726e7f238d0d9cdc0", func := "codemason/codemasonlaw.HangTells", spec := "hangTells", unfollowed := true, recurses := true, plainKeys := false, apart := false }
def HangTellsSaid : Prop := hangTellsRow.holds Try.pinned (OpenSpec.ofChange hangTellsSpec)

/-- ITS FALSE NEIGHBOUR: 'it returns false'. Refute it at one input. -/
def hangTellsWrong : ChangeSpec := { name := "hangTells", fn := fun _ => fun
  | [d] => { results := [.lit (.bool false)], args := [d] }
  | _ => none }
def HangTellsWrongFalsely : Prop := hangTellsRow.holds Try.pinned (OpenSpec.ofChange hangTellsWrong)

/-- 'codemasonlaw.FactSolves': WHATEVER THE INPUT: true; the input reads as it did. -/
def factSolvesSpec : ChangeSpec := { name := "factSolves", fn := fun _ => fun
  | [d1, d2] => { results := [.lit (.bool true)], args := [d1, d2] }
  | _ => none }
def factSolvesRow : OpenClaim := { program := "ytccbcbhiblohgaa", sum := "415690686b22d18106342dd79dc6b05d91c36c8b3a46905726e7f238d0d9cdc0", func := "codemason/codemasonlaw.FactSolves", spec := "factSolves", unfollowed := true, recurses := true, plainKeys := false, apart := false }
def FactSolvesSaid : Prop := factSolvesRow.holds Try.pinned (OpenSpec.ofChange factSolvesSpec)

/-- ITS FALSE NEIGHBOUR: 'it returns false'. Refute it at one input. -/
def factSolvesWrong : ChangeSpec := { name := "factSolves", fn := fun _ => fun
  | [d1, d2] => { results := [.lit (.bool false)], args := [d1, d2] }
  | _ => none }
def FactSolvesWrongFalsely : Prop := factSolvesRow.holds Try.pinned (OpenSpec.ofChange factSolvesWrong)

/-- 'codemasonlaw.FactAlongs': WHATEVER THE INPUT: true; the input reads as it did. -/
def factAlongsSpec : ChangeSpec := { name := "factAlongs", fn := fun _ => fun
  | [d1, d2, d3] => { results := [.lit (.bool true)], args := [d1, d2, d3] }
  | _ => none }
def factAlongsRow : OpenClaim := { program := "ytccbcbhiblohgaa", sum := "415690686b22d18106342dd79dc6b05d91c36c8b3a46905726e7f238d0d9cdc0", func := "codemason/codemasonlaw.FactAlongs", spec := "factAlongs", unfollowed := true, recurses := true, plainKeys := false, apart := false }
def FactAlongsSaid : Prop := factAlongsRow.holds Try.pinned (OpenSpec.ofChange factAlongsSpec)

/-- ITS FALSE NEIGHBOUR: 'it returns false'. Refute it at one input. -/
def factAlongsWrong : ChangeSpec := { name := "factAlongs", fn := fun _ => fun
  | [d1, d2, d3] => { results := [.lit (.bool false)], args := [d1, d2, d3] }
  | _ => none }
def FactAlongsWrongFalsely : Prop := factAlongsRow.holds Try.pinned (OpenSpec.ofChange factAlongsWrong)

/- THE SECOND FORM. 'bulk': how many values and letters a reading holds, each counted each time it is reached (what is shared counts as often as it is met; a slice's spare places count too). A statement '..UptoSaid' is the law's where the arguments, and the package variables that the reading takes, are together of bulk at most 1048576: NARROWER than '..Said'. Prove '..Said' where nothing that the law and all that it calls make is longer than what came in: it says more and counts as full. Else prove '..UptoSaid'. A law counts once. -/
mutual
def uptoBulk {H : Type} : DataW H → Nat
  | .lit (.string bytes) => bytes.length + 1
  | .lit _ => 1
  | .nil => 1
  | .ptr d => uptoBulk d + 1
  | .slice elems spare => uptoBulkAll elems + uptoBulkAll spare + 1
  | .agg parts => uptoBulkAll parts + 1
  | .iface _ d => uptoBulk d + 1
  | .map entries => uptoBulkEntries entries + 1
  | .held _ => 1
def uptoBulkAll {H : Type} : List (DataW H) → Nat
  | [] => 0
  | d :: r => uptoBulk d + uptoBulkAll r
def uptoBulkEntries {H : Type} : List (Lit × DataW H) → Nat
  | [] => 0
  | x :: r => uptoBulkEntry x + uptoBulkEntries r
def uptoBulkEntry {H : Type} : Lit × DataW H → Nat
  | (.string bytes, d) => bytes.length + uptoBulk d + 1
  | (_, d) => uptoBulk d + 1
 end
def uptoSmall : (H : Type) → List (DataW H) → Bool := fun _ ds => decide (uptoBulkAll ds ≤ 1048576)
def OpenSpec.upto (s : _root_.Go.ChangeSpec) : _root_.Go.OpenSpec := { _root_.Go.OpenSpec.ofChange s with cond := some uptoSmall }

/-- 'codemasonlaw.WayChecks', WHERE WHAT IT READS IS OF BULK AT MOST 1048576: true; the input reads as it did. -/
def wayChecksUptoRow : OpenClaim := { program := "ytccbcbhiblohgaa", sum := "415690686b22d18106342dd79dc6b05d91c36c8b3a46905726e7f238d0d9cdc0", func := "codemason/codemasonlaw.WayChecks", spec := "wayChecks", unfollowed := true, recurses := true, plainKeys := false, apart := false, narrowed := true }
def WayChecksUptoSaid : Prop := wayChecksUptoRow.holds Try.pinned (OpenSpec.upto wayChecksSpec)

/-- 'codemasonlaw.WayReaches', WHERE WHAT IT READS IS OF BULK AT MOST 1048576: true; the input reads as it did. -/
def wayReachesUptoRow : OpenClaim := { program := "ytccbcbhiblohgaa", sum := "415690686b22d18106342dd79dc6b05d91c36c8b3a46905726e7f238d0d9cdc0", func := "codemason/codemasonlaw.WayReaches", spec := "wayReaches", unfollowed := true, recurses := true, plainKeys := false, apart := false, narrowed := true }
def WayReachesUptoSaid : Prop := wayReachesUptoRow.holds Try.pinned (OpenSpec.upto wayReachesSpec)

/-- 'codemasonlaw.WayOrders', WHERE WHAT IT READS IS OF BULK AT MOST 1048576: true; the input reads as it did. -/
def wayOrdersUptoRow : OpenClaim := { program := "ytccbcbhiblohgaa", sum := "415690686b22d18106342dd79dc6b05d91c36c8b3a46905726e7f238d0d9cdc0", func := "codemason/codemasonlaw.WayOrders", spec := "wayOrders", unfollowed := true, recurses := true, plainKeys := false, apart := false, narrowed := true }
def WayOrdersUptoSaid : Prop := wayOrdersUptoRow.holds Try.pinned (OpenSpec.upto wayOrdersSpec)

/-- 'codemasonlaw.WayParts', WHERE WHAT IT READS IS OF BULK AT MOST 1048576: true; the input reads as it did. -/
def wayPartsUptoRow : OpenClaim := { program := "ytccbcbhiblohgaa", sum := "415690686b22d18106342dd79dc6b05d91c36c8b3a46905726e7f238d0d9cdc0", func := "codemason/codemasonlaw.WayParts", spec := "wayParts", unfollowed := true, recurses := true, plainKeys := false, apart := false, narrowed := true }
def WayPartsUptoSaid : Prop := wayPartsUptoRow.holds Try.pinned (OpenSpec.upto wayPartsSpec)

/-- 'codemasonlaw.WayBacks', WHERE WHAT IT READS IS OF BULK AT MOST 1048576: true; the input reads as it did. -/
def wayBacksUptoRow : OpenClaim := { program := "ytccbcbhiblohgaa", sum := "415690686b22d18106342dd79dc6b05d91c36c8b3a46905726e7f238d0d9cdc0", func := "codemason/codemasonlaw.WayBacks", spec := "wayBacks", unfollowed := true, recurses := true, plainKeys := false, apart := false, narrowed := true }
def WayBacksUptoSaid : Prop := wayBacksUptoRow.holds Try.pinned (OpenSpec.upto wayBacksSpec)

/-- 'codemasonlaw.RuleTables', WHERE WHAT IT READS IS OF BULK AT MOST 1048576: true; the input reads as it did. -/
def ruleTablesUptoRow : OpenClaim := { program := "ytccbcbhiblohgaa", sum := "415690686b22d18106342dd79dc6b05d91c36c8b3a46905726e7f238d0d9cdc0", func := "codemason/codemasonlaw.RuleTables", spec := "ruleTables", unfollowed := true, recurses := true, plainKeys := false, apart := false, narrowed := true }
def RuleTablesUptoSaid : Prop := ruleTablesUptoRow.holds Try.pinned (OpenSpec.upto ruleTablesSpec)

/-- 'codemasonlaw.RuleTrees', WHERE WHAT IT READS IS OF BULK AT MOST 1048576: true; the input reads as it did. -/
def ruleTreesUptoRow : OpenClaim := { program := "ytccbcbhiblohgaa", sum := "415690686b22d18106342dd79dc6b05d91c36c8b3a46905726e7f238d0d9cdc0", func := "codemason/codemasonlaw.RuleTrees", spec := "ruleTrees", unfollowed := true, recurses := true, plainKeys := false, apart := false, narrowed := true }
def RuleTreesUptoSaid : Prop := ruleTreesUptoRow.holds Try.pinned (OpenSpec.upto ruleTreesSpec)

/-- 'codemasonlaw.RuleEdges', WHERE WHAT IT READS IS OF BULK AT MOST 1048576: true; the input reads as it did. -/
def ruleEdgesUptoRow : OpenClaim := { program := "ytccbcbhiblohgaa", sum := "415690686b22d18106342dd79dc6b05d91c36c8b3a46905726e7f238d0d9cdc0", func := "codemason/codemasonlaw.RuleEdges", spec := "ruleEdges", unfollowed := true, recurses := true, plainKeys := false, apart := false, narrowed := true }
def RuleEdgesUptoSaid : Prop := ruleEdgesUptoRow.holds Try.pinned (OpenSpec.upto ruleEdgesSpec)

/-- 'codemasonlaw.RuleMeets', WHERE WHAT IT READS IS OF BULK AT MOST 1048576: true; the input reads as it did. -/
def ruleMeetsUptoRow : OpenClaim := { program := "ytccbcbhiblohgaa", sum := "415690686b22d18106342dd79dc6b05d91c36c8b3a46905726e7f238d0d9cdc0", func := "codemason/codemasonlaw.RuleMeets", spec := "ruleMeets", unfollowed := true, recurses := true, plainKeys := false, apart := false, narrowed := true }
def RuleMeetsUptoSaid : Prop := ruleMeetsUptoRow.holds Try.pinned (OpenSpec.upto ruleMeetsSpec)

/-- 'codemasonlaw.LoopTells', WHERE WHAT IT READS IS OF BULK AT MOST 1048576: true; the input reads as it did. -/
def loopTellsUptoRow : OpenClaim := { program := "ytccbcbhiblohgaa", sum := "415690686b22d18106342dd79dc6b05d91c36c8b3a46905726e7f238d0d9cdc0", func := "codemason/codemasonlaw.LoopTells", spec := "loopTells", unfollowed := true, recurses := true, plainKeys := false, apart := false, narrowed := true }
def LoopTellsUptoSaid : Prop := loopTellsUptoRow.holds Try.pinned (OpenSpec.upto loopTellsSpec)

/-- 'codemasonlaw.LoopDeeps', WHERE WHAT IT READS IS OF BULK AT MOST 1048576: true; the input reads as it did. -/
def loopDeepsUptoRow : OpenClaim := { program := "ytccbcbhiblohgaa", sum := "415690686b22d18106342dd79dc6b05d91c36c8b3a46905726e7f238d0d9cdc0", func := "codemason/codemasonlaw.LoopDeeps", spec := "loopDeeps", unfollowed := true, recurses := true, plainKeys := false, apart := false, narrowed := true }
def LoopDeepsUptoSaid : Prop := loopDeepsUptoRow.holds Try.pinned (OpenSpec.upto loopDeepsSpec)

/-- 'codemasonlaw.LoopTames', WHERE WHAT IT READS IS OF BULK AT MOST 1048576: true; the input reads as it did. -/
def loopTamesUptoRow : OpenClaim := { program := "ytccbcbhiblohgaa", sum := "415690686b22d18106342dd79dc6b05d91c36c8b3a46905726e7f238d0d9cdc0", func := "codemason/codemasonlaw.LoopTames", spec := "loopTames", unfollowed := true, recurses := true, plainKeys := false, apart := false, narrowed := true }
def LoopTamesUptoSaid : Prop := loopTamesUptoRow.holds Try.pinned (OpenSpec.upto loopTamesSpec)

/-- 'codemasonlaw.LoopFolds', WHERE WHAT IT READS IS OF BULK AT MOST 1048576: true; the input reads as it did. -/
def loopFoldsUptoRow : OpenClaim := { program := "ytccbcbhiblohgaa", sum := "415690686b22d18106342dd79dc6b05d91c36c8b3a46905726e7f238d0d9cdc0", func := "codemason/codemasonlaw.LoopFolds", spec := "loopFolds", unfollowed := true, recurses := true, plainKeys := false, apart := false, narrowed := true }
def LoopFoldsUptoSaid : Prop := loopFoldsUptoRow.holds Try.pinned (OpenSpec.upto loopFoldsSpec)

/-- 'codemasonlaw.HangLasts', WHERE WHAT IT READS IS OF BULK AT MOST 1048576: true; the input reads as it did. -/
def hangLastsUptoRow : OpenClaim := { program := "ytccbcbhiblohgaa", sum := "415690686b22d18106342dd79dc6b05d91c36c8b3a46905726e7f238d0d9cdc0", func := "codemason/codemasonlaw.HangLasts", spec := "hangLasts", unfollowed := true, recurses := true, plainKeys := false, apart := false, narrowed := true }
def HangLastsUptoSaid : Prop := hangLastsUptoRow.holds Try.pinned (OpenSpec.upto hangLastsSpec)

/-- 'codemasonlaw.HangTells', WHERE WHAT IT READS IS OF BULK AT MOST 1048576: true; the input reads as it did. -/
def hangTellsUptoRow : OpenClaim := { program := "ytccbcbhiblohgaa", sum := "415690686b22d18106342dd79dc6b05d91c36c8b3a46905726e7f238d0d9cdc0", func := "codemason/codemasonlaw.HangTells", spec := "hangTells", unfollowed := true, recurses := true, plainKeys := false, apart := false, narrowed := true }
def HangTellsUptoSaid : Prop := hangTellsUptoRow.holds Try.pinned (OpenSpec.upto hangTellsSpec)

/-- 'codemasonlaw.FactSolves', WHERE WHAT IT READS IS OF BULK AT MOST 1048576: true; the input reads as it did. -/
def factSolvesUptoRow : OpenClaim := { program := "ytccbcbhiblohgaa", sum := "415690686b22d18106342dd79dc6b05d91c36c8b3a46905726e7f238d0d9cdc0", func := "codemason/codemasonlaw.FactSolves", spec := "factSolves", unfollowed := true, recurses := true, plainKeys := false, apart := false, narrowed := true }
def FactSolvesUptoSaid : Prop := factSolvesUptoRow.holds Try.pinned (OpenSpec.upto factSolvesSpec)

/-- 'codemasonlaw.FactAlongs', WHERE WHAT IT READS IS OF BULK AT MOST 1048576: true; the input reads as it did. -/
def factAlongsUptoRow : OpenClaim := { program := "ytccbcbhiblohgaa", sum := "415690686b22d18106342dd79dc6b05d91c36c8b3a46905726e7f238d0d9cdc0", func := "codemason/codemasonlaw.FactAlongs", spec := "factAlongs", unfollowed := true, recurses := true, plainKeys := false, apart := false, narrowed := true }
def FactAlongsUptoSaid : Prop := factAlongsUptoRow.holds Try.pinned (OpenSpec.upto factAlongsSpec)

end Rows
end Go.Proofs.Ytccbcbhiblohgaa
