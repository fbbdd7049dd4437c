/-
  No cell of these rows narrows 'for every input' (looked for: loops, veiled, ifaces, maps, wideKeys, modest, calm, conditions, laid).
  DERIVED. THE GIVEN ROWS OF THIS SEAT. 7 by the template 'for every input the law returns true; each argument reads behind the call as it read before'; 0 by the template 'total and deterministic' (their statements: YtmndifhjmbiodaaTotals.lean).
  GIVEN WITH THE SEED: the statements are not yours to turn. If you find one false, say at which input.
  Laid BY PROGRAM, IN A SANDBOX (cutbox-rows.mjs): the forced cells as the released guide's own fill.sh prints them over the translation 48ba851c5da3ef28… (all of the seat's roots in one cut). By AI agents, Wed Nov 11 2026. No macro, syntax, notation, axiom, sorry.
-/
import Derived.Test.YtmndifhjmbiodaaChecked
import GoSem.Claim
import GoSem.ClaimJoined
import GoSem.ClaimMapViews
import Derived.JoinedTies
import Derived.KernelRfl
namespace Go.Proofs.Ytmndifhjmbiodaa
/- THE CELL 'sum', in the pinned program and in every row, IS THE sha256 OF THE DUMP (.gsa) THAT YtmndifhjmbiodaaProg.lean LOADS. Nothing in Lean hashes anything: it is a label: what it is worth is what the hold of that sum in a sandbox is worth. -/
noncomputable def Try.pinned : Pinned := { name := "ytmndifhjmbiodaa", sum := "48ba851c5da3ef285ad739fcfcd0f60d56aff82ec6603b6028b17e944bc7d5ed", checked := Try.checked }
namespace Rows
def none {H : Type} : Left H := { results := [], args := [] }

/-- 'codemasonlaw.HoldLeasts': WHATEVER THE INPUT: true; the input reads as it did. -/
def holdLeastsSpec : ChangeSpec := { name := "holdLeasts", fn := fun _ => fun
  | [d1, d2] => { results := [.lit (.bool true)], args := [d1, d2] }
  | _ => none }
def holdLeastsRow : OpenClaim := { program := "ytmndifhjmbiodaa", sum := "48ba851c5da3ef285ad739fcfcd0f60d56aff82ec6603b6028b17e944bc7d5ed", func := "codemason/codemasonlaw.HoldLeasts", spec := "holdLeasts", unfollowed := true, recurses := true, plainKeys := false, apart := false }
def HoldLeastsSaid : Prop := holdLeastsRow.holds Try.pinned (OpenSpec.ofChange holdLeastsSpec)

/-- ITS FALSE NEIGHBOUR: 'it returns false'. Refute it at one input. -/
def holdLeastsWrong : ChangeSpec := { name := "holdLeasts", fn := fun _ => fun
  | [d1, d2] => { results := [.lit (.bool false)], args := [d1, d2] }
  | _ => none }
def HoldLeastsWrongFalsely : Prop := holdLeastsRow.holds Try.pinned (OpenSpec.ofChange holdLeastsWrong)

/-- 'codemasonlaw.LinkFinds': WHATEVER THE INPUT: true; the input reads as it did. -/
def linkFindsSpec : ChangeSpec := { name := "linkFinds", fn := fun _ => fun
  | [d1, d2] => { results := [.lit (.bool true)], args := [d1, d2] }
  | _ => none }
def linkFindsRow : OpenClaim := { program := "ytmndifhjmbiodaa", sum := "48ba851c5da3ef285ad739fcfcd0f60d56aff82ec6603b6028b17e944bc7d5ed", func := "codemason/codemasonlaw.LinkFinds", spec := "linkFinds", plainKeys := false, apart := false }
def LinkFindsSaid : Prop := linkFindsRow.holds Try.pinned (OpenSpec.ofChange linkFindsSpec)

/-- ITS FALSE NEIGHBOUR: 'it returns false'. Refute it at one input. -/
def linkFindsWrong : ChangeSpec := { name := "linkFinds", fn := fun _ => fun
  | [d1, d2] => { results := [.lit (.bool false)], args := [d1, d2] }
  | _ => none }
def LinkFindsWrongFalsely : Prop := linkFindsRow.holds Try.pinned (OpenSpec.ofChange linkFindsWrong)

/-- 'codemasonlaw.LinkNeeds': WHATEVER THE INPUT: true; the input reads as it did. -/
def linkNeedsSpec : ChangeSpec := { name := "linkNeeds", fn := fun _ => fun
  | [d] => { results := [.lit (.bool true)], args := [d] }
  | _ => none }
def linkNeedsRow : OpenClaim := { program := "ytmndifhjmbiodaa", sum := "48ba851c5da3ef285ad739fcfcd0f60d56aff82ec6603b6028b17e944bc7d5ed", func := "codemason/codemasonlaw.LinkNeeds", spec := "linkNeeds", plainKeys := false, apart := false }
def LinkNeedsSaid : Prop := linkNeedsRow.holds Try.pinned (OpenSpec.ofChange linkNeedsSpec)

/-- ITS FALSE NEIGHBOUR: 'it returns false'. Refute it at one input. -/
def linkNeedsWrong : ChangeSpec := { name := "linkNeeds", fn := fun _ => fun
  | [d] => { results := [.lit (.bool false)], args := [d] }
  | _ => none }
def LinkNeedsWrongFalsely : Prop := linkNeedsRow.holds Try.pinned (OpenSpec.ofChange linkNeedsWrong)

/-- 'codemasonlaw.LinkTells': WHATEVER THE INPUT: true; the input reads as it did. -/
def linkTellsSpec : ChangeSpec := { name := "linkTells", fn := fun _ => fun
  | [d] => { results := [.lit (.bool true)], args := [d] }
  | _ => none }
def linkTellsRow : OpenClaim := { program := "ytmndifhjmbiodaa", sum := "48ba851c5da3ef285ad739fcfcd0f60d56aff82ec6603b6028b17e944bc7d5ed", func := "codemason/codemasonlaw.LinkTells", spec := "linkTells", plainKeys := false, apart := false }
def LinkTellsSaid : Prop := linkTellsRow.holds Try.pinned (OpenSpec.ofChange linkTellsSpec)

/-- ITS FALSE NEIGHBOUR: 'it returns false'. Refute it at one input. -/
def linkTellsWrong : ChangeSpec := { name := "linkTells", fn := fun _ => fun
  | [d] => { results := [.lit (.bool false)], args := [d] }
  | _ => none }
def LinkTellsWrongFalsely : Prop := linkTellsRow.holds Try.pinned (OpenSpec.ofChange linkTellsWrong)

/-- 'codemasonlaw.SwapOrders': WHATEVER THE INPUT: true; the input reads as it did. -/
def swapOrdersSpec : ChangeSpec := { name := "swapOrders", fn := fun _ => fun
  | [d1, d2] => { results := [.lit (.bool true)], args := [d1, d2] }
  | _ => none }
def swapOrdersRow : OpenClaim := { program := "ytmndifhjmbiodaa", sum := "48ba851c5da3ef285ad739fcfcd0f60d56aff82ec6603b6028b17e944bc7d5ed", func := "codemason/codemasonlaw.SwapOrders", spec := "swapOrders", plainKeys := false, apart := false }
def SwapOrdersSaid : Prop := swapOrdersRow.holds Try.pinned (OpenSpec.ofChange swapOrdersSpec)

/-- ITS FALSE NEIGHBOUR: 'it returns false'. Refute it at one input. -/
def swapOrdersWrong : ChangeSpec := { name := "swapOrders", fn := fun _ => fun
  | [d1, d2] => { results := [.lit (.bool false)], args := [d1, d2] }
  | _ => none }
def SwapOrdersWrongFalsely : Prop := swapOrdersRow.holds Try.pinned (OpenSpec.ofChange swapOrdersWrong)

/-- 'codemasonlaw.PointWithins': WHATEVER THE INPUT: true; the input reads as it did. -/
def pointWithinsSpec : ChangeSpec := { name := "pointWithins", fn := fun _ => fun
  | [d1, d2] => { results := [.lit (.bool true)], args := [d1, d2] }
  | _ => none }
def pointWithinsRow : OpenClaim := { program := "ytmndifhjmbiodaa", sum := "48ba851c5da3ef285ad739fcfcd0f60d56aff82ec6603b6028b17e944bc7d5ed", func := "codemason/codemasonlaw.PointWithins", spec := "pointWithins", unfollowed := true, recurses := true, plainKeys := false, apart := false }
def PointWithinsSaid : Prop := pointWithinsRow.holds Try.pinned (OpenSpec.ofChange pointWithinsSpec)

/-- ITS FALSE NEIGHBOUR: 'it returns false'. Refute it at one input. -/
def pointWithinsWrong : ChangeSpec := { name := "pointWithins", fn := fun _ => fun
  | [d1, d2] => { results := [.lit (.bool false)], args := [d1, d2] }
  | _ => none }
def PointWithinsWrongFalsely : Prop := pointWithinsRow.holds Try.pinned (OpenSpec.ofChange pointWithinsWrong)

/-- 'codemasonlaw.PointJoins': WHATEVER THE INPUT: true; the input reads as it did. -/
def pointJoinsSpec : ChangeSpec := { name := "pointJoins", fn := fun _ => fun
  | [d1, d2] => { results := [.lit (.bool true)], args := [d1, d2] }
  | _ => none }
def pointJoinsRow : OpenClaim := { program := "ytmndifhjmbiodaa", sum := "48ba851c5da3ef285ad739fcfcd0f60d56aff82ec6603b6028b17e944bc7d5ed", func := "codemason/codemasonlaw.PointJoins", spec := "pointJoins", unfollowed := true, recurses := true, plainKeys := false, apart := false }
def PointJoinsSaid : Prop := pointJoinsRow.holds Try.pinned (OpenSpec.ofChange pointJoinsSpec)

/-- ITS FALSE NEIGHBOUR: 'it returns false'. Refute it at one input. -/
def pointJoinsWrong : ChangeSpec := { name := "pointJoins", fn := fun _ => fun
  | [d1, d2] => { results := [.lit (.bool false)], args := [d1, d2] }
  | _ => none }
def PointJoinsWrongFalsely : Prop := pointJoinsRow.holds Try.pinned (OpenSpec.ofChange pointJoinsWrong)

/- THE SECOND FORM. 'bulk': how many values and letters a reading holds, each counted each time it is reached (what is shared counts as often as it is met; a slice's spare places count too). A statement '..UptoSaid' is the law's where the arguments, and the package variables that the reading takes, are together of bulk at most 1048576: NARROWER than '..Said'. Prove '..Said' where nothing that the law and all that it calls make is longer than what came in: it says more and counts as full. Else prove '..UptoSaid'. A law counts once. -/
mutual
def uptoBulk {H : Type} : DataW H → Nat
  | .lit (.string bytes) => bytes.length + 1
  | .lit _ => 1
  | .nil => 1
  | .ptr d => uptoBulk d + 1
  | .slice elems spare => uptoBulkAll elems + uptoBulkAll spare + 1
  | .agg parts => uptoBulkAll parts + 1
  | .iface _ d => uptoBulk d + 1
  | .map entries => uptoBulkEntries entries + 1
  | .held _ => 1
def uptoBulkAll {H : Type} : List (DataW H) → Nat
  | [] => 0
  | d :: r => uptoBulk d + uptoBulkAll r
def uptoBulkEntries {H : Type} : List (Lit × DataW H) → Nat
  | [] => 0
  | x :: r => uptoBulkEntry x + uptoBulkEntries r
def uptoBulkEntry {H : Type} : Lit × DataW H → Nat
  | (.string bytes, d) => bytes.length + uptoBulk d + 1
  | (_, d) => uptoBulk d + 1
 end
def uptoSmall : (H : Type) → List (DataW H) → Bool := fun _ ds => decide (uptoBulkAll ds ≤ 1048576)
def OpenSpec.upto (s : _root_.Go.ChangeSpec) : _root_.Go.OpenSpec := { _root_.Go.OpenSpec.ofChange s with cond := some uptoSmall }

/-- 'codemasonlaw.HoldLeasts', WHERE WHAT IT READS IS OF BULK AT MOST 1048576: true; the input reads as it did. -/
def holdLeastsUptoRow : OpenClaim := { program := "ytmndifhjmbiodaa", sum := "48ba851c5da3ef285ad739fcfcd0f60d56aff82ec6603b6028b17e944bc7d5ed", func := "codemason/codemasonlaw.HoldLeasts", spec := "holdLeasts", unfollowed := true, recurses := true, plainKeys := false, apart := false, narrowed := true }
def HoldLeastsUptoSaid : Prop := holdLeastsUptoRow.holds Try.pinned (OpenSpec.upto holdLeastsSpec)

/-- 'codemasonlaw.LinkFinds', WHERE WHAT IT READS IS OF BULK AT MOST 1048576: true; the input reads as it did. -/
def linkFindsUptoRow : OpenClaim := { program := "ytmndifhjmbiodaa", sum := "48ba851c5da3ef285ad739fcfcd0f60d56aff82ec6603b6028b17e944bc7d5ed", func := "codemason/codemasonlaw.LinkFinds", spec := "linkFinds", plainKeys := false, apart := false, narrowed := true }
def LinkFindsUptoSaid : Prop := linkFindsUptoRow.holds Try.pinned (OpenSpec.upto linkFindsSpec)

/-- 'codemasonlaw.LinkNeeds', WHERE WHAT IT READS IS OF BULK AT MOST 1048576: true; the input reads as it did. -/
def linkNeedsUptoRow : OpenClaim := { program := "ytmndifhjmbiodaa", sum := "48ba851c5da3ef285ad739fcfcd0f60d56aff82ec6603b6028b17e944bc7d5ed", func := "codemason/codemasonlaw.LinkNeeds", spec := "linkNeeds", plainKeys := false, apart := false, narrowed := true }
def LinkNeedsUptoSaid : Prop := linkNeedsUptoRow.holds Try.pinned (OpenSpec.upto linkNeedsSpec)

/-- 'codemasonlaw.LinkTells', WHERE WHAT IT READS IS OF BULK AT MOST 1048576: true; the input reads as it did. -/
def linkTellsUptoRow : OpenClaim := { program := "ytmndifhjmbiodaa", sum := "48ba851c5da3ef285ad739fcfcd0f60d56aff82ec6603b6028b17e944bc7d5ed", func := "codemason/codemasonlaw.LinkTells", spec := "linkTells", plainKeys := false, apart := false, narrowed := true }
def LinkTellsUptoSaid : Prop := linkTellsUptoRow.holds Try.pinned (OpenSpec.upto linkTellsSpec)

/-- 'codemasonlaw.SwapOrders', WHERE WHAT IT READS IS OF BULK AT MOST 1048576: true; the input reads as it did. -/
def swapOrdersUptoRow : OpenClaim := { program := "ytmndifhjmbiodaa", sum := "48ba851c5da3ef285ad739fcfcd0f60d56aff82ec6603b6028b17e944bc7d5ed", func := "codemason/codemasonlaw.SwapOrders", spec := "swapOrders", plainKeys := false, apart := false, narrowed := true }
def SwapOrdersUptoSaid : Prop := swapOrdersUptoRow.holds Try.pinned (OpenSpec.upto swapOrdersSpec)

/-- 'codemasonlaw.PointWithins', WHERE WHAT IT READS IS OF BULK AT MOST 1048576: true; the input reads as it did. -/
def pointWithinsUptoRow : OpenClaim := { program := "ytmndifhjmbiodaa", sum := "48ba851c5da3ef285ad739fcfcd0f60d56aff82ec6603b6028b17e944bc7d5ed", func := "codemason/codemasonlaw.PointWithins", spec := "pointWithins", unfollowed := true, recurses := true, plainKeys := false, apart := false, narrowed := true }
def PointWithinsUptoSaid : Prop := pointWithinsUptoRow.holds Try.pinned (OpenSpec.upto pointWithinsSpec)

/-- 'codemasonlaw.PointJoins', WHERE WHAT IT READS IS OF BULK AT MOST 1048576: true; the input reads as it did. -/
def pointJoinsUptoRow : OpenClaim := { program := "ytmndifhjmbiodaa", sum := "48ba851c5da3ef285ad739fcfcd0f60d56aff82ec6603b6028b17e944bc7d5ed", func := "codemason/codemasonlaw.PointJoins", spec := "pointJoins", unfollowed := true, recurses := true, plainKeys := false, apart := false, narrowed := true }
def PointJoinsUptoSaid : Prop := pointJoinsUptoRow.holds Try.pinned (OpenSpec.upto pointJoinsSpec)

end Rows
end Go.Proofs.Ytmndifhjmbiodaa
