/- The row of the law SwapOrders. -/
import Derived.Test.YtmndifhjmbiodaaRows
import Derived.Test.YtmndifhjmbiodaaAbLaw
import Derived.Test.YtmndifhjmbiodaaSwapOrders
namespace Go.Proofs.Ytmndifhjmbiodaa
open Go Go.Ab Go.ChangeShapes Go.WideShapes Go.ChangeAt Go.RowKit

theorem swapOrders_own : ownKnob Try.prog.godebug = none := by kernel_rfl
theorem swapOrders_laidOut : laidOutB Try.prog = true := by kernel_rfl
theorem swapOrders_tys : TMs Try.prog [.int .i64, .sl (.pair (.int .i64) (.pair (.int .i64) (.unit)))] [3, 45] := tms_ok S.tabs.1 _ _ (by kernel_rfl)

set_option maxRecDepth 100000 in
theorem swapOrders_lifted (os : Os) (started : os.Started) (H : Type) (enc : TypeId × Value → H) :
    ReturnsInHanded {} Try.checked os 7 .any (Rows.swapOrdersSpec.pre6 enc Try.prog Try.f7 Rows.swapOrdersRow.domain false) (Rows.swapOrdersSpec.post enc Try.prog Try.f7 false true false false) := by
  refine returnsInHanded_of_change (C := Try.checked) swapOrders_own started (by kernel_rfl) Try.func7
    (ChangeSpec.witness6 (enc := enc) (C := Try.checked) false ⟨#[], #[.int .i64 0, .slice none 0 0], []⟩ 8 (by kernel_rfl) (by kernel_rfl) (by kernel_rfl) (by kernel_rfl)) ?_
  intro W base args ds gs before hval hW _ _
  exact law_post (P := Try.prog) (F := fun k x => S.law_SwapOrders_F k x) swapOrders_laidOut (by rw [Try.params7]) swapOrders_tys (by decide) (tb := 4) (by kernel_rfl) Try.underlying4 rfl
    (fun ds hd => match ds, hd with | [_, _], _ => rfl) S.law_SwapOrders_holds swapOrders_law hval hW

theorem swapOrders_holds : Rows.SwapOrdersSaid :=
  OpenClaim.holds_of_wide 7 Try.f7 rfl rfl rfl rfl rfl rfl rfl ⟨rfl, rfl, rfl, rfl, rfl⟩ rfl rfl rfl rfl rfl (by kernel_rfl) Try.func7 (by kernel_rfl)
    (of_decide_eq_true (by kernel_rfl)) (by unfold Func.isWrapper; first | (rw [if_pos (by decide +kernel)]; kernel_rfl) | (rw [if_neg (by decide +kernel)]; exact ⟨rfl, rfl⟩))
    (fun os started H enc _ => swapOrders_lifted os started H enc)

end Go.Proofs.Ytmndifhjmbiodaa
