/- The row of the law LoopFolds. -/
import Derived.Test.YtccbcbhiblohgaaRows
import Derived.Test.YtccbcbhiblohgaaAbLaw
import Derived.Test.YtccbcbhiblohgaaLoopFolds
namespace Go.Proofs.Ytccbcbhiblohgaa
open Go Go.Ab Go.ChangeShapes Go.WideShapes Go.ChangeAt Go.RowKit

theorem loopFolds_own : ownKnob Try.prog.godebug = none := by kernel_rfl
theorem loopFolds_laidOut : laidOutB Try.prog = true := by kernel_rfl
theorem loopFolds_tys : TMs Try.prog [.sl (.sl (.int .i64))] [22] := tms_ok S.tabs.1 _ _ (by kernel_rfl)

set_option maxRecDepth 100000 in
theorem loopFolds_lifted (os : Os) (started : os.Started) (H : Type) (enc : TypeId × Value → H) :
    ReturnsInHanded {} Try.checked os 15 .any (Rows.loopFoldsSpec.pre6 enc Try.prog Try.f15 Rows.loopFoldsRow.domain false) (Rows.loopFoldsSpec.post enc Try.prog Try.f15 false true false false) := by
  refine returnsInHanded_of_change (C := Try.checked) loopFolds_own started (by kernel_rfl) Try.func15
    (ChangeSpec.witness6 (enc := enc) (C := Try.checked) false ⟨#[], #[.slice none 0 0], []⟩ 8 (by kernel_rfl) (by kernel_rfl) (by kernel_rfl) (by kernel_rfl)) ?_
  intro W base args ds gs before hval hW _ _
  exact law_post (P := Try.prog) (F := fun k x => S.law_LoopFolds_F k x) loopFolds_laidOut (by rw [Try.params15]) loopFolds_tys (by decide) (tb := 4) (by kernel_rfl) Try.underlying4 rfl
    (fun ds hd => match ds, hd with | [_], _ => rfl) S.law_LoopFolds_holds loopFolds_law hval hW

theorem loopFolds_holds : Rows.LoopFoldsSaid :=
  OpenClaim.holds_of_wide 15 Try.f15 rfl rfl rfl rfl rfl rfl rfl ⟨rfl, rfl, rfl, rfl, rfl⟩ rfl rfl rfl rfl rfl (by kernel_rfl) Try.func15 (by kernel_rfl)
    (of_decide_eq_true (by kernel_rfl)) (by unfold Func.isWrapper; first | (rw [if_pos (by decide +kernel)]; kernel_rfl) | (rw [if_neg (by decide +kernel)]; exact ⟨rfl, rfl⟩))
    (fun os started H enc _ => loopFolds_lifted os started H enc)

end Go.Proofs.Ytccbcbhiblohgaa
