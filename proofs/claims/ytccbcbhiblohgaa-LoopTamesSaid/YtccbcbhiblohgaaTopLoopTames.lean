/- The row of the law LoopTames. -/
import Derived.Test.YtccbcbhiblohgaaRows
import Derived.Test.YtccbcbhiblohgaaLoopTames
namespace Go.Proofs.Ytccbcbhiblohgaa
open Go Go.Ab Go.ChangeShapes Go.WideShapes Go.ChangeAt Go.RowKit

theorem loopTames_own : ownKnob Try.prog.godebug = none := by kernel_rfl
theorem loopTames_laidOut : laidOutB Try.prog = true := by kernel_rfl
theorem loopTames_tys : TMs Try.prog [.sl (.sl (.int .i64))] [22] := tms_ok S.tabs.1 _ _ (by kernel_rfl)

set_option maxRecDepth 100000 in
theorem loopTames_lifted (os : Os) (started : os.Started) (H : Type) (enc : TypeId × Value → H) :
    ReturnsInHanded {} Try.checked os 14 .any (Rows.loopTamesSpec.pre6 enc Try.prog Try.f14 Rows.loopTamesRow.domain false) (Rows.loopTamesSpec.post enc Try.prog Try.f14 false true false false) := by
  refine returnsInHanded_of_change (C := Try.checked) loopTames_own started (by kernel_rfl) Try.func14
    (ChangeSpec.witness6 (enc := enc) (C := Try.checked) false ⟨#[], #[.slice none 0 0], []⟩ 8 (by kernel_rfl) (by kernel_rfl) (by kernel_rfl) (by kernel_rfl)) ?_
  intro W base args ds gs before hval hW _ _
  exact law_post (P := Try.prog) (F := fun k x => S.law_LoopTames_F k x) loopTames_laidOut (by rw [Try.params14]) loopTames_tys (by decide) (tb := 4) (by kernel_rfl) Try.underlying4 rfl
    (fun ds hd => match ds, hd with | [_], _ => rfl) S.law_LoopTames_holds loopTames_law hval hW

theorem loopTames_holds : Rows.LoopTamesSaid :=
  OpenClaim.holds_of_wide 14 Try.f14 rfl rfl rfl rfl rfl rfl rfl ⟨rfl, rfl, rfl, rfl, rfl⟩ rfl rfl rfl rfl rfl (by kernel_rfl) Try.func14 (by kernel_rfl)
    (of_decide_eq_true (by kernel_rfl)) (by unfold Func.isWrapper; first | (rw [if_pos (by decide +kernel)]; kernel_rfl) | (rw [if_neg (by decide +kernel)]; exact ⟨rfl, rfl⟩))
    (fun os started H enc _ => loopTames_lifted os started H enc)

end Go.Proofs.Ytccbcbhiblohgaa
