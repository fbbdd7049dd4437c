/- The row of the law LoopDeeps. -/
import Derived.Test.YtccbcbhiblohgaaRows
import Derived.Test.YtccbcbhiblohgaaLoopDeeps
namespace Go.Proofs.Ytccbcbhiblohgaa
open Go Go.Ab Go.ChangeShapes Go.WideShapes Go.ChangeAt Go.RowKit

theorem loopDeeps_own : ownKnob Try.prog.godebug = none := by kernel_rfl
theorem loopDeeps_laidOut : laidOutB Try.prog = true := by kernel_rfl
theorem loopDeeps_tys : TMs Try.prog [.sl (.sl (.int .i64))] [22] := tms_ok S.tabs.1 _ _ (by kernel_rfl)

set_option maxRecDepth 100000 in
theorem loopDeeps_lifted (os : Os) (started : os.Started) (H : Type) (enc : TypeId × Value → H) :
    ReturnsInHanded {} Try.checked os 13 .any (Rows.loopDeepsSpec.pre6 enc Try.prog Try.f13 Rows.loopDeepsRow.domain false) (Rows.loopDeepsSpec.post enc Try.prog Try.f13 false true false false) := by
  refine returnsInHanded_of_change (C := Try.checked) loopDeeps_own started (by kernel_rfl) Try.func13
    (ChangeSpec.witness6 (enc := enc) (C := Try.checked) false ⟨#[], #[.slice none 0 0], []⟩ 8 (by kernel_rfl) (by kernel_rfl) (by kernel_rfl) (by kernel_rfl)) ?_
  intro W base args ds gs before hval hW _ _
  exact law_post (P := Try.prog) (F := fun k x => S.law_LoopDeeps_F k x) loopDeeps_laidOut (by rw [Try.params13]) loopDeeps_tys (by decide) (tb := 4) (by kernel_rfl) Try.underlying4 rfl
    (fun ds hd => match ds, hd with | [_], _ => rfl) S.law_LoopDeeps_holds loopDeeps_law hval hW

theorem loopDeeps_holds : Rows.LoopDeepsSaid :=
  OpenClaim.holds_of_wide 13 Try.f13 rfl rfl rfl rfl rfl rfl rfl ⟨rfl, rfl, rfl, rfl, rfl⟩ rfl rfl rfl rfl rfl (by kernel_rfl) Try.func13 (by kernel_rfl)
    (of_decide_eq_true (by kernel_rfl)) (by unfold Func.isWrapper; first | (rw [if_pos (by decide +kernel)]; kernel_rfl) | (rw [if_neg (by decide +kernel)]; exact ⟨rfl, rfl⟩))
    (fun os started H enc _ => loopDeeps_lifted os started H enc)

end Go.Proofs.Ytccbcbhiblohgaa
