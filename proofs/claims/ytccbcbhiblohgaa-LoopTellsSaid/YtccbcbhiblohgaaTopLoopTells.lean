/- The row of the law LoopTells. -/
import Derived.Test.YtccbcbhiblohgaaRows
import Derived.Test.YtccbcbhiblohgaaLoopTells
namespace Go.Proofs.Ytccbcbhiblohgaa
open Go Go.Ab Go.ChangeShapes Go.WideShapes Go.ChangeAt Go.RowKit

theorem loopTells_own : ownKnob Try.prog.godebug = none := by kernel_rfl
theorem loopTells_laidOut : laidOutB Try.prog = true := by kernel_rfl
theorem loopTells_tys : TMs Try.prog [.sl (.sl (.int .i64))] [22] := tms_ok S.tabs.1 _ _ (by kernel_rfl)

set_option maxRecDepth 100000 in
theorem loopTells_lifted (os : Os) (started : os.Started) (H : Type) (enc : TypeId × Value → H) :
    ReturnsInHanded {} Try.checked os 12 .any (Rows.loopTellsSpec.pre6 enc Try.prog Try.f12 Rows.loopTellsRow.domain false) (Rows.loopTellsSpec.post enc Try.prog Try.f12 false true false false) := by
  refine returnsInHanded_of_change (C := Try.checked) loopTells_own started (by kernel_rfl) Try.func12
    (ChangeSpec.witness6 (enc := enc) (C := Try.checked) false ⟨#[], #[.slice none 0 0], []⟩ 8 (by kernel_rfl) (by kernel_rfl) (by kernel_rfl) (by kernel_rfl)) ?_
  intro W base args ds gs before hval hW _ _
  exact law_post (P := Try.prog) (F := fun k x => S.law_LoopTells_F k x) loopTells_laidOut (by rw [Try.params12]) loopTells_tys (by decide) (tb := 4) (by kernel_rfl) Try.underlying4 rfl
    (fun ds hd => match ds, hd with | [_], _ => rfl) S.law_LoopTells_holds loopTells_law hval hW

theorem loopTells_holds : Rows.LoopTellsSaid :=
  OpenClaim.holds_of_wide 12 Try.f12 rfl rfl rfl rfl rfl rfl rfl ⟨rfl, rfl, rfl, rfl, rfl⟩ rfl rfl rfl rfl rfl (by kernel_rfl) Try.func12 (by kernel_rfl)
    (of_decide_eq_true (by kernel_rfl)) (by unfold Func.isWrapper; first | (rw [if_pos (by decide +kernel)]; kernel_rfl) | (rw [if_neg (by decide +kernel)]; exact ⟨rfl, rfl⟩))
    (fun os started H enc _ => loopTells_lifted os started H enc)

end Go.Proofs.Ytccbcbhiblohgaa
