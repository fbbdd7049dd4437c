/- The row of the law ValueLeasts. -/
import Derived.Test.YtpnganfbonlphaaRows
import Derived.Test.YtpnganfbonlphaaAbLaw
import Derived.Test.YtpnganfbonlphaaValueLeasts
namespace Go.Proofs.Ytpnganfbonlphaa
open Go Go.Ab Go.ChangeShapes Go.WideShapes Go.ChangeAt Go.RowKit

theorem valueLeasts_own : ownKnob Try.prog.godebug = none := by kernel_rfl
theorem valueLeasts_laidOut : laidOutB Try.prog = true := by kernel_rfl
theorem valueLeasts_tys : TMs Try.prog [.int .i64, .sl (.pair (.int .i64) (.pair (.int .i64) (.pair (.int .i64) (.pair (.int .i64) (.unit)))))] [3, 22] := tms_ok S.tabs.1 _ _ (by kernel_rfl)

set_option maxRecDepth 100000 in
theorem valueLeasts_lifted (os : Os) (started : os.Started) (H : Type) (enc : TypeId × Value → H) :
    ReturnsInHanded {} Try.checked os 15 .any (Rows.valueLeastsSpec.pre6 enc Try.prog Try.f15 Rows.valueLeastsRow.domain false) (Rows.valueLeastsSpec.post enc Try.prog Try.f15 false true false false) := by
  refine returnsInHanded_of_change (C := Try.checked) valueLeasts_own started (by kernel_rfl) Try.func15
    (ChangeSpec.witness6 (enc := enc) (C := Try.checked) false ⟨#[], #[.int .i64 0, .slice none 0 0], []⟩ 8 (by kernel_rfl) (by kernel_rfl) (by kernel_rfl) (by kernel_rfl)) ?_
  intro W base args ds gs before hval hW _ _
  exact law_post (P := Try.prog) (F := fun k x => S.law_ValueLeasts_F k x) valueLeasts_laidOut (by rw [Try.params15]) valueLeasts_tys (by decide) (tb := 4) (by kernel_rfl) Try.underlying4 rfl
    (fun ds hd => match ds, hd with | [_, _], _ => rfl) S.law_ValueLeasts_holds valueLeasts_law hval hW

theorem valueLeasts_holds : Rows.ValueLeastsSaid :=
  OpenClaim.holds_of_wide 15 Try.f15 rfl rfl rfl rfl rfl rfl rfl ⟨rfl, rfl, rfl, rfl, rfl⟩ rfl rfl rfl rfl rfl (by kernel_rfl) Try.func15 (by kernel_rfl)
    (of_decide_eq_true (by kernel_rfl)) (by unfold Func.isWrapper; first | (rw [if_pos (by decide +kernel)]; kernel_rfl) | (rw [if_neg (by decide +kernel)]; exact ⟨rfl, rfl⟩))
    (fun os started H enc _ => valueLeasts_lifted os started H enc)

end Go.Proofs.Ytpnganfbonlphaa
