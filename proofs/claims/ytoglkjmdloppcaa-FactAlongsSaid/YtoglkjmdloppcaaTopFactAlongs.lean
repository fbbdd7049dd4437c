/- The row of the law FactAlongs. -/
import Derived.Test.YtoglkjmdloppcaaRows
import Derived.Test.YtoglkjmdloppcaaAbLaw
import Derived.Test.YtoglkjmdloppcaaFactAlongs
namespace Go.Proofs.Ytoglkjmdloppcaa
open Go Go.Ab Go.ChangeShapes Go.WideShapes Go.ChangeAt Go.RowKit

theorem factAlongs_own : ownKnob Try.prog.godebug = none := by kernel_rfl
theorem factAlongs_laidOut : laidOutB Try.prog = true := by kernel_rfl
theorem factAlongs_by : byB Try.prog = true := by kernel_rfl
theorem factAlongs_tys : TMs Try.prog [.sl (.sl (.int .i64)), .pair (.bool) (.pair (.bool) (.pair (.sl (.int .u32)) (.pair (.sl (.int .u32)) (.pair (.int .u32) (.unit))))), .sl (.int .i64)] [22, 26, 34] := tms_ok S.tabs.1 _ _ (by kernel_rfl)

set_option maxRecDepth 100000 in
theorem factAlongs_lifted (os : Os) (started : os.Started) (H : Type) (enc : TypeId × Value → H) :
    ReturnsInHanded {} Try.checked os 4 .any (Rows.factAlongsSpec.pre6 enc Try.prog Try.f4 Rows.factAlongsRow.domain false) (Rows.factAlongsSpec.post enc Try.prog Try.f4 false true false false) := by
  refine returnsInHanded_of_change_sized (C := Try.checked) factAlongs_own started (by kernel_rfl) Try.func4
    (ChangeSpec.witness6 (enc := enc) (C := Try.checked) false ⟨#[], #[.slice none 0 0, .agg #[.bool false, .bool false, .slice none 0 0, .slice none 0 0, .int .u32 0], .slice none 0 0], []⟩ 8 (by kernel_rfl) (by kernel_rfl) (by kernel_rfl) (by kernel_rfl)) ?_
  intro W base args ds gs before hval hW _ hwt _
  exact law_post_sz (P := Try.prog) (hwt := hwt) factAlongs_by (F := fun k x => S.law_FactAlongs_F k x) factAlongs_laidOut (by rw [Try.params4]) factAlongs_tys (by decide) (tb := 4) (by kernel_rfl) Try.underlying4 rfl
    (fun ds hd => match ds, hd with | [_, _, _], _ => rfl) S.law_FactAlongs_holds (fun x h _ => factAlongs_law x h) hval hW

theorem factAlongs_holds : Rows.FactAlongsSaid :=
  OpenClaim.holds_of_wide 4 Try.f4 rfl rfl rfl rfl rfl rfl rfl ⟨rfl, rfl, rfl, rfl, rfl⟩ rfl rfl rfl rfl rfl (by kernel_rfl) Try.func4 (by kernel_rfl)
    (of_decide_eq_true (by kernel_rfl)) (by unfold Func.isWrapper; first | (rw [if_pos (by decide +kernel)]; kernel_rfl) | (rw [if_neg (by decide +kernel)]; exact ⟨rfl, rfl⟩))
    (fun os started H enc _ => factAlongs_lifted os started H enc)

end Go.Proofs.Ytoglkjmdloppcaa
