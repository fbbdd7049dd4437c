/- need.Need tells how many registers a tree needs. -/
import Derived.Test.YtpnganfbonlphaaTree
import Derived.Test.YtpnganfbonlphaaAbLaw
namespace Go.Proofs.Ytpnganfbonlphaa
open Go Go.Ab S

theorem needTells_main {nf : Nat} (hn : 20 ≤ nf) (vars : Int) (l : List Term5) : law_NeedTells_f nf vars l = some (true, ()) := by
  simp only [law_NeedTells_f, law_NeedTells_p, need_Need_f, need_Need_p, need_wrong_f, need_wrong_p, law_treeCode_f, law_treeCode_p, term_F (show 18 ≤ nf by omega), terms_F' (show 18 ≤ nf by omega), Option.bind_some]
  by_cases h : termCode vars l = 0
  · have hT := termsOK h
    have hp := hT.pos
    have hf := hT.few
    obtain ⟨out, h1, h2⟩ := needs_F (nf := nf) hT hn
    simp only [h, tree_F hT hn, ref_Tree_F hT hn, show ((0 : Int) != 0) = false from rfl, show ((0 : Int) == 0) = true from rfl, cond_false, cond_true, Option.bind_some]
    cases treeB l with
    | false => rfl
    | true =>
      simp only [Bool.not_true, cond_false, Option.bind_some, show ((0 : Int) != 0) = false from rfl, h2, wrap_last hT, inb_ok (n := out.length) (show 0 ≤ (l.length : Int) - 1 by omega) (by rw [h1.len]; omega), cond_true,
        show ((0 : Int) == 0) = true from rfl, ref_Need_ok hT h1 nf ((l.length : Int) - 1) (by omega) (by omega) (by omega), beq_self_eq_true]
  · simp [bne_t h, beq_f h]

theorem needTells_law (x : denPs (lawPs [.int .i64, .sl (.pair (.int .i64) (.pair (.int .i64) (.pair (.int .i64) (.pair (.int .i64) .unit))))])) (_ : wfPs [.int .i64, .sl (.pair (.int .i64) (.pair (.int .i64) (.pair (.int .i64) (.pair (.int .i64) .unit))))] x) : ∃ n, law_NeedTells_F n x = some (true, ()) := by
  obtain ⟨vars, l, _⟩ := x
  exact ⟨20, needTells_main (Nat.le_refl _) vars l⟩
end Go.Proofs.Ytpnganfbonlphaa
