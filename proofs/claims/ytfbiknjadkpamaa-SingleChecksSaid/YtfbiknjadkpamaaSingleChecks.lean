/- single.Check finds what the document finds. -/
import Derived.Test.YtfbiknjadkpamaaSingle
import Derived.Test.YtfbiknjadkpamaaAbLaw
namespace Go.Proofs.Ytfbiknjadkpamaa
open Go Go.Ab S

theorem singleChecks_law (x : denPs (lawPs [.int .i64, .sl (.pair (.sl (.pair (.int .i64) (.pair (.sl (.int .i64)) .unit))) (.pair (.sl (.pair (.int .i64) (.pair (.int .i64) (.pair (.int .i64) (.pair (.int .i64) (.pair (.int .i64) .unit)))))) (.pair (.int .i64) (.pair (.int .i64) (.pair (.int .i64) (.pair (.sl (.int .i64)) .unit))))))])) (h : wfPs [.int .i64, .sl (.pair (.sl (.pair (.int .i64) (.pair (.sl (.int .i64)) .unit))) (.pair (.sl (.pair (.int .i64) (.pair (.int .i64) (.pair (.int .i64) (.pair (.int .i64) (.pair (.int .i64) .unit)))))) (.pair (.int .i64) (.pair (.int .i64) (.pair (.int .i64) (.pair (.sl (.int .i64)) .unit))))))] x) : ∃ n, law_SingleChecks_F n x = some (true, ()) := by
  obtain ⟨vars, l, _⟩ := x
  obtain ⟨_, ⟨h1, h2⟩, _⟩ := h
  obtain ⟨k1, k2⟩ := sfuel_ok l
  obtain ⟨c1, c2⟩ := scheck_F (nf := sfuel l) (vars := vars) (l := l) h1 (by omega) fun b hb => by
    obtain ⟨i, hi, rfl⟩ := List.mem_iff_getElem.1 hb
    have := h2 i hi
    have e : List.getD l i (dflt _) = l[i] := by simp [List.getD, hi]
    rw [e] at this
    obtain ⟨⟨w1, w2⟩, ⟨w3, _⟩, _, _, _, ⟨w4, _⟩, _⟩ := this
    obtain ⟨g1, g2, g3, g4⟩ := k2 _ hb
    refine ⟨w1, g1, w3, g2, w4, g3, fun j hj => ?_, g4⟩
    obtain ⟨i', hi', rfl⟩ := List.mem_iff_getElem.1 hj
    have := w2 i' hi'
    have e : List.getD l[i].1 i' (dflt _) = l[i].1[i'] := by simp [List.getD, hi']
    rw [e] at this
    exact this.2.1.1
  refine ⟨sfuel l, ?_⟩
  show law_SingleChecks_f (sfuel l) vars l = _
  simp only [law_SingleChecks_f, law_SingleChecks_p, c1, c2, Option.bind_some, beq_self_eq_true]
end Go.Proofs.Ytfbiknjadkpamaa
