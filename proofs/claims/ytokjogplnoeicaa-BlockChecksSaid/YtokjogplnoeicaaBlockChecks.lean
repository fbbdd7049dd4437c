/- block.Check and the document's answer agree. -/
import Derived.Test.YtokjogplnoeicaaBlk
import Derived.Test.YtokjogplnoeicaaAbLaw
namespace Go.Proofs.Ytokjogplnoeicaa
open Go Go.Ab S

theorem blockChecks_aux (vars : Int) (p : List Blk) (h1 : p.length ≤ maxLen) (h2 : ∀ b ∈ p, b.1.length ≤ maxLen) : law_BlockChecks_f (fuelOf p) vars p = some (true, ()) := by
  simp only [law_BlockChecks_f, law_BlockChecks_p]
  have hf := fits_of (nf := fuelOf p) (Nat.le_refl _) h1 h2
  rw [block_Check_F hf, ref_ProgCheck_F (by have := (fuelOf_ok p).1; omega) hf]
  simp

theorem blockChecks_law (x : denPs (lawPs [.int .i64, .sl (.pair (.sl (.pair (.int .i64) (.pair (.int .i64) (.pair (.int .i64) (.pair (.int .i64) (.pair (.int .i64) .unit)))))) (.pair (.int .i64) (.pair (.int .i64) (.pair (.int .i64) .unit))))])) (h : wfPs [.int .i64, .sl (.pair (.sl (.pair (.int .i64) (.pair (.int .i64) (.pair (.int .i64) (.pair (.int .i64) (.pair (.int .i64) .unit)))))) (.pair (.int .i64) (.pair (.int .i64) (.pair (.int .i64) .unit))))] x) : ∃ n, law_BlockChecks_F n x = some (true, ()) := by
  obtain ⟨vars, p, _⟩ := x
  obtain ⟨_, ⟨h1, h2⟩, _⟩ := h
  refine ⟨_, blockChecks_aux vars p h1 fun b hb => ?_⟩
  obtain ⟨i, hi, rfl⟩ := List.mem_iff_getElem.1 hb
  have := h2 i hi
  have e : List.getD p i (dflt _) = p[i] := by simp [List.getD, hi]
  rw [e] at this
  exact this.1.1
end Go.Proofs.Ytokjogplnoeicaa
