/- tile.Cost tells what a cover of a tree costs at the least. -/
import Derived.Test.YtpnganfbonlphaaTiles
import Derived.Test.YtpnganfbonlphaaAbLaw
namespace Go.Proofs.Ytpnganfbonlphaa
open Go Go.Ab S

theorem tileCosts_main {nf : Nat} (hn : 60 ≤ nf) (vars : Int) (l : List Term5) (ts : List Til) : law_TileCosts_f nf vars l ts = some (true, ()) := by
  simp only [law_TileCosts_f, law_TileCosts_p, tile_Cost_f, tile_Cost_p, tile_wrong_F (show 20 ≤ nf by omega), tileCode_F hn, Option.bind_some]
  by_cases h : treeC vars l = 0
  · obtain ⟨hT, _⟩ := treeC_ok h
    have hp := hT.pos
    have hf := hT.few
    simp only [h, if_true]
    by_cases h2 : tilesCode ts = 0
    · obtain ⟨g1, g2⟩ := costsL_len (l := l) ts l.length
      have e : (costsL l ts l.length).1.getD ((l.length : Int) - 1).toNat 0 = cst l ts ((l.length : Int) - 1) := by
        rw [(costsL_at (l := l) ts l.length ((l.length : Int) - 1).toNat (by omega)).1]
        congr 1; omega
      simp only [h2, show ((0 : Int) != 0) = false from rfl, cond_false, if_true, solve_F hT (show 20 ≤ nf by omega) (tilesCode_len h2), Option.bind_some, wrap_last hT, inb_ok (n := (costsL l ts l.length).1.length) (show 0 ≤ (l.length : Int) - 1 by omega) (by omega), cond_true, e, tc_F hT (tilesCode_len h2) nf ((l.length : Int) - 1) (by omega) (by omega) (by omega)]
      by_cases h3 : cst l ts (l.length - 1) < 0
      · have h4 : ¬ cst l ts (l.length - 1) ≥ 0 := by omega
        simp [h3, h4]
      · have h4 : cst l ts (l.length - 1) ≥ 0 := by omega
        simp [h3, h4]
    · simp [bne_t h2, h2]
  · simp [bne_t h, h]

theorem tileCosts_law (x : denPs (lawPs [.int .i64, .sl (.pair (.int .i64) (.pair (.int .i64) (.pair (.int .i64) (.pair (.int .i64) (.unit))))), .sl (.pair (.int .i64) (.pair (.int .i64) (.pair (.int .i64) (.pair (.int .i64) (.unit)))))])) (_ : wfPs [.int .i64, .sl (.pair (.int .i64) (.pair (.int .i64) (.pair (.int .i64) (.pair (.int .i64) (.unit))))), .sl (.pair (.int .i64) (.pair (.int .i64) (.pair (.int .i64) (.pair (.int .i64) (.unit)))))] x) : ∃ n, law_TileCosts_F n x = some (true, ()) := by
  obtain ⟨vars, l, ts, _⟩ := x
  exact ⟨60, tileCosts_main (Nat.le_refl _) vars l ts⟩
end Go.Proofs.Ytpnganfbonlphaa
