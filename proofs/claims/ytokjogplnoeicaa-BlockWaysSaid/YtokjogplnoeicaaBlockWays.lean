/- block.Way tells where one may go from each block. -/
import Derived.Test.YtokjogplnoeicaaNext
import Derived.Test.YtokjogplnoeicaaAbLaw
namespace Go.Proofs.Ytokjogplnoeicaa
open Go Go.Ab S

theorem nextOf_len (b : Blk) : (nextOf b).length ≤ 2 := by
  unfold nextOf
  split <;> split <;> simp

theorem blockWays_aux (vars : Int) (p : List Blk) (h1 : p.length ≤ maxLen) (h2 : ∀ b ∈ p, b.1.length ≤ maxLen) : law_BlockWays_f (fuelOf p) vars p = some (true, ()) := by
  have hfu := (fuelOf_ok p).1
  have hf := fits_of (nf := fuelOf p) (Nat.le_refl _) h1 h2
  simp only [law_BlockWays_f, law_BlockWays_p, block_Way_f, block_Way_p]
  rw [block_Check_F hf, ref_ProgCheck_F (by omega) hf]
  simp only [Option.bind_some]
  by_cases h : progCode vars p = 0
  · obtain ⟨_, _, _, h8, hb⟩ := progCode_ok h
    have hok := fun b hb' => blockCode_ok (blocksGo_ok hb b hb')
    have hn := next_F (nf := fuelOf p) h8 (by omega)
    have hr := nexts_F (nf := fuelOf p) h8 (by omega) fun b hb' => by have := hok b hb'; exact ⟨this.2.1, by omega⟩
    have hl := lists_F (nf := fuelOf p) (a := p.map nextOf) (p.map nextOf) (by simpa using h1) (by simp; omega) fun x hx => by
      obtain ⟨b, _, rfl⟩ := List.mem_map.1 hx
      have := nextOf_len b
      exact ⟨Nat.le_trans this (by decide), by omega⟩
    simp only [h, show ((0 : Int) != 0) = false from rfl, show ((0 : Int) == 0) = true from rfl, cond_false, cond_true, hn, hr, hl, Option.bind_some, decide_true]
  · simp [bne_t h]

theorem blockWays_law (x : denPs (lawPs [.int .i64, .sl (.pair (.sl (.pair (.int .i64) (.pair (.int .i64) (.pair (.int .i64) (.pair (.int .i64) (.pair (.int .i64) .unit)))))) (.pair (.int .i64) (.pair (.int .i64) (.pair (.int .i64) .unit))))])) (h : wfPs [.int .i64, .sl (.pair (.sl (.pair (.int .i64) (.pair (.int .i64) (.pair (.int .i64) (.pair (.int .i64) (.pair (.int .i64) .unit)))))) (.pair (.int .i64) (.pair (.int .i64) (.pair (.int .i64) .unit))))] x) : ∃ n, law_BlockWays_F n x = some (true, ()) := by
  obtain ⟨vars, p, _⟩ := x
  obtain ⟨_, ⟨h1, h2⟩, _⟩ := h
  refine ⟨_, blockWays_aux vars p h1 fun b hb => ?_⟩
  obtain ⟨i, hi, rfl⟩ := List.mem_iff_getElem.1 hb
  have := h2 i hi
  have e : List.getD p i (dflt _) = p[i] := by simp [List.getD, hi]
  rw [e] at this
  exact this.1.1
end Go.Proofs.Ytokjogplnoeicaa
