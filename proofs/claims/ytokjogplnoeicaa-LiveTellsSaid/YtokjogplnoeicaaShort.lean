/- Programs that pass their check are short. -/
import Derived.Test.YtokjogplnoeicaaNext
namespace Go.Proofs.Ytokjogplnoeicaa
open Go Go.Ab S

variable {p : List Blk}

theorem wrap_nn {x : Int} (h0 : 0 ≤ x) (h1 : x ≤ 9223372036854775807) : IntKind.i64.wrap x = x := Go.IntWalk.i64_in _ ⟨by omega, by omega⟩
theorem many_le : ∀ (l : List Blk) (m : Nat), m + l.length * 140737488355328 ≤ 4611686018427387904 → (∀ b ∈ l, b.1.length ≤ 140737488355328) → ∃ k : Nat, manyGo l m = (k : Int) ∧ m ≤ k ∧ ∀ b ∈ l, b.1.length ≤ k
  | [], m, _, _ => ⟨m, rfl, Nat.le_refl _, fun b hb => by cases hb⟩
  | b :: r, m, h, hb => by
    have h1 := hb b (by simp)
    simp only [List.length_cons, Nat.add_mul, Nat.one_mul] at h
    obtain ⟨k, k1, k2, k3⟩ := many_le r (m + b.1.length) (by omega) fun c hc => hb c (by simp [hc])
    refine ⟨k, ?_, by omega, fun c hc => ?_⟩
    · rw [manyGo, wrap_nn (by omega) (by omega), ← k1]; simp
    · rcases List.mem_cons.1 hc with rfl | hc
      · omega
      · exact k3 c hc
theorem codes_short {vars : Int} (h : progCode vars p = 0) (hs : ∀ b ∈ p, b.1.length ≤ 140737488355328) : ∀ b ∈ p, b.1.length ≤ 20 := by
  unfold progCode at h
  split at h
  · cases h
  · rename_i hc
    simp only [not_or] at hc
    obtain ⟨k, k1, _, k3⟩ := many_le p 0 (by omega) hs
    intro b hb
    have := k3 b hb
    have h5 := hc.2.2.2.2
    rw [show ((0 : Nat) : Int) = 0 from rfl] at k1
    rw [k1] at h5
    omega
theorem stepsGo_all {vars regs : Int} : ∀ {l : List Step6}, stepsGo vars regs l = 0 → ∀ s ∈ l, stepCode vars regs s = 0
  | [], _, s, hs => by cases hs
  | x :: r, h, s, hs => by
    simp only [stepsGo] at h
    split at h
    · rename_i h1
      rcases List.mem_cons.1 hs with rfl | hs
      · exact h1
      · exact stepsGo_all h s hs
    · rename_i h1; exact absurd h h1

/-- a program that is as it should be -/
structure Good (n : Int) (p : List Blk) : Prop where
  n1 : 1 ≤ n
  n6 : n ≤ 6
  p1 : 1 ≤ p.length
  p8 : p.length ≤ 8
  ok : ∀ b ∈ p, blockCode n p.length b = 0
  short : ∀ b ∈ p, b.1.length ≤ 20
theorem good_of {n : Int} (h : progCode n p = 0) (hs : ∀ b ∈ p, b.1.length ≤ 140737488355328) : Good n p := by
  obtain ⟨b1, b2, b3, b4, b5⟩ := progCode_ok h
  exact ⟨b1, b2, b3, b4, blocksGo_ok b5, codes_short h hs⟩
end Go.Proofs.Ytokjogplnoeicaa
