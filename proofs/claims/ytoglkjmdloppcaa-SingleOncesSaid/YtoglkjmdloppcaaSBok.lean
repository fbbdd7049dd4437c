/- What is so of each block of a single-assignment program that may be. -/
import Derived.Test.YtoglkjmdloppcaaSingle
namespace Go.Proofs.Ytoglkjmdloppcaa
open Go Go.Ab S

variable {nf : Nat}
/-- what is so of a block of a program that may be -/
structure BOK (vars n : Int) (m : Nat) (b : Sg) : Prop where
 jns : ∀ j ∈ b.1, j.2.1.length = m ∧ 0 ≤ j.1 ∧ j.1 < 128 ∧ ∀ x ∈ j.2.1, 0 ≤ x ∧ x < 128
 stps : ∀ s ∈ b.2.1, stpCode s = 0
 test : -1 ≤ b.2.2.1 ∧ b.2.2.1 < 128
 outs : ∀ x ∈ b.2.2.2.2.2.1, 0 ≤ x ∧ x < 128
 outl : (b.2.2.2.2.2.1.length : Int) = vars
 yes : (0 ≤ b.2.2.2.1 ∧ b.2.2.2.1 < n) ∨ (b.2.2.1 = -1 ∧ b.2.2.2.1 = -1)
 no : b.2.2.1 = -1 ∨ (0 ≤ b.2.2.2.2.1 ∧ b.2.2.2.2.1 < n)

theorem jnsGo_ok {m : Int} : ∀ {l : List Jn}, jnsGo m l = 0 → ∀ j ∈ l, jnCode m j = 0
 | [], _, j, h => by cases h
 | k :: r, h, j, hj => by
  simp only [jnsGo] at h
  split at h
  ·rename_i h1
   rcases List.mem_cons.1 hj with rfl | hj
   ·exact h1
   ·exact jnsGo_ok h j hj
  ·rename_i h1; exact absurd h h1
theorem stpsGo_ok : ∀ {l : List Step6}, stpsGo l = 0 → ∀ s ∈ l, stpCode s = 0
 | [], _, j, h => by cases h
 | k :: r, h, j, hj => by
  simp only [stpsGo] at h
  split at h
  ·rename_i h1
   rcases List.mem_cons.1 hj with rfl | hj
   ·exact h1
   ·exact stpsGo_ok h j hj
  ·rename_i h1; exact absurd h h1
theorem sgGo_ok {l : List Sg} {fr : List (List Int)} : ∀ {k : Nat} {t : Int}, sgGo l fr k t = 0 → ∀ i, t ≤ i → i < t + k → inCode (fr.getD i.toNat []).length (l.getD i.toNat S0) = 0
 | 0, t, _, i, h0, h1 => by omega
 | k + 1, t, h, i, h0, h1 => by
  simp only [sgGo] at h
  split at h
  ·rename_i h2
   by_cases hi : i = t
   ·rw [hi]; exact h2
   ·exact sgGo_ok h i (by omega) (by omega)
  ·rename_i h2; exact absurd h h2

theorem bok {vars : Int} {l : List Sg} (h : sCode vars l = 0) : 1 ≤ vars ∧ vars ≤ 6 ∧ 1 ≤ l.length ∧ l.length ≤ 8 ∧ l.all (okEnds vars l.length) = true ∧ ∀ i : Int, 0 ≤ i → i < l.length → BOK vars l.length ((sFroms l).getD i.toNat []).length (l.getD i.toNat S0) := by
 unfold sCode at h
 split at h
 ·omega
 ·rename_i hb
  simp only [largeB, Bool.or_eq_true, decide_eq_true_eq, not_or] at hb
  split at h
  ·rename_i hall
   refine ⟨by omega, by omega, by omega, by omega, hall, fun i h0 h1 => ?_⟩
   have h2 := sgGo_ok h i h0 (by omega)
   have h3 := List.all_eq_true.1 hall _ (getD_mem (d := S0) h0 h1)
   simp only [okEnds, Bool.and_eq_true, Bool.or_eq_true, decide_eq_true_eq] at h3
   unfold inCode at h2
   split at h2
   ·rename_i g1
    split at h2
    ·rename_i g2
     unfold endCode at h2
     split at h2
     ·rename_i g3
      refine ⟨fun j hj => ?_, stpsGo_ok g2, ⟨h3.1, g3.1⟩, within_mem g3.2, h3.2.1.1, h3.2.1.2, h3.2.2⟩
      have h4 := jnsGo_ok g1 j hj
      unfold jnCode at h4
      split at h4
      ·omega
      ·rename_i h5
       split at h4
       ·rename_i h6
        simp only [Bool.and_eq_true] at h6
        have a1 := within_mem h6.1 j.1 (by simp)
        exact ⟨by omega, a1.1, a1.2, within_mem h6.2⟩
       ·omega
     ·omega
    ·rename_i g2; exact absurd h2 g2
   ·rename_i g1; exact absurd h2 g1
  ·omega

end Go.Proofs.Ytoglkjmdloppcaa
