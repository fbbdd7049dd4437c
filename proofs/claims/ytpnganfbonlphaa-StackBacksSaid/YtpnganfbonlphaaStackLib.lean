/- Code for a stack in which nothing is wrong. -/
import Derived.Test.YtpnganfbonlphaaStack
import Derived.Test.YtpnganfbonlphaaOps
namespace Go.Proofs.Ytpnganfbonlphaa
open Go Go.Ab S

theorem wrongGo_cons {vars op v : Int} {u : Unit} {r : List SOp} {deep : Int} (h : wrongGo vars ((op, v, u) :: r) deep = 0) :
    1 ≤ op ∧ op ≤ 6 ∧ (op ≤ 2 → (0 ≤ vars → 0 ≤ v ∧ (op = 1 → v ≤ 255) ∧ (op = 2 → v < vars)) ∧ wrongGo vars r (deep + 1) = 0) ∧ (¬ op ≤ 2 → 2 ≤ deep ∧ wrongGo vars r (deep - 1) = 0) := by
  simp only [wrongGo] at h
  split at h
  · omega
  · rename_i h1
    split at h
    · rename_i h2
      split at h
      · omega
      · rename_i h3
        exact ⟨by omega, by omega, fun _ => ⟨fun hv => by omega, h⟩, fun h => absurd h2 h⟩
    · rename_i h2
      split at h
      · omega
      · rename_i h3
        exact ⟨by omega, by omega, fun h => absurd h h2, fun _ => ⟨by omega, h⟩⟩

theorem wrong_len' {vars : Int} {code : List SOp} (h : wrong vars code = 0) : code.length ≤ 40 ∧ wrongGo vars code 0 = 0 ∧ vars ≤ 6 := by
  unfold wrong at h
  split at h
  · omega
  · split at h
    · omega
    · exact ⟨by omega, h, by omega⟩
theorem wrong_go {vars : Int} {code : List SOp} (h : wrong vars code = 0) : wrongGo vars code 0 = 0 := (wrong_len' h).2.1

theorem take_set (s : List Int) (r : Int) {k : Nat} (hk : k < s.length) : (s.set k r).take (k + 1) = s.take k ++ [r] := by
  rw [List.take_succ_eq_append_getElem (by simpa using hk)]
  simp [List.take_set_of_le]
end Go.Proofs.Ytpnganfbonlphaa
