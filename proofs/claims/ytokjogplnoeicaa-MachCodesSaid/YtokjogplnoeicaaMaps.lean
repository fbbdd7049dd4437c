/- Maps. -/
import Derived.Test.YtokjogplnoeicaaAbLaw
namespace Go.Ab
open Go

section
variable {k e : Ty}

theorem eqD_iff (hk : flat k = true) (x y : den k) : eqD k x y = true ↔ x = y :=
 ⟨eqD_eq k x y hk, fun h => h ▸ eqD_refl k x hk⟩

theorem getM_ins (hk : flat k = true) : ∀ (m : List (den k × den e)) (y : den k) (v : den e) (z : den k), getM k e (insM k e m y v) z = match eqD k y z with | true => some v | false => getM k e m z
 | [], y, v, z => by
  simp only [insM, getM]
  cases eqD k y z <;> rfl
 | p :: r, y, v, z => by
  simp only [insM]
  cases h1 : eqD k p.1 y with
  | true =>
   simp only [getM]
   have := eqD_eq k _ _ hk h1
   rw [this]
   cases eqD k y z <;> rfl
  | false =>
   simp only [getM]
   rw [getM_ins hk r y v z]
   cases h2 : eqD k p.1 z with
   | false => rfl
   | true =>
    have := eqD_eq k _ _ hk h2
    subst this
    have : eqD k y p.1 = false := by
     cases h3 : eqD k y p.1 with
     | false => rfl
     | true => rw [eqD_eq k _ _ hk h3, eqD_refl k _ hk] at h1; cases h1
    rw [this]

theorem getM_ins_same (hk : flat k = true) (m : List (den k × den e)) (y : den k) (v : den e) : getM k e (insM k e m y v) y = some v := by
 rw [getM_ins hk, eqD_refl k y hk]
theorem getM_ins_ne (hk : flat k = true) (m : List (den k × den e)) {y z : den k} (v : den e) (h : y ≠ z) : getM k e (insM k e m y v) z = getM k e m z := by
 rw [getM_ins hk]
 cases h3 : eqD k y z with
 | false => rfl
 | true => exact absurd (eqD_eq k _ _ hk h3) h

end
end Go.Ab
