/- Where something stands in a list. -/
import Derived.Test.YtbmjodcgjhgpeaaLib
namespace Go.Proofs.Ytbmjodcgjhgpeaa
open Go Go.Ab

def posI (l : List Int) (x : Int) : Int := if x ∈ l then (l.idxOf x : Int) else -1
theorem posI_pos {l : List Int} {x : Int} : 0 ≤ posI l x ↔ x ∈ l := by
  unfold posI; split
  · rename_i h; exact ⟨fun _ => h, fun _ => by omega⟩
  · rename_i h; exact ⟨fun h => by omega, fun h' => absurd h' h⟩
theorem posI_in {l : List Int} {x : Int} (h : x ∈ l) : posI l x = (l.idxOf x : Int) := if_pos h
theorem posI_out {l : List Int} {x : Int} (h : x ∉ l) : posI l x = -1 := if_neg h
theorem posI_snoc {l : List Int} {i : Int} (h : i ∉ l) (x : Int) : posI (l ++ [i]) x = if x = i then (l.length : Int) else posI l x := by
  unfold posI
  by_cases hx : x = i
  · subst hx
    rw [if_pos rfl, if_pos (by simp), List.idxOf_append, if_neg h]
    simp
  · rw [if_neg hx]
    simp only [List.mem_append, List.mem_singleton, hx, or_false]
    split
    · rename_i h1; rw [List.idxOf_append, if_pos h1]
    · rfl
theorem goL_pos {x : Int} (step : Int → Int → Unit → (Unit → Option (Int × Unit)) → Option (Int × Unit)) (h : ∀ y t k, step y t () k = if y = x then some (t, ()) else k ()) : ∀ (l : List Int) (t : Int),
    goL step (fun _ => some (-1, ())) l t () = some (if x ∈ l then t + (l.idxOf x : Int) else -1, ())
  | [], t => rfl
  | y :: r, t => by
    simp only [goL, h, goL_pos step h r]
    by_cases hy : y = x
    · subst hy; simp
    · have hyx : ¬ x = y := fun h => hy h.symm
      simp only [hy, if_false, List.mem_cons, hyx, false_or, List.idxOf_cons]
      have : (y == x) = false := by simpa using hy
      rw [this]
      split
      · simp; omega
      · rfl
theorem take_snoc {α : Type} {l : List α} {t : Int} {d : α} (h0 : 0 ≤ t) (h1 : t < l.length) : l.take (t + 1).toNat = l.take t.toNat ++ [l.getD t.toNat d] := by
  rw [show (t + 1).toNat = t.toNat + 1 by omega, List.take_succ_eq_append_getElem (by omega), getD_nat l t d h0 h1]
end Go.Proofs.Ytbmjodcgjhgpeaa
