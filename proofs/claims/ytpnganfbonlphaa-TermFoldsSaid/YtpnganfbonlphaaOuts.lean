/- What is chosen out of a list, and numbered anew. -/
import Derived.Test.YtpnganfbonlphaaTerms
namespace Go.Proofs.Ytpnganfbonlphaa
open Go Go.Ab S

/-- what is chosen, in order -/
def outs {α : Type} (p : Nat → Bool) (f : Nat → α) : Nat → List α
  | 0 => []
  | n + 1 => outs p f n ++ (if p n then [f n] else [])
theorem outs_len {α : Type} {p : Nat → Bool} {f : Nat → α} : ∀ n, (outs p f n).length = cnt p n
  | 0 => rfl
  | n + 1 => by simp only [outs, cnt, List.length_append, outs_len n]; split <;> simp
theorem outs_congr {α : Type} {p : Nat → Bool} {f g : Nat → α} : ∀ {n}, (∀ j, j < n → p j = true → f j = g j) → outs p f n = outs p g n
  | 0, _ => rfl
  | n + 1, h => by
    simp only [outs]
    rw [outs_congr fun j hj => h j (by omega)]
    split
    · rename_i hp; rw [h n (by omega) hp]
    · rfl
theorem outs_map {α β : Type} {p : Nat → Bool} {f : Nat → α} (g : α → β) : ∀ {n}, (outs p f n).map g = outs p (fun j => g (f j)) n
  | 0 => rfl
  | n + 1 => by simp only [outs, List.map_append, outs_map g]; split <;> rfl
theorem outs_filter {α : Type} (p : Nat → Bool) (f : Nat → α) : ∀ n, ((List.range n).filter p).map f = outs p f n
  | 0 => rfl
  | n + 1 => by
    rw [List.range_succ, List.filter_append, List.map_append, outs_filter p f n]
    simp only [outs, List.filter_cons, List.filter_nil]
    split <;> rfl
theorem outs_cut {α : Type} {p : Nat → Bool} {f : Nat → α} {n : Nat} : ∀ {m}, n ≤ m → (∀ j, n ≤ j → j < m → p j = false) → outs p f m = outs p f n
  | 0, h, _ => by rw [show n = 0 by omega]
  | m + 1, h, hp => by
    by_cases hn : n = m + 1
    · rw [hn]
    · simp only [outs]
      rw [outs_cut (m := m) (by omega) fun j h1 h2 => hp j h1 (by omega), hp m (by omega) (by omega)]
      simp
theorem cnt_mono {p : Nat → Bool} {m : Nat} : ∀ {n}, m ≤ n → cnt p m ≤ cnt p n
  | 0, h => by rw [show m = 0 by omega]; exact Nat.le_refl _
  | n + 1, h => by
    by_cases hm : m = n + 1
    · rw [hm]; exact Nat.le_refl _
    · have := cnt_mono (p := p) (m := m) (n := n) (by omega)
      simp only [cnt]; omega

/-- a term among the chosen ones -/
def renT (p : Nat → Bool) (t : Term5) : Term5 := if t.1 > 2 then (t.1, (cnt p t.2.1.toNat : Nat), (cnt p t.2.2.1.toNat : Nat), t.2.2.2.1, ()) else t


theorem cnt_strict {p : Nat → Bool} {a b : Nat} (h : a < b) (hp : p a = true) : cnt p a < cnt p b := by
  have h1 := cnt_mono (p := p) (m := a + 1) (n := b) (by omega)
  simp only [cnt, hp, if_true] at h1
  omega

theorem outs_get {α : Type} {p : Nat → Bool} {f : Nat → α} {d : α} {j : Nat} (hp : p j = true) : ∀ {n}, j < n → (outs p f n).getD (cnt p j) d = f j
  | n + 1, h => by
    simp only [outs]
    by_cases hj : j = n
    · subst hj
      rw [hp, if_pos rfl, List.getD_eq_getElem?_getD, List.getElem?_append_right (by rw [outs_len]; exact Nat.le_refl _), outs_len]
      simp
    · have := cnt_strict (p := p) (show j < n by omega) hp
      rw [List.getD_eq_getElem?_getD, List.getElem?_append_left (by rw [outs_len]; exact this), ← List.getD_eq_getElem?_getD]
      exact outs_get hp (by omega)

theorem cnt_surj {p : Nat → Bool} {i : Nat} : ∀ {n}, i < cnt p n → ∃ j, j < n ∧ p j = true ∧ cnt p j = i
  | 0, h => by simp [cnt] at h
  | n + 1, h => by
    by_cases hi : i < cnt p n
    · obtain ⟨j, h1, h2, h3⟩ := cnt_surj hi
      exact ⟨j, by omega, h2, h3⟩
    · simp only [cnt] at h
      cases hp : p n with
      | false => rw [hp] at h; simp at h; omega
      | true => rw [hp] at h; simp at h; exact ⟨n, by omega, hp, by omega⟩
end Go.Proofs.Ytpnganfbonlphaa
