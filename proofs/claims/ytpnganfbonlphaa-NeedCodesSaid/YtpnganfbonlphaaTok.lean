/- Sound terms, one by one, and their values. -/
import Derived.Test.YtpnganfbonlphaaValue
namespace Go.Proofs.Ytpnganfbonlphaa
open Go Go.Ab S


/-- a sound term, with j terms ahead of it -/
structure TOK (vars : Int) (j : Nat) (t : Term5) : Prop where
  lo : 1 ≤ t.1
  hi : t.1 ≤ 6
  one : t.1 = 1 → isV t.2.2.2.1
  two : t.1 = 2 → 0 ≤ t.2.2.2.1 ∧ t.2.2.2.1 < vars
  more : t.1 > 2 → 0 ≤ t.2.1 ∧ t.2.1 < j ∧ 0 ≤ t.2.2.1 ∧ t.2.2.1 < j

theorem tok_of {vars : Int} : ∀ (r : List Term5) (n : Nat), termGo vars r n = 0 → ∀ i, i < r.length → TOK vars (n + i) (r.getD i T0)
  | (op, a, b, k, _) :: r, n, h, i, hi => by
    obtain ⟨h1, h2, h3, h4, h5, h6⟩ := termGo_cons h
    cases i with
    | zero => exact ⟨h1, h2, h3, h4, fun ho => by have := h5 ho; simp; omega⟩
    | succ i =>
      have := tok_of r (n + 1) (by simpa using h6) i (by simpa using hi)
      rw [show n + (i + 1) = n + 1 + i by omega]
      simpa using this
theorem of_tok {vars : Int} : ∀ (r : List Term5) (n : Nat), (∀ i, i < r.length → TOK vars (n + i) (r.getD i T0)) → termGo vars r n = 0
  | [], _, _ => rfl
  | (op, a, b, k, _) :: r, n, h => by
    have h0 := h 0 (by simp)
    obtain ⟨h1, h2, h3, h4, h5⟩ := h0
    simp only [List.getD_cons_zero] at h1 h2 h3 h4 h5
    have ih := of_tok r (n + 1) fun i hi => by
      have := h (i + 1) (by simpa using hi)
      rw [show n + 1 + i = n + (i + 1) by omega]
      simpa using this
    have h3' : op = 1 → 0 ≤ k ∧ k ≤ 255 := h3
    simp only [termGo]
    rw [if_neg (by omega), if_neg (by omega), if_neg (by omega)]
    simpa using ih

/-- the values of terms -/
def IsVal (hv : List Int) (l : List Term5) (V : List Int) : Prop := V.length = l.length ∧ ∀ j, j < l.length → V.getD j 0 = valOne hv (l.getD j T0) V

theorem getD_left {v w : List Int} {i : Int} (h0 : 0 ≤ i) (h1 : i < v.length) : (v ++ w).getD i.toNat 0 = v.getD i.toNat 0 := by
  rw [List.getD_eq_getElem?_getD, List.getD_eq_getElem?_getD, List.getElem?_append_left (by omega)]
theorem valOne_app {vars : Int} {hv v w : List Int} {t : Term5} (h : TOK vars v.length t) : valOne hv t (v ++ w) = valOne hv t v := by
  unfold valOne
  split
  · rfl
  · split
    · rfl
    · rename_i h1 h2
      obtain ⟨a, b, c, d⟩ := h.more (by have := h.lo; omega)
      rw [getD_left a b, getD_left c d]

theorem valGo_app (hv : List Int) : ∀ (l : List Term5) (v : List Int), ∃ w, valGo hv l v = v ++ w
  | [], v => ⟨[], by simp [valGo]⟩
  | t :: r, v => by
    obtain ⟨w, h⟩ := valGo_app hv r (v ++ [valOne hv t v])
    exact ⟨[valOne hv t v] ++ w, by rw [valGo, h, List.append_assoc]⟩
theorem valGo_at {vars : Int} (hv : List Int) : ∀ (l : List Term5) (v : List Int), (∀ i, i < l.length → TOK vars (v.length + i) (l.getD i T0)) → ∀ i, i < l.length → (valGo hv l v).getD (v.length + i) 0 = valOne hv (l.getD i T0) (valGo hv l v)
  | t :: r, v, h, i, hi => by
    have h0 := h 0 (by simp)
    cases i with
    | zero =>
      obtain ⟨w, hw⟩ := valGo_app hv r (v ++ [valOne hv t v])
      rw [valGo, hw]
      simp only [List.getD_cons_zero, Nat.add_zero] at h0 ⊢
      rw [List.append_assoc, valOne_app h0]
      simp
    | succ i =>
      have := valGo_at hv r (v ++ [valOne hv t v]) (fun i hi => by
        have := h (i + 1) (by simpa using hi)
        simp only [List.length_append, List.length_singleton]
        rw [show v.length + 1 + i = v.length + (i + 1) by omega]
        simpa using this) i (by simpa using hi)
      rw [valGo]
      simp only [List.length_append, List.length_singleton] at this
      rw [show v.length + (i + 1) = v.length + 1 + i by omega, this]
      rfl
theorem isVal_of {vars : Int} {hv : List Int} {l : List Term5} (h : ∀ i, i < l.length → TOK vars i (l.getD i T0)) : IsVal hv l (valGo hv l []) :=
  ⟨by rw [valGo_len]; simp, fun j hj => by
    have := valGo_at (vars := vars) hv l [] (by simpa using h) j hj
    simpa using this⟩

theorem valGo_cat (hv : List Int) : ∀ (l r : List Term5) (v : List Int), valGo hv (l ++ r) v = valGo hv r (valGo hv l v)
  | [], _, _ => rfl
  | t :: l, r, v => by rw [List.cons_append, valGo, valGo, valGo_cat hv l r]
/-- what a term stands for -/
def vat (hv : List Int) (l : List Term5) (i : Int) : Int := (valGo hv l []).getD i.toNat 0
theorem vat_pre {hv : List Int} {l l' : List Term5} (h : l <+: l') {i : Int} (h0 : 0 ≤ i) (h1 : i < l.length) : vat hv l' i = vat hv l i := by
  obtain ⟨r, rfl⟩ := h
  obtain ⟨w, hw⟩ := valGo_app hv r (valGo hv l [])
  unfold vat
  rw [valGo_cat, hw, getD_left h0 (by rw [valGo_len]; simpa using h1)]
theorem vat_one {vars : Int} {hv : List Int} {l : List Term5} (h : ∀ i, i < l.length → TOK vars i (l.getD i T0)) {i : Int} (h0 : 0 ≤ i) (h1 : i < l.length) : vat hv l i = valOne hv (l.getD i.toNat T0) (valGo hv l []) := (isVal_of h).2 i.toNat (by omega)
end Go.Proofs.Ytpnganfbonlphaa
