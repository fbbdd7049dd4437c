/- Ways: who is on each way to whom. -/
import Derived.Test.YtccbcbhiblohgaaPath
import Derived.Test.YtccbcbhiblohgaaBits
namespace Go.Proofs.Ytccbcbhiblohgaa
open Go Go.Ab S

variable {next : List (List Int)} {nf : Nat}

/-- one comes to j from the first node -/
def Come (next : List (List Int)) (j : Int) : Prop := Path next (-1) 0 j
/-- i is on each way to j -/
def Dom (next : List (List Int)) (i j : Int) : Prop := Come next i ∧ Come next j ∧ ¬ Path next i 0 j

theorem path_good (hW : WayOK next) {wo i j : Int} (hi : 0 ≤ i ∧ i < next.length) (h : Path next wo i j) : 0 ≤ j ∧ j < next.length := by
  induction h with
  | here _ => exact hi
  | step _ h2 _ ih => exact hW.good _ (nexts_mem ih.1 ih.2) _ h2
theorem path_come (hW : WayOK next) {wo i j : Int} (hi : 0 ≤ i ∧ i < next.length) (h : Path next wo i j) : Path next (-1) i j := by
  induction h with
  | here _ => exact .here (by omega)
  | step h1 h2 _ ih => exact .step ih h2 (by have := hW.good _ (nexts_mem (path_good hW hi h1).1 (path_good hW hi h1).2) _ h2; omega)
theorem zero_good (hW : WayOK next) : (0 : Int) ≤ 0 ∧ (0 : Int) < next.length := ⟨Int.le_refl _, by have := hW.pos; omega⟩
theorem come_good (hW : WayOK next) {j : Int} (h : Come next j) : 0 ≤ j ∧ j < next.length := path_good hW (zero_good hW) h
theorem come_zero : Come next 0 := .here (by decide)
theorem come_next (hW : WayOK next) {i j : Int} (h : Come next i) (hj : j ∈ nexts next i) : Come next j :=
  .step h hj (by have := hW.good _ (nexts_mem (come_good hW h).1 (come_good hW h).2) _ hj; omega)
theorem no_path {i j : Int} : ¬ Path next i i j := fun h => by
  induction h with
  | here h => exact h rfl
  | step _ _ _ ih => exact ih
theorem dom_zero {j : Int} (hj : Come next j) : Dom next 0 j := ⟨come_zero, hj, no_path⟩
theorem no_dom {i j : Int} (h : Path next i 0 j) : j ≠ i := by
  cases h with
  | here h => exact h
  | step _ _ h => exact h
theorem dom_self {j : Int} (hj : Come next j) : Dom next j j := ⟨hj, hj, fun h => no_dom h rfl⟩
theorem dom_back {k i j : Int} (hi : Come next i) (hj : j ∈ nexts next i) (h : Dom next k j) : Dom next k i ∨ k = j := by
  by_cases hk : j = k
  · exact .inr hk.symm
  · exact .inl ⟨h.1, hi, fun hp => h.2.2 (.step hp hj hk)⟩

theorem reachw (hW : WayOK next) {i wo : Int} (hi : 0 ≤ i ∧ i < next.length) (k : Nat) : W32 (wd (reach nf next i wo)) ∧ bt (wd (reach nf next i wo)) k = decide ((k : Int) ∈ reach nf next i wo) := by
  have hN := reach_nodes (nf := nf) (wo := wo) hW hi
  have h8 := hW.few
  have : ∀ x ∈ reach nf next i wo, 0 ≤ x ∧ x < 32 := fun x hx => by have := hN.good x hx; omega
  exact ⟨wd_w this, wd_bt this k⟩

/-- what is so of the words all the time -/
structure RI (next : List (List Int)) (r : List Int) : Prop where
  len : r.length = next.length
  w : ∀ j : Int, 0 ≤ j → j < next.length → W32 (r.getD j.toNat 0)
  out : ∀ j : Int, 0 ≤ j → j < next.length → ¬ Come next j → r.getD j.toNat 0 = 0
  come : ∀ j : Int, 0 ≤ j → j < next.length → ∀ k : Nat, bt (r.getD j.toNat 0) k = true → Come next k
  dom : ∀ j : Int, 0 ≤ j → j < next.length → ∀ k : Nat, Dom next k j → bt (r.getD j.toNat 0) k = true
  zero : r.getD 0 0 = 1

/-- the word of j by an edge from i -/
def less (r : List Int) (i j : Int) : Int := and32 (r.getD j.toNat 0) (or32 (r.getD i.toNat 0) (shlI .u32 1 j))

theorem less_bt {r : List Int} (h : RI next r) (hW : WayOK next) {i j : Int} (hi : 0 ≤ i ∧ i < next.length) (hj : 0 ≤ j ∧ j < next.length) (k : Nat) :
    bt (less r i j) k = (bt (r.getD j.toNat 0) k && (bt (r.getD i.toNat 0) k || decide (k = j.toNat))) := by
  have := hW.few
  unfold less
  rw [and32_bt (h.w j hj.1 hj.2) (or32_w _ _), or32_bt (h.w i hi.1 hi.2) (one_w hj.1 (by omega)), one_bt hj.1 (by omega)]

theorem RI.step {r : List Int} (h : RI next r) (hW : WayOK next) {i j : Int} (hc : Come next i) (hj : j ∈ nexts next i) : RI next (r.set j.toNat (less r i j)) := by
  have hi := come_good hW hc
  have hjc := come_next hW hc hj
  have hjr := come_good hW hjc
  have hl := h.len
  have hg : ∀ y : Nat, (r.set j.toNat (less r i j)).getD y 0 = if y = j.toNat then less r i j else r.getD y 0 := fun y => getD_upd (by omega) y
  refine ⟨by simp [hl], fun x a b => ?_, fun x a b hx => ?_, fun x a b k hk => ?_, fun x a b k hk => ?_, ?_⟩
  · rw [hg]; split
    · exact and32_w _ _
    · exact h.w x a b
  · rw [hg]; split
    · exact absurd (show Come next x by rw [show x = j by omega]; exact hjc) hx
    · exact h.out x a b hx
  · rw [hg] at hk
    split at hk
    · rw [less_bt h hW hi hjr, Bool.and_eq_true] at hk
      exact h.come j hjr.1 hjr.2 k hk.1
    · exact h.come x a b k hk
  · rw [hg]
    split
    · have hxj : x = j := by omega
      subst hxj
      rw [less_bt h hW hi hjr, h.dom x a b k hk, Bool.true_and]
      rcases dom_back hc hj hk with h1 | h1
      · rw [h.dom i hi.1 hi.2 k h1]; rfl
      · rw [decide_eq_true (show k = x.toNat by omega), Bool.or_true]
    · exact h.dom x a b k hk
  · rw [hg]
    split
    · rename_i h0
      have hj0 : j = 0 := by omega
      subst hj0
      have hz := zero_good hW
      refine bt_ext (and32_w _ _) W32_one fun k _ => ?_
      rw [less_bt h hW hi hz, show ((0 : Int).toNat) = 0 from rfl, h.zero, bt_one]
      cases decide (k = 0) <;> simp
    · exact h.zero

/-- nothing is left to do at the edge -/
def Done (r : List Int) (i j : Int) : Prop := less r i j = r.getD j.toNat 0

theorem RI.fin {r : List Int} (h : RI next r) (hW : WayOK next) (hd : ∀ i, Come next i → ∀ j ∈ nexts next i, Done r i j) (j : Int) (hj : 0 ≤ j ∧ j < next.length) (k : Nat) : bt (r.getD j.toNat 0) k = true ↔ Dom next k j := by
  constructor
  · intro hb
    have hjc : Come next j := by
      apply Classical.byContradiction
      intro hn
      rw [h.out j hj.1 hj.2 hn, bt_zero] at hb
      cases hb
    refine ⟨h.come j hj.1 hj.2 k hb, hjc, fun hp => ?_⟩
    have key : ∀ x, Path next k 0 x → bt (r.getD x.toNat 0) k = true → False := by
      intro x hx
      induction hx with
      | here h0 =>
        intro hb
        rw [show ((0 : Int).toNat) = 0 from rfl, h.zero, bt_one] at hb
        have : k = 0 := by simpa using hb
        exact h0 (by omega)
      | @step x y h1 h2 h3 ih =>
        intro hb
        have hxc : Come next x := path_come hW (zero_good hW) h1
        have hy := come_good hW (come_next hW hxc h2)
        have := hd x hxc y h2
        unfold Done at this
        rw [← this, less_bt h hW (come_good hW hxc) hy, Bool.and_eq_true, Bool.or_eq_true] at hb
        rcases hb.2 with hb | hb
        · exact ih hb
        · have : k = y.toNat := by simpa using hb
          exact h3 (by omega)
    exact key j hp hb
  · exact h.dom j hj.1 hj.2 k

/-- how much is left -/
def total (r : List Int) : Nat := (r.map Int.toNat).sum
theorem total_set : ∀ {r : List Int} {j : Nat} {x : Int}, j < r.length → total (r.set j x) + (r.getD j 0).toNat = total r + x.toNat
  | a :: r, 0, x, _ => by simp only [total, List.set_cons_zero, List.map_cons, List.sum_cons, List.getD_cons_zero]; omega
  | a :: r, j + 1, x, h => by
    have ih := total_set (r := r) (j := j) (x := x) (by simpa using h)
    simp only [total, List.set_cons_succ, List.map_cons, List.sum_cons, List.getD_cons_succ] at ih ⊢
    omega
theorem and32_le {x y : Int} (hx : W32 x) (hy : W32 y) : (and32 x y).toNat ≤ x.toNat := by
  rw [and32_eq, Int.toNat_natCast, BitVec.toNat_and, ofInt_nat hx, ofInt_nat hy]
  exact Nat.and_le_left
theorem less_total {r : List Int} (h : RI next r) {i j : Int} (hi : 0 ≤ i ∧ i < next.length) (hj : 0 ≤ j ∧ j < next.length) (hd : ¬ Done r i j) : total (r.set j.toNat (less r i j)) < total r := by
  have hl := h.len
  have h1 := total_set (r := r) (j := j.toNat) (x := less r i j) (by omega)
  have h2 := and32_le (h.w j hj.1 hj.2) (or32_w (r.getD i.toNat 0) (shlI .u32 1 j))
  have h3 : less r i j ≠ r.getD j.toNat 0 := hd
  have h4 := (and32_w (r.getD j.toNat 0) (or32 (r.getD i.toNat 0) (shlI .u32 1 j))).1
  have h5 := (h.w j hj.1 hj.2).1
  unfold less at *
  omega
theorem total_le : ∀ {r : List Int}, (∀ x ∈ r, W32 x) → total r ≤ r.length * 4294967296
  | [], _ => by simp [total]
  | a :: r, h => by
    have ih := total_le (r := r) fun x hx => h x (by simp [hx])
    have := h a (by simp)
    simp only [total, List.map_cons, List.sum_cons, List.length_cons] at ih ⊢
    unfold W32 at this
    omega
end Go.Proofs.Ytccbcbhiblohgaa
