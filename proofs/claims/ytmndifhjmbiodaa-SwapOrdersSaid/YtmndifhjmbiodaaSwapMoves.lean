/- Moves: what is wrong with them, and what swap.build makes of them. -/
import Derived.Test.YtmndifhjmbiodaaFn1
import Derived.Test.YtmndifhjmbiodaaSwapFree
namespace Go.Proofs.Ytmndifhjmbiodaa
open Go Go.Ab S

abbrev Mv := Int × Int × Unit
/-- from where a register is filled -/
def mf : List Mv → Int → Int
  | [], r => r
  | p :: l, r => if p.1 = r then p.2.1 else mf l r

theorem mf_F {nf : Nat} (l : List Mv) (r : Int) (hl : l.length ≤ maxLen) (hf : l.length < nf) : ref_MoveFrom_f nf l r = some (mf l r, ()) := by
  have h := loop_all (l := l) (d := (0, 0, ())) (F := fun fu t (_ : Unit) => ref_MoveFrom_l0 nf l r fu t) (fin := fun _ => some (r, ()))
    (step := fun p _ s k => bif p.1 == r then some (p.2.1, ()) else k s) ?_ ?_ nf () hf
  · show ref_MoveFrom_l0 nf l r nf 0 = _
    rw [show ref_MoveFrom_l0 nf l r nf 0 = _ from h]
    have key : ∀ (l : List Mv) (t : Int), goL (fun p _ (s : Unit) k => bif p.1 == r then some (p.2.1, ()) else k s) (fun _ => some (r, ())) l t () = some (mf l r, ()) := by
      intro l
      induction l with
      | nil => intro t; rfl
      | cons p q ih =>
        intro t
        simp only [goL, mf, ih]
        by_cases h1 : p.1 = r
        · simp [h1]
        · simp [h1, beq_f h1]
    exact key l 0
  · intro fu t s a b
    simp only [ref_MoveFrom_l0, ref_MoveFrom_b0, inb_ok a b, wrap_step a b hl, b, decide_true, cond_true]
  · intro fu t s a
    simp [ref_MoveFrom_l0, ref_MoveFrom_b0, a]

/-- do all registers lie inside? -/
def insB (n : Int) (l : List Mv) : Bool := l.all fun p => decide (0 ≤ p.1 ∧ p.1 < n ∧ 0 ≤ p.2.1 ∧ p.2.1 < n)
/-- is the register of move i filled by none before it? -/
def newAt (l : List Mv) (i : Int) : Bool := (l.take i.toNat).all fun q => decide (q.1 ≠ (l.getD i.toNat (0, 0, ())).1)
/-- what is wrong with moves -/
def mvCode (n : Int) (l : List Mv) : Int := if n < 1 ∨ n > 8 ∨ l.length > 8 then 1 else if insB n l = false then 2 else if chk (newAt l) l.length 0 = false then 3 else 0

theorem insB_mem {n : Int} {l : List Mv} (h : insB n l = true) {p : Mv} (hp : p ∈ l) : 0 ≤ p.1 ∧ p.1 < n ∧ 0 ≤ p.2.1 ∧ p.2.1 < n :=
  of_decide_eq_true (List.all_eq_true.1 h p hp)

theorem chk_all {P : Mv → Bool} (l : List Mv) : chk (fun t => P (l.getD t.toNat (0, 0, ()))) l.length 0 = l.all P := by
  rw [Bool.eq_iff_iff, chk_iff, List.all_eq_true]
  constructor
  · intro h x hx
    obtain ⟨i, hi, rfl⟩ := List.mem_iff_getElem.1 hx
    have := h i (by omega) (by omega)
    simpa [List.getD, hi] using this
  · intro h i h0 h1
    exact h _ (getD_mem h0 (by omega))

theorem build_l0 {nf : Nat} (hn : 20 ≤ nf) {regs : Int} (h1 : 1 ≤ regs) (h8 : regs ≤ 8) {l : List Mv} (hl : l.length ≤ 8) (s : List Int × List Int × Unit) :
    swap_build_l0 nf regs l nf s 0 = bif insB regs l then swap_build_l2 nf l s nf (List.replicate regs.toNat false) s 0 else some (none, 2, ()) := by
  have hlim : regs ≤ (lim : Int) := by have : lim = 4294967296 := rfl; omega
  have key := loop_chk (n := l.length) (F := fun fu t => swap_build_l0 nf regs l fu s t) (yes := swap_build_l2 nf l s nf (List.replicate regs.toNat false) s 0) (no := some (none, 2, ()))
    (fun t => decide (0 ≤ (l.getD t.toNat (0, 0, ())).1 ∧ (l.getD t.toNat (0, 0, ())).1 < regs ∧ 0 ≤ (l.getD t.toNat (0, 0, ())).2.1 ∧ (l.getD t.toNat (0, 0, ())).2.1 < regs)) (fun fu t h0 ht => by
      rw [swap_build_l0, swap_build_b0, inb_ok h0 ht, wrap_step h0 ht (Nat.le_trans hl (by decide))]
      simp only [ht, decide_true, cond_true]
      generalize l.getD t.toNat (0, 0, ()) = x
      obtain ⟨a, b, _⟩ := x
      have e3 : (if b < a then b else a) < 0 ↔ a < 0 ∨ b < 0 := by split <;> omega
      have e4 : (if b > a then b else a) ≥ regs ↔ a ≥ regs ∨ b ≥ regs := by split <;> omega
      simp only [e3, e4]
      by_cases c1 : a < 0 ∨ b < 0
      · simp [c1, show ¬ (0 ≤ a ∧ a < regs ∧ 0 ≤ b ∧ b < regs) by omega]
      · by_cases c2 : a ≥ regs ∨ b ≥ regs
        · simp [c1, c2, show ¬ (0 ≤ a ∧ a < regs ∧ 0 ≤ b ∧ b < regs) by omega]
        · simp [c1, c2, show (0 ≤ a ∧ a < regs ∧ 0 ≤ b ∧ b < regs) by omega]) (fun fu => by
      rw [swap_build_l0, swap_build_b0]
      simp only [Int.lt_irrefl, decide_false, cond_false, show (0 : Int) ≤ regs by omega, Int.le_refl, hlim, decide_true, Bool.and_self, cond_true]) nf 0 (by omega) (by omega) (by omega)
  rw [show ((l.length : Int) - 0).toNat = l.length by omega] at key
  rw [key, chk_all (P := fun p => decide (0 ≤ p.1 ∧ p.1 < regs ∧ 0 ≤ p.2.1 ∧ p.2.1 < regs))]
  rfl

theorem build_l2 {nf : Nat} (hn : 20 ≤ nf) {l : List Mv} {s : List Int × List Int × Unit} (h8 : s.1.length ≤ 8) (given : List Bool) :
    ∃ F : List Int, F.length = s.1.length ∧ (∀ j : Nat, j < s.1.length → F.getD j 0 = j) ∧ swap_build_l2 nf l s nf given s 0 = swap_build_l4 nf l nf given (F, s.2) 0 := by
  obtain ⟨fu', q, ⟨q1, q2, q3⟩, e⟩ := loop_inv (n := s.1.length) (F := fun fu t (q : List Int × List Int × Unit) => swap_build_l2 nf l s fu given q t)
    (fun t q => q.1.length = s.1.length ∧ (∀ j : Nat, (j : Int) < t → q.1.getD j 0 = j) ∧ q.2 = s.2) (fun fu t q h0 ht hI => by
      obtain ⟨i1, i2, i3⟩ := hI
      refine ⟨(q.1.set t.toNat t, q.2), ?_, by simpa using i1, fun j hj => ?_, i3⟩
      · rw [swap_build_l2, swap_build_b2, inb_ok (n := List.length q.1) h0 (by omega), wrap_step h0 ht (Nat.le_trans h8 (by decide))]
        simp only [ht, decide_true, cond_true]
      · show (q.1.set t.toNat t).getD j 0 = j
        rw [getD_upd (by omega)]
        split
        · omega
        · exact i2 j (by omega)) nf 0 s (by omega) (by omega) (by omega) ⟨rfl, fun j hj => by omega, rfl⟩
  refine ⟨q.1, q1, fun j hj => q2 j (by omega), ?_⟩
  rw [e, swap_build_l2, swap_build_b2]
  simp only [Int.lt_irrefl, decide_false, cond_false]
  rw [← q3]

theorem mf_take {l : List Mv} {t : Nat} (ht : t < l.length) (hnew : ∀ j : Nat, j < t → (l.getD j (0, 0, ())).1 ≠ (l.getD t (0, 0, ())).1) (r : Int) :
    mf (l.take (t + 1)) r = if r = (l.getD t (0, 0, ())).1 then (l.getD t (0, 0, ())).2.1 else mf (l.take t) r := by
  have app : ∀ (a : List Mv) (p : Mv), (∀ q ∈ a, q.1 ≠ p.1) → mf (a ++ [p]) r = if r = p.1 then p.2.1 else mf a r := by
    intro a p
    induction a with
    | nil =>
      intro _
      simp only [List.nil_append, mf]
      by_cases h : p.1 = r
      · rw [if_pos h, if_pos h.symm]
      · rw [if_neg h, if_neg (fun e => h e.symm)]
    | cons q a ih =>
      intro hq
      simp only [List.cons_append, mf]
      rw [ih fun x hx => hq x (by simp [hx])]
      have := hq q (by simp)
      by_cases h1 : q.1 = r
      · rw [if_pos h1, if_pos h1, if_neg (fun h => this (h1.trans h))]
      · rw [if_neg h1, if_neg h1]
  rw [List.take_succ_eq_append_getElem ht, show l.getD t (0, 0, ()) = l[t] by simp [List.getD, ht]]
  refine app _ _ fun q hq => ?_
  obtain ⟨j, hj, rfl⟩ := List.mem_iff_getElem.1 hq
  rw [List.length_take] at hj
  have := hnew j (by omega)
  simpa [List.getD, ht, show j < l.length by omega] using this

theorem newAt_iff {l : List Mv} {t : Nat} (ht : t < l.length) : newAt l t = true ↔ ∀ j : Nat, j < t → (l.getD j (0, 0, ())).1 ≠ (l.getD t (0, 0, ())).1 := by
  unfold newAt
  rw [Int.toNat_natCast, List.all_eq_true]
  constructor
  · intro h j hj
    have hm : l.getD j (0, 0, ()) ∈ l.take t := by
      rw [List.mem_iff_getElem]
      exact ⟨j, by rw [List.length_take]; omega, by simp [List.getD, show j < l.length by omega]⟩
    exact of_decide_eq_true (h _ hm)
  · intro h q hq
    obtain ⟨j, hj, rfl⟩ := List.mem_iff_getElem.1 hq
    rw [List.length_take] at hj
    have := h j (by omega)
    exact decide_eq_true (by simpa [List.getD, show j < l.length by omega] using this)

theorem build_l4 {nf : Nat} (hn : 20 ≤ nf) {n : Nat} {l : List Mv} (hl : l.length ≤ 8) (hin : insB n l = true) {F : List Int} (hF : F.length = n) (hid : ∀ j : Nat, j < n → F.getD j 0 = j) (s2 : List Int × Unit) :
    (chk (newAt l) l.length 0 = true → ∃ G : List Int, G.length = n ∧ (∀ r : Nat, r < n → G.getD r 0 = mf l r) ∧ swap_build_l4 nf l nf (List.replicate n false) (F, s2) 0 = swap_build_l6 nf (G, s2) nf (G, s2) 0) ∧
    (chk (newAt l) l.length 0 = false → swap_build_l4 nf l nf (List.replicate n false) (F, s2) 0 = some (none, 3, ())) := by
  have key := loop_exit (n := l.length) (F := fun fu t (q : List Bool × List Int × List Int × Unit) => swap_build_l4 nf l fu q.1 q.2 t) (no := some (none, 3, ()))
    (newAt l) (fun t q => q.1.length = n ∧ q.2.1.length = n ∧ q.2.2 = s2 ∧ (∀ r : Nat, r < n → (q.1.getD r false = true ↔ ∃ j : Nat, (j : Int) < t ∧ (l.getD j (0, 0, ())).1 = r)) ∧ ∀ r : Nat, r < n → q.2.1.getD r 0 = mf (l.take t.toNat) r)
    ?_ ?_ nf 0 (List.replicate n false, F, s2) (by omega) (by omega) (by omega) ⟨by simp, hF, rfl, fun r hr => by
      constructor
      · intro h
        rw [List.getD_eq_getElem?_getD, List.getElem?_replicate] at h
        split at h <;> simp at h
      · rintro ⟨j, hj, _⟩; omega, fun r hr => by simpa [mf] using hid r hr⟩
  · rw [show ((l.length : Int) - 0).toNat = l.length by omega] at key
    refine ⟨fun h => ?_, key.2⟩
    obtain ⟨fu', q, ⟨q1, q2, q3, q4, q5⟩, e⟩ := key.1 h
    rw [Int.toNat_natCast, List.take_length] at q5
    refine ⟨q.2.1, q2, q5, ?_⟩
    rw [e, swap_build_l4, swap_build_b4]
    simp only [Int.lt_irrefl, decide_false, cond_false]
    rw [← q3]
  · intro fu t q h0 ht hI hg
    obtain ⟨i1, i2, i3, i4, i5⟩ := hI
    obtain ⟨t, rfl⟩ : ∃ k : Nat, t = (k : Int) := ⟨t.toNat, by omega⟩
    have hm : l.getD t (0, 0, ()) ∈ l := by have := getD_mem (l := l) (t := (t : Int)) (d := (0, 0, ())) h0 ht; simpa using this
    obtain ⟨a0, a1, b0, b1⟩ := insB_mem hin hm
    have hnew := (newAt_iff (by omega)).1 hg
    have hgv : q.1.getD (l.getD t (0, 0, ())).1.toNat false = false := by
      cases hc : q.1.getD (l.getD t (0, 0, ())).1.toNat false with
      | false => rfl
      | true =>
        obtain ⟨j, hj, he⟩ := (i4 _ (by omega)).1 hc
        exact absurd (he.trans (by omega)) (hnew j (by omega))
    refine ⟨(q.1.set (l.getD t (0, 0, ())).1.toNat true, q.2.1.set (l.getD t (0, 0, ())).1.toNat (l.getD t (0, 0, ())).2.1, q.2.2), ?_, by simpa using i1, by simpa using i2, i3, fun r hr => ?_, fun r hr => ?_⟩
    · rw [swap_build_l4, swap_build_b4, inb_ok h0 ht, wrap_step h0 ht (Nat.le_trans hl (by decide))]
      simp only [ht, decide_true, cond_true, Int.toNat_natCast, inb_ok (n := q.1.length) a0 (by omega), inb_ok (n := List.length q.2.1) a0 (by omega), hgv, cond_false]
    · rw [getD_upd (by omega)]
      split
      · rename_i hre
        simp only [true_iff]
        exact ⟨t, by omega, by omega⟩
      · rename_i hre
        rw [i4 r hr]
        constructor
        · rintro ⟨j, hj, e⟩; exact ⟨j, by omega, e⟩
        · rintro ⟨j, hj, e⟩
          by_cases hjt : j = t
          · subst hjt; omega
          · exact ⟨j, by omega, e⟩
    · rw [getD_upd (by omega), show ((t : Int) + 1).toNat = t + 1 by omega, mf_take (by omega) hnew]
      have := i5 r hr
      rw [Int.toNat_natCast] at this
      by_cases hre : r = (l.getD t (0, 0, ())).1.toNat
      · rw [if_pos hre, if_pos (by omega)]
      · rw [if_neg hre, if_neg (by omega), this]
  · intro fu t q h0 ht hI hg
    obtain ⟨i1, i2, i3, i4, i5⟩ := hI
    obtain ⟨t, rfl⟩ : ∃ k : Nat, t = (k : Int) := ⟨t.toNat, by omega⟩
    have hm : l.getD t (0, 0, ()) ∈ l := by have := getD_mem (l := l) (t := (t : Int)) (d := (0, 0, ())) h0 ht; simpa using this
    obtain ⟨a0, a1, b0, b1⟩ := insB_mem hin hm
    have hold : ∃ j : Nat, j < t ∧ (l.getD j (0, 0, ())).1 = (l.getD t (0, 0, ())).1 := Classical.byContradiction fun hno => by
      rw [(newAt_iff (by omega)).2 fun j hj e => hno ⟨j, hj, e⟩] at hg; cases hg
    obtain ⟨j, hj, e⟩ := hold
    have hgv : q.1.getD (l.getD t (0, 0, ())).1.toNat false = true := (i4 _ (by omega)).2 ⟨j, by omega, by omega⟩
    rw [swap_build_l4, swap_build_b4, inb_ok h0 ht]
    simp only [ht, decide_true, cond_true, Int.toNat_natCast, inb_ok (n := q.1.length) a0 (by omega), hgv]

theorem build_l6 {nf : Nat} (hn : 20 ≤ nf) {n : Nat} (h8 : n ≤ 8) {G : List Int} (hG : G.length = n) (hr : ∀ r : Nat, r < n → 0 ≤ G.getD r 0 ∧ G.getD r 0 < n) {U : List Int} (hU : U.length = n) (hz : ∀ c : Nat, c < n → U.getD c 0 = 0) (u : Unit) :
    ∃ V : List Int, V.length = n ∧ (∀ c : Nat, c < n → V.getD c 0 = (readers G c : Nat)) ∧ swap_build_l6 nf (G, U, u) nf (G, U, u) 0 = some (some (G, V, u), 0, ()) := by
  obtain ⟨fu', q, ⟨q1, q2, q3, q4⟩, e⟩ := loop_inv (n := G.length) (F := fun fu t (q : List Int × List Int × Unit) => swap_build_l6 nf (G, U, u) fu q t)
    (fun t q => q.1 = G ∧ q.2.2 = u ∧ q.2.1.length = n ∧ ∀ c : Nat, c < n → q.2.1.getD c 0 = (cnt (fun j => decide (G.getD j 0 ≠ j ∧ G.getD j 0 = c)) t.toNat : Nat)) (fun fu t q h0 ht hI => by
      obtain ⟨i1, i2, i3, i4⟩ := hI
      obtain ⟨t, rfl⟩ : ∃ k : Nat, t = (k : Int) := ⟨t.toNat, by omega⟩
      have hg := hr t (by omega)
      have hcn := fun c => cnt_n (fun j => decide (G.getD j 0 ≠ j ∧ G.getD j 0 = c)) t
      have e1 : ((t : Int) + 1).toNat = t + 1 := by omega
      by_cases hm : G.getD t 0 = t
      · refine ⟨q, ?_, i1, i2, i3, fun c hc => ?_⟩
        · rw [swap_build_l6, swap_build_b6, i1, inb_ok (n := G.length) h0 ht, wrap_step h0 ht (Nat.le_trans (hG ▸ h8) (by decide))]
          simp only [ht, decide_true, cond_true, Int.toNat_natCast, hm, bne_self_eq_false, cond_false]
        · rw [i4 c hc, e1, Int.toNat_natCast]
          simp only [cnt]
          rw [if_neg (fun h => (of_decide_eq_true h).1 hm)]; rfl
      · have hw : IntKind.i64.wrap (q.2.1.getD (G.getD t 0).toNat 0 + 1) = q.2.1.getD (G.getD t 0).toNat 0 + 1 := by
          have := i4 (G.getD t 0).toNat (by omega)
          have h2 := hcn ((G.getD t 0).toNat : Int)
          rw [Int.toNat_natCast] at this
          exact Go.IntWalk.i64_in _ (by omega)
        refine ⟨(q.1, q.2.1.set (G.getD t 0).toNat (q.2.1.getD (G.getD t 0).toNat 0 + 1), q.2.2), ?_, i1, i2, by simpa using i3, fun c hc => ?_⟩
        · rw [swap_build_l6, swap_build_b6, i1, inb_ok (n := G.length) h0 ht, wrap_step h0 ht (Nat.le_trans (hG ▸ h8) (by decide))]
          simp only [ht, decide_true, cond_true, Int.toNat_natCast, bne_t hm, inb_ok (n := List.length q.2.1) hg.1 (by omega), hw]
        · rw [e1]
          simp only [cnt]
          rw [getD_upd (by omega)]
          have := i4 c hc
          rw [Int.toNat_natCast] at this
          by_cases hcg : c = (G.getD t 0).toNat
          · subst hcg
            rw [if_pos rfl, if_pos (decide_eq_true ⟨hm, by omega⟩), this]; omega
          · rw [if_neg hcg, if_neg (by simp only [decide_eq_true_eq, not_and]; intro _ h; omega), this]; omega) nf 0 (G, U, u) (by omega) (by omega) (by omega) ⟨rfl, rfl, hU, fun c hc => by simpa [cnt] using hz c hc⟩
  refine ⟨q.2.1, q3, fun c hc => ?_, ?_⟩
  · rw [q4 c hc, Int.toNat_natCast]
    unfold readers
    congr 1
    refine cnt_congr fun j hj => ?_
    rw [decide_eq_decide]
    constructor
    · rintro ⟨a, b⟩; exact ⟨fun h => a (b.trans h.symm), b⟩
    · rintro ⟨a, b⟩; exact ⟨fun h => a (h.symm.trans b), b⟩
  · rw [e, swap_build_l6, swap_build_b6]
    simp only [Int.lt_irrefl, decide_false, cond_false]
    rw [← q1, ← q2]

theorem mf_in {n : Int} : ∀ {l : List Mv} (_ : insB n l = true) {r : Int}, 0 ≤ r → r < n → 0 ≤ mf l r ∧ mf l r < n
  | [], _, r, h0, h1 => ⟨h0, h1⟩
  | p :: l, h, r, h0, h1 => by
    have hp := insB_mem h (p := p) (by simp)
    have hl : insB n l = true := by
      unfold insB at h ⊢
      rw [List.all_cons, Bool.and_eq_true] at h
      exact h.2
    simp only [mf]
    split
    · omega
    · exact mf_in hl h0 h1

theorem build_F {nf : Nat} (hn : 20 ≤ nf) (regs : Int) (l : List Mv) :
    (mvCode regs l = 0 → ∃ F U : List Int, Freed regs.toNat (mf l) F U ∧ (∀ r : Nat, r < regs.toNat → F.getD r 0 = mf l r) ∧ (∀ c : Nat, c < regs.toNat → 0 ≤ U.getD c 0 ∧ U.getD c 0 ≤ 8) ∧ swap_build_f nf regs l = some (some (F, U, ()), 0, ())) ∧ (mvCode regs l ≠ 0 → swap_build_f nf regs l = some (none, mvCode regs l, ())) := by
  simp only [swap_build_f, swap_build_p, both_self]
  unfold mvCode
  by_cases h1 : regs < 1
  · simp [h1]
  · by_cases h2 : regs > 8
    · simp [h1, h2]
    · by_cases h3 : l.length > 8
      · simp [h1, h2, h3, show (l.length : Int) > 8 by omega]
      · have hlim : regs ≤ (lim : Int) := by have : lim = 4294967296 := rfl; omega
        rw [if_neg (by omega)]
        simp only [h1, h2, show ¬ (l.length : Int) > 8 by omega, show (0 : Int) ≤ regs by omega, Int.le_refl, hlim, decide_true, decide_false, Bool.and_self, cond_true, cond_false]
        rw [build_l0 hn (by omega) (by omega) (by omega)]
        cases hin : insB regs l with
        | false => simp
        | true =>
          obtain ⟨F, f1, f2, f3⟩ := build_l2 (nf := nf) hn (l := l) (s := (List.replicate regs.toNat 0, List.replicate regs.toNat 0, ())) (by simp; omega) (List.replicate regs.toNat false)
          simp only [List.length_replicate] at f1 f2
          obtain ⟨g1, g2⟩ := build_l4 (nf := nf) hn (n := regs.toNat) (l := l) (by omega) (by rw [show ((regs.toNat : Nat) : Int) = regs by omega]; exact hin) f1 f2 (List.replicate regs.toNat 0, ())
          rw [cond_true, f3]
          rw [if_neg (by simp)]
          cases hch : chk (newAt l) l.length 0 with
          | false =>
            rw [g2 hch]
            simp
          | true =>
            obtain ⟨G, k1, k2, k3⟩ := g1 hch
            have hrg : ∀ r : Nat, r < regs.toNat → 0 ≤ G.getD r 0 ∧ G.getD r 0 < (regs.toNat : Nat) := fun r hr => by
              rw [k2 r hr]
              have := mf_in hin (r := (r : Int)) (by omega) (by omega)
              omega
            obtain ⟨V, v1, v2, v3⟩ := build_l6 (nf := nf) hn (n := regs.toNat) (by omega) k1 hrg (U := List.replicate regs.toNat 0) (by simp) (fun c hc => by rw [List.getD_eq_getElem?_getD, List.getElem?_replicate]; split <;> rfl) ()
            rw [k3, v3]
            rw [if_neg (by simp)]
            refine ⟨fun _ => ⟨G, V, ⟨k1, v1, hrg, fun i hi _ => .inl (k2 i hi), fun c hc _ => v2 c hc, fun s c hs hc _ hf hsc hsn => ?_, fun c hc _ => k2 c hc⟩, k2, fun c hc => by
              rw [v2 c hc]
              have : readers G c ≤ G.length := cnt_n _ _
              omega, rfl⟩, fun h => absurd rfl h⟩
            exact absurd ((k2 s hs).trans hf) hsn

theorem inside_F {nf : Nat} (hn : 20 ≤ nf) (n a b : Int) : ref_Inside_f nf n [a, b] = some (decide (0 ≤ a ∧ a < n ∧ 0 ≤ b ∧ b < n), ()) := by
  obtain ⟨k, rfl⟩ : ∃ k, nf = k + 3 := ⟨nf - 3, by omega⟩
  have w1 : IntKind.i64.wrap (0 + 1) = 1 := rfl
  have w2 : IntKind.i64.wrap (1 + 1) = 2 := rfl
  have b0 : inb 0 2 = true := rfl
  have b1 : inb 1 2 = true := rfl
  simp only [ref_Inside_f, ref_Inside_p, ref_Inside_l0, ref_Inside_b0, List.length_cons, List.length_nil, w1, w2, b0, b1, show ((0 + 1 + 1 : Nat) : Int) = 2 from rfl, show (0 : Int) < 2 by decide, show (1 : Int) < 2 by decide, show ¬ (2 : Int) < 2 by decide, decide_true, decide_false, cond_true, cond_false, show (0 : Int).toNat = 0 from rfl, show (1 : Int).toNat = 1 from rfl, List.getD_cons_zero, List.getD_cons_succ, Nat.zero_add, show 1 + 1 = 2 from rfl]
  by_cases h1 : a < 0
  · simp [h1, show ¬ (0 ≤ a ∧ a < n ∧ 0 ≤ b ∧ b < n) by omega]
  · by_cases h2 : a ≥ n
    · simp [h1, h2, show ¬ (0 ≤ a ∧ a < n ∧ 0 ≤ b ∧ b < n) by omega]
    · by_cases h3 : b < 0
      · simp [h1, h2, h3, show ¬ (0 ≤ a ∧ a < n ∧ 0 ≤ b ∧ b < n) by omega]
      · by_cases h4 : b ≥ n
        · simp [h1, h2, h3, h4, show ¬ (0 ≤ a ∧ a < n ∧ 0 ≤ b ∧ b < n) by omega]
        · simp [h1, h2, h3, h4, show (0 ≤ a ∧ a < n ∧ 0 ≤ b ∧ b < n) by omega]

theorem newAt_chk {l : List Mv} {t : Int} (h0 : 0 ≤ t) (ht : t < l.length) : chk (fun j => !((l.getD t.toNat (0, 0, ())).1 == (l.getD j.toNat (0, 0, ())).1)) t.toNat 0 = newAt l t := by
  obtain ⟨t, rfl⟩ : ∃ k : Nat, t = (k : Int) := ⟨t.toNat, by omega⟩
  rw [Bool.eq_iff_iff, chk_iff, newAt_iff (by omega), Int.toNat_natCast]
  constructor
  · intro h j hj e
    have := h j (by omega) (by omega)
    rw [Int.toNat_natCast, e] at this
    simp at this
  · intro h j j0 j1
    have := h j.toNat (by omega)
    simp only [Bool.not_eq_true', beq_eq_false_iff_ne]
    exact fun e => this e.symm

theorem check_F {nf : Nat} (hn : 20 ≤ nf) (regs : Int) (l : List Mv) : ref_MovesCheck_f nf regs l = some (mvCode regs l, ()) := by
  simp only [ref_MovesCheck_f, ref_MovesCheck_p]
  unfold mvCode
  by_cases h1 : regs < 1
  · simp [h1]
  · by_cases h2 : regs > 8
    · simp [h1, h2]
    · by_cases h3 : l.length > 8
      · simp [h1, h2, h3, show (l.length : Int) > 8 by omega]
      · have hl : l.length ≤ maxLen := Nat.le_trans (show l.length ≤ 8 by omega) (by decide)
        rw [if_neg (by omega)]
        simp only [h1, h2, show ¬ (l.length : Int) > 8 by omega, decide_false, cond_false]
        have k0 := loop_chk (n := l.length) (F := fun fu t => ref_MovesCheck_l0 nf regs l fu t) (yes := ref_MovesCheck_l2 nf l nf 0) (no := some (2, ()))
          (fun t => decide (0 ≤ (l.getD t.toNat (0, 0, ())).1 ∧ (l.getD t.toNat (0, 0, ())).1 < regs ∧ 0 ≤ (l.getD t.toNat (0, 0, ())).2.1 ∧ (l.getD t.toNat (0, 0, ())).2.1 < regs)) (fun fu t h0 ht => by
            rw [ref_MovesCheck_l0, ref_MovesCheck_b0, inb_ok h0 ht, wrap_step h0 ht hl, inside_F hn]
            simp only [ht, decide_true, cond_true, Option.bind_some]
            cases decide (0 ≤ (l.getD t.toNat (0, 0, ())).1 ∧ (l.getD t.toNat (0, 0, ())).1 < regs ∧ 0 ≤ (l.getD t.toNat (0, 0, ())).2.1 ∧ (l.getD t.toNat (0, 0, ())).2.1 < regs) <;> rfl) (fun fu => by
            rw [ref_MovesCheck_l0, ref_MovesCheck_b0]
            simp only [Int.lt_irrefl, decide_false, cond_false]) nf 0 (by omega) (by omega) (by omega)
        rw [k0, show ((l.length : Int) - 0).toNat = l.length by omega, chk_all (P := fun p => decide (0 ≤ p.1 ∧ p.1 < regs ∧ 0 ≤ p.2.1 ∧ p.2.1 < regs))]
        show (bif insB regs l then _ else _) = _
        cases hin : insB regs l with
        | false => simp
        | true =>
          have k2 := loop_chk (n := l.length) (F := fun fu t => ref_MovesCheck_l2 nf l fu t) (yes := some (0, ())) (no := some (3, ())) (newAt l) (fun fu t h0 ht => by
            rw [ref_MovesCheck_l2, ref_MovesCheck_b2]
            simp only [ht, decide_true, cond_true]
            have k4 := loop_chk (n := t) (F := fun fu' j => ref_MovesCheck_l4 nf l t (fun i => ref_MovesCheck_l2 nf l fu i) fu' j) (yes := ref_MovesCheck_l2 nf l fu (t + 1)) (no := some (3, ())) (fun j => !((l.getD t.toNat (0, 0, ())).1 == (l.getD j.toNat (0, 0, ())).1)) (fun fu' j j0 jt => by
              rw [ref_MovesCheck_l4, ref_MovesCheck_b4, inb_ok h0 ht, inb_ok (n := l.length) j0 (by omega), wrap_step (n := l.length) j0 (by omega) hl]
              simp only [jt, decide_true, cond_true]
              cases (l.getD t.toNat (0, 0, ())).1 == (l.getD j.toNat (0, 0, ())).1 <;> rfl) (fun fu' => by
              rw [ref_MovesCheck_l4, ref_MovesCheck_b4, wrap_step h0 ht hl]
              simp only [Int.lt_irrefl, decide_false, cond_false]) nf 0 (by omega) (by omega) (by omega)
            rw [k4, show (t - 0).toNat = t.toNat by omega, newAt_chk h0 ht]) (fun fu => by
            rw [ref_MovesCheck_l2, ref_MovesCheck_b2]
            simp only [Int.lt_irrefl, decide_false, cond_false]) nf 0 (by omega) (by omega) (by omega)
          rw [cond_true, k2, show ((l.length : Int) - 0).toNat = l.length by omega]
          rw [if_neg (by simp)]
          cases chk (newAt l) l.length 0 <;> simp
end Go.Proofs.Ytmndifhjmbiodaa
