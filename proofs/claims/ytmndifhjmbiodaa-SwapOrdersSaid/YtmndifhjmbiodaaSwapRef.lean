/- The document's count of circles. -/
import Derived.Test.YtmndifhjmbiodaaSwapMoves
namespace Go.Proofs.Ytmndifhjmbiodaa
open Go Go.Ab S

theorem it_in {n : Nat} {f : Int → Int} (hr : ∀ r : Int, 0 ≤ r → r < (n : Int) → 0 ≤ f r ∧ f r < n) {r : Int} (h0 : 0 ≤ r) (h1 : r < n) : ∀ m, 0 ≤ it f m r ∧ it f m r < n
  | 0 => ⟨h0, h1⟩
  | m + 1 => by
    rw [it_succ]
    exact hr _ (it_in hr h0 h1 m).1 (it_in hr h0 h1 m).2

theorem circles_l6 {nf : Nat} (hn : 20 ≤ nf) {l : List Mv} (hl : l.length ≤ 8) {n : Nat} (h8 : n ≤ 8) (many r at' : Int) (ok : Bool) (k : Int) (g4 : Int → Bool → Int → Option (Int × Unit)) (g0 : Int → Int → Option (Int × Unit)) :
    ref_Circles_l6 nf n l many r at' ok k g4 g0 nf 0 0 = g4 (mf l at') (ok && decide (users (mf l) n at' = 1)) (IntKind.i64.wrap (k + 1)) := by
  have hm : ∀ r, ref_MoveFrom_f nf l r = some (mf l r, ()) := fun r => mf_F l r (Nat.le_trans hl (by decide)) (by omega)
  obtain ⟨fu', q, q1, e⟩ := loop_inv (n := n) (F := fun fu t (q : Int) => ref_Circles_l6 nf n l many r at' ok k g4 g0 fu q t)
    (fun t q => q = (cnt (fun s => decide (mf l s = at')) t.toNat : Nat)) (fun fu t q h0 ht hI => by
      have hcn := cnt_n (fun s => decide (mf l s = at')) t.toNat
      have hw : IntKind.i64.wrap (q + 1) = q + 1 := Go.IntWalk.i64_in _ (by omega)
      have hc : cnt (fun s => decide (mf l s = at')) (t + 1).toNat = cnt (fun s => decide (mf l s = at')) t.toNat + (if mf l t = at' then 1 else 0) := by
        rw [show (t + 1).toNat = t.toNat + 1 by omega]
        simp only [cnt, decide_eq_true_eq, show ((t.toNat : Nat) : Int) = t by omega]
      refine ⟨if mf l t = at' then q + 1 else q, ?_, ?_⟩
      · rw [ref_Circles_l6, ref_Circles_b6, hm, wrap_step h0 ht (Nat.le_trans h8 (by decide))]
        simp only [ht, decide_true, cond_true, Option.bind_some, hw]
        by_cases h : mf l t = at'
        · rw [if_pos h, h, beq_self_eq_true, cond_true]
        · rw [if_neg h, beq_f h, cond_false]
      · rw [hc]
        split <;> omega) nf 0 0 (by omega) (by omega) (by omega) (by simp [cnt])
  rw [e, ref_Circles_l6, ref_Circles_b6]
  simp only [Int.lt_irrefl, decide_false, cond_false, hm, Option.bind_some]
  have hq : (q == 1) = decide (users (mf l) n at' = 1) := by
    rw [q1, Int.toNat_natCast]
    unfold users
    rw [Bool.eq_iff_iff, beq_iff_eq, decide_eq_true_eq]; omega
  rw [hq]
  cases ok <;> rfl

open Classical in
theorem circles_l4 {nf : Nat} (hn : 20 ≤ nf) {l : List Mv} (hl : l.length ≤ 8) {n : Nat} (h8 : n ≤ 8) (many r : Int) (g0 : Int → Int → Option (Int × Unit)) :
    ref_Circles_l4 nf n l many r g0 nf r true 0 = if ∀ m, m < n → users (mf l) n (it (mf l) m r) = 1 then g0 (IntKind.i64.wrap (many + 1)) (IntKind.i64.wrap (r + 1)) else g0 many (IntKind.i64.wrap (r + 1)) := by
  obtain ⟨fu', q, ⟨q1, q2⟩, e⟩ := loop_inv (n := n) (F := fun fu t (q : Int × Bool) => ref_Circles_l4 nf n l many r g0 fu q.1 q.2 t)
    (fun t q => q.1 = it (mf l) t.toNat r ∧ q.2 = decide (∀ m, m < t.toNat → users (mf l) n (it (mf l) m r) = 1)) (fun fu t q h0 ht hI => by
      obtain ⟨i1, i2⟩ := hI
      refine ⟨(mf l q.1, q.2 && decide (users (mf l) n q.1 = 1)), ?_, ?_, ?_⟩
      · rw [ref_Circles_l4, ref_Circles_b4]
        simp only [ht, decide_true, cond_true]
        rw [circles_l6 hn hl h8, wrap_step h0 ht (Nat.le_trans h8 (by decide))]
      · rw [show (t + 1).toNat = t.toNat + 1 by omega, it_succ, ← i1]
      · rw [i2, i1, Bool.eq_iff_iff, Bool.and_eq_true, decide_eq_true_eq, decide_eq_true_eq, decide_eq_true_eq, show (t + 1).toNat = t.toNat + 1 by omega]
        constructor
        · rintro ⟨a, b⟩ m hm
          by_cases hmt : m = t.toNat
          · subst hmt; exact b
          · exact a m (by omega)
        · intro h
          exact ⟨fun m hm => h m (by omega), h _ (by omega)⟩) nf 0 (r, true) (by omega) (by omega) (by omega) ⟨rfl, by simp⟩
  rw [show ref_Circles_l4 nf n l many r g0 nf r true 0 = _ from e, ref_Circles_l4, ref_Circles_b4]
  simp only [Int.lt_irrefl, decide_false, cond_false, q2, Int.toNat_natCast]
  by_cases h : ∀ m, m < n → users (mf l) n (it (mf l) m r) = 1
  · rw [decide_eq_true h, if_pos h, cond_true]
  · rw [decide_eq_false h, if_neg h, cond_false]

open Classical in
theorem circles_l2 {nf : Nat} (hn : 20 ≤ nf) {l : List Mv} (hl : l.length ≤ 8) {n : Nat} (h8 : n ≤ 8) (hr : ∀ r, 0 ≤ r → r < (n : Int) → 0 ≤ mf l r ∧ mf l r < n) (many : Int) {r : Int} (r0 : 0 ≤ r) (r1 : r < n) (g0 : Int → Int → Option (Int × Unit)) :
    ref_Circles_l2 nf n l many r (mf l r, ()) g0 nf (mf l r) true 0 = if Head n (mf l) r then g0 (IntKind.i64.wrap (many + 1)) (IntKind.i64.wrap (r + 1)) else g0 many (IntKind.i64.wrap (r + 1)) := by
  have hm : ∀ r, ref_MoveFrom_f nf l r = some (mf l r, ()) := fun r => mf_F l r (Nat.le_trans hl (by decide)) (by omega)
  have hin := it_in hr r0 r1
  have step : ∀ (N : Nat), N ≤ n → (∀ m, 0 < m → m ≤ N → it (mf l) m r ≠ r) → ∃ (fu' : Nat) (q : Int × Bool), (q.1 = it (mf l) (N + 1) r ∧ q.2 = decide (∀ m, 0 < m → m ≤ N → r < it (mf l) m r)) ∧
      ref_Circles_l2 nf n l many r (mf l r, ()) g0 nf (mf l r) true 0 = ref_Circles_l2 nf n l many r (mf l r, ()) g0 (fu' + 1) q.1 q.2 N := by
    intro N hN hne
    obtain ⟨fu', q, hq, e⟩ := loop_inv (n := N) (F := fun fu t (q : Int × Bool) => ref_Circles_l2 nf n l many r (mf l r, ()) g0 fu q.1 q.2 t)
      (fun t q => q.1 = it (mf l) (t.toNat + 1) r ∧ q.2 = decide (∀ m, 0 < m → m ≤ t.toNat → r < it (mf l) m r)) (fun fu t q h0 ht hI => by
        obtain ⟨i1, i2⟩ := hI
        have hq : q.1 ≠ r := by rw [i1]; exact hne _ (by omega) (by omega)
        have hd : decide (∀ m, 0 < m → m ≤ (t + 1).toNat → r < it (mf l) m r) = (q.2 && decide (q.1 > r)) := by
          rw [i2, i1, Bool.eq_iff_iff, Bool.and_eq_true, decide_eq_true_eq, decide_eq_true_eq, decide_eq_true_eq, show (t + 1).toNat = t.toNat + 1 by omega]
          constructor
          · intro h
            exact ⟨fun m a b => h m a (by omega), h _ (by omega) (by omega)⟩
          · rintro ⟨a, b⟩ m m0 m1
            by_cases hmt : m = t.toNat + 1
            · subst hmt; exact b
            · exact a m m0 (by omega)
        refine ⟨(mf l q.1, q.2 && decide (q.1 > r)), ?_, ?_, hd.symm⟩
        · rw [ref_Circles_l2, ref_Circles_b2, wrap_step (n := n) h0 (by omega) (Nat.le_trans h8 (by decide)), hm]
          simp only [show t < (n : Int) by omega, decide_true, cond_true, bne_t hq, Option.bind_some]
          cases q.2 <;> rfl
        · rw [show (t + 1).toNat + 1 = (t.toNat + 1) + 1 by omega, it_succ, ← i1]) nf 0 (mf l r, true) (by omega) (by omega) (by omega) ⟨rfl, by
          rw [eq_comm, decide_eq_true_eq]; intro m a b; simp at b; omega⟩
    rw [Int.toNat_natCast] at hq
    exact ⟨fu', q, hq, e⟩
  by_cases hex : ∃ p, 0 < p ∧ p ≤ n ∧ it (mf l) p r = r
  · obtain ⟨p0, p1, p2, p3⟩ := hex
    obtain ⟨p, hp, hb, hl'⟩ := back_least p0 p1 p3
    have hpn := back_short hin hp hb hl'
    have hh := head_iff hin hp hb hl'
    obtain ⟨fu', q, ⟨q1, q2⟩, e⟩ := step (p - 1) (by omega) (fun m a b => hl' m a (by omega))
    rw [show p - 1 + 1 = p by omega, hb] at q1
    rw [e, ref_Circles_l2, ref_Circles_b2, q1]
    simp only [show ((p - 1 : Nat) : Int) < n by omega, decide_true, cond_true, bne_self_eq_false, cond_false, q2]
    by_cases c1 : ∀ m, 0 < m → m ≤ p - 1 → r < it (mf l) m r
    · by_cases c2 : mf l r = r
      · rw [decide_eq_true c1, c2, bne_self_eq_false, if_neg (fun h => (hh.1 h).2.1 c2)]; rfl
      · rw [decide_eq_true c1, bne_t c2]
        simp only [Bool.not_true, cond_false]
        rw [circles_l4 hn hl h8]
        by_cases c3 : ∀ m, m < n → users (mf l) n (it (mf l) m r) = 1
        · rw [if_pos c3, if_pos (hh.2 ⟨fun m a b => c1 m a (by omega), c2, c3⟩)]
        · rw [if_neg c3, if_neg (fun h => c3 (hh.1 h).2.2)]
    · rw [decide_eq_false c1, if_neg (fun h => c1 fun m a b => (hh.1 h).1 m a (by omega))]; rfl
  · have hno : ∀ p, 0 < p → p ≤ n → it (mf l) p r ≠ r := fun p a b e => hex ⟨p, a, b, e⟩
    obtain ⟨fu', q, ⟨q1, q2⟩, e⟩ := step n (Nat.le_refl _) hno
    rw [if_neg (no_back hno hin), e, ref_Circles_l2, ref_Circles_b2]
    have hq : q.1 ≠ r := by
      rw [q1]
      intro he
      obtain ⟨p, hp, hb, hl'⟩ := back_least (n + 1) (by omega) he
      exact hno p hp (back_short hin hp hb hl') hb
    simp only [Int.lt_irrefl, decide_false, cond_false, bne_t hq, cond_true]

theorem circles_F {nf : Nat} (hn : 20 ≤ nf) {l : List Mv} (hl : l.length ≤ 8) {n : Nat} (h8 : n ≤ 8) (hr : ∀ r, 0 ≤ r → r < (n : Int) → 0 ≤ mf l r ∧ mf l r < n) : ref_Circles_f nf n l = some (((heads n (mf l) n : Nat) : Int), ()) := by
  have hm : ∀ r, ref_MoveFrom_f nf l r = some (mf l r, ()) := fun r => mf_F l r (Nat.le_trans hl (by decide)) (by omega)
  obtain ⟨fu', q, q1, e⟩ := loop_inv (n := n) (F := fun fu t (q : Int) => ref_Circles_l0 nf n l fu q t)
    (fun t q => q = (heads n (mf l) t.toNat : Nat)) (fun fu t q h0 ht hI => by
      have hcn := heads_n n (mf l) t.toNat
      have hw : IntKind.i64.wrap (q + 1) = q + 1 := Go.IntWalk.i64_in _ (by omega)
      by_cases hh : Head n (mf l) t
      · refine ⟨q + 1, ?_, ?_⟩
        · rw [ref_Circles_l0, ref_Circles_b0, hm]
          simp only [ht, decide_true, cond_true, Option.bind_some]
          rw [circles_l2 hn hl h8 hr q h0 ht, if_pos hh, wrap_step h0 ht (Nat.le_trans h8 (by decide)), hw]
        · rw [show (t + 1).toNat = t.toNat + 1 by omega, heads_yes (by rw [show ((t.toNat : Nat) : Int) = t by omega]; exact hh)]; omega
      · refine ⟨q, ?_, ?_⟩
        · rw [ref_Circles_l0, ref_Circles_b0, hm]
          simp only [ht, decide_true, cond_true, Option.bind_some]
          rw [circles_l2 hn hl h8 hr q h0 ht, if_neg hh, wrap_step h0 ht (Nat.le_trans h8 (by decide))]
        · rw [show (t + 1).toNat = t.toNat + 1 by omega, heads_no (by rw [show ((t.toNat : Nat) : Int) = t by omega]; exact hh)]; omega) nf 0 0 (by omega) (by omega) (by omega) (by simp [heads, cnt])
  show ref_Circles_l0 nf n l nf 0 0 = _
  rw [show ref_Circles_l0 nf n l nf 0 0 = _ from e, ref_Circles_l0, ref_Circles_b0]
  simp only [Int.lt_irrefl, decide_false, cond_false, q1, Int.toNat_natCast]
end Go.Proofs.Ytmndifhjmbiodaa
