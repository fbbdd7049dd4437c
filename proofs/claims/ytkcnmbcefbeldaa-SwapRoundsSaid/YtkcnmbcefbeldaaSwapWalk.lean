/- The circles that are left, one by one. -/
import Derived.Test.YtkcnmbcefbeldaaSwapMoves
namespace Go.Proofs.Ytkcnmbcefbeldaa
open Go Go.Ab S

/-- one round of swap.Rounds -/
theorem rounds_l2 {nf : Nat} {n : Nat} {f : Int → Int} (h8 : n ≤ 8) (many : Int) (r4 : List Int × List Int × Unit) (g0 : Int → List Int × List Int × Unit → Int → Option (Int × Int × Unit)) {t : Nat} (ht : t < n) {F : List Int} (h : RestC n f t F) (hh : Head n f t) (u : List Int × Unit) (hn : 20 ≤ nf) :
    ∃ G, RestC n f ((t : Int) + 1) G ∧ swap_Rounds_l2 nf many r4 t g0 nf t (F, u) = g0 (IntKind.i64.wrap (many + 1)) (G, u) (IntKind.i64.wrap ((t : Int) + 1)) := by
  obtain ⟨p0, p1, p2⟩ := hh.1.back
  obtain ⟨p, hp, hb, hl⟩ := back_least p0 p1 p2
  have hin := hh.1.inn
  have hpn := back_short hin hp hb hl
  obtain ⟨fu', q, ⟨q1, q2, q3, q4, q5⟩, e⟩ := loop_inv (n := p) (F := fun fu _ (q : Int × List Int × List Int × Unit) => swap_Rounds_l2 nf many r4 t g0 fu q.1 q.2)
    (fun k q => q.1 = it f k.toNat t ∧ q.2.1.length = n ∧ q.2.2 = u ∧ (∀ c : Nat, c < n → (∃ m, m < k.toNat ∧ (c : Int) = it f m t) → q.2.1.getD c 0 = c) ∧ ∀ c : Nat, c < n → ¬ (∃ m, m < k.toNat ∧ (c : Int) = it f m t) → q.2.1.getD c 0 = F.getD c 0) (fun fu k q h0 hk hI => by
      obtain ⟨i1, i2, i3, i4, i5⟩ := hI
      have hi := hin k.toNat
      have hq := hi
      rw [← i1] at hq
      have hg : q.2.1.getD q.1.toNat 0 = f q.1 := by
        rw [i5 q.1.toNat (by omega) ?_]
        · have := h.yes q.1.toNat (by omega) (by rw [show ((q.1.toNat : Nat) : Int) = q.1 by omega, i1]; exact Above.shifts (t := (t : Int)) (c := t) hh _)
          rwa [show ((q.1.toNat : Nat) : Int) = q.1 by omega] at this
        · rintro ⟨m, hm, e⟩
          rw [show ((q.1.toNat : Nat) : Int) = q.1 by omega, i1] at e
          exact it_dist hb hl hm (by omega) e.symm
      have hmv := hh.1.move k.toNat
      rw [← i1] at hmv
      refine ⟨(f q.1, q.2.1.set q.1.toNat q.1, q.2.2), ?_, ?_, by simpa using i2, i3, fun c hc hm => ?_, fun c hc hm => ?_⟩
      · rw [swap_Rounds_l2, swap_Rounds_b2]
        rw [inb_ok (n := List.length q.2.1) hq.1 (by omega), hg, bne_t hmv]
        simp only [cond_true]
      · rw [show (k + 1).toNat = k.toNat + 1 by omega, it_succ, ← i1]
      · show (q.2.1.set q.1.toNat q.1).getD c 0 = c
        rw [getD_upd (by omega)]
        split
        · omega
        · rename_i hne
          obtain ⟨m, m1, m2⟩ := hm
          refine i4 c hc ⟨m, ?_, m2⟩
          have : m ≠ k.toNat := fun e => by subst e; rw [← i1] at m2; omega
          omega
      · show (q.2.1.set q.1.toNat q.1).getD c 0 = F.getD c 0
        rw [getD_upd (by omega), if_neg (fun e => hm ⟨k.toNat, by omega, by rw [← i1]; omega⟩)]
        exact i5 c hc fun ⟨m, m1, m2⟩ => hm ⟨m, by omega, m2⟩) nf 0 (t, F, u) (by omega) (by omega) (by omega) ⟨rfl, h.len, rfl, fun c hc hm => by obtain ⟨m, m1, _⟩ := hm; simp at m1, fun c hc hm => rfl⟩
  rw [Int.toNat_natCast] at q1 q4 q5
  rw [hb] at q1
  refine ⟨q.2.1, h.off hh hp hb q2 q4 q5, ?_⟩
  rw [show swap_Rounds_l2 nf many r4 t g0 nf t (F, u) = _ from e, swap_Rounds_l2, swap_Rounds_b2, q1]
  have hend := q4 t ht ⟨0, hp, rfl⟩
  rw [inb_ok (n := List.length q.2.1) (by omega) (by omega), Int.toNat_natCast, hend, bne_self_eq_false]
  simp only [cond_true, cond_false]
  rw [← q3]

theorem rounds_l0 {nf : Nat} {n : Nat} {f : Int → Int} (h8 : n ≤ 8) (hn : 20 ≤ nf) {F : List Int} (h : RestC n f 0 F) (u : List Int × Unit) :
    swap_Rounds_l0 nf (F, u) nf 0 (F, u) 0 = some (((heads n f n : Nat) : Int), 0, ()) := by
  have hlen := h.len
  obtain ⟨fu', q, ⟨q1, q2, q3⟩, e⟩ := loop_inv (n := n) (F := fun fu t (q : Int × List Int × List Int × Unit) => swap_Rounds_l0 nf (F, u) fu q.1 q.2 t)
    (fun t q => q.1 = (heads n f t.toNat : Nat) ∧ RestC n f t q.2.1 ∧ q.2.2 = u) (fun fu t q h0 ht hI => by
      obtain ⟨i1, i2, i3⟩ := hI
      obtain ⟨t, rfl⟩ : ∃ k : Nat, t = (k : Int) := ⟨t.toNat, by omega⟩
      have hcn := heads_n n f t
      rw [Int.toNat_natCast] at i1
      have hw : IntKind.i64.wrap (q.1 + 1) = q.1 + 1 := Go.IntWalk.i64_in _ (by omega)
      have e1 : ((t : Int) + 1).toNat = t + 1 := by omega
      have hl2 := i2.len
      have hst : swap_Rounds_l0 nf (F, u) (fu + 1) q.1 q.2 t = swap_Rounds_b0 nf (fun p0 _ p2 v0 v1 => swap_Rounds_l2 nf p0 (F, u) p2 (fun many t16 t28 => swap_Rounds_l0 nf (F, u) fu many t16 t28) nf v0 v1) (F, u) (swap_Rounds_l0 nf (F, u) fu) q.1 q.2 t := rfl
      unfold swap_Rounds_b0 at hst
      simp only [hlen, ht, decide_true, cond_true, inb_ok (n := List.length q.2.1) h0 (by omega), Int.toNat_natCast, wrap_step h0 ht (Nat.le_trans h8 (by decide))] at hst
      by_cases he : q.2.1.getD t 0 = t
      · rw [he, beq_self_eq_true, cond_true] at hst
        obtain ⟨h1, h2⟩ := i2.skip (by omega) he
        exact ⟨q, hst, by rw [e1, heads_no h1]; exact i1, h2, i3⟩
      · rw [beq_f he, cond_false] at hst
        have hh := i2.head (by omega) he
        obtain ⟨G, g1, g2⟩ := rounds_l2 (nf := nf) h8 q.1 (F, u) (fun many t16 t28 => swap_Rounds_l0 nf (F, u) fu many t16 t28) (show t < n by omega) i2 hh q.2.2 hn
        rw [hw, wrap_step h0 ht (Nat.le_trans h8 (by decide))] at g2
        exact ⟨(q.1 + 1, G, q.2.2), hst.trans g2, by rw [e1, heads_yes hh]; omega, g1, i3⟩) nf 0 (0, F, u) (by omega) (by omega) (by omega) ⟨by simp [heads, cnt], h, rfl⟩
  rw [show swap_Rounds_l0 nf (F, u) nf 0 (F, u) 0 = _ from e, swap_Rounds_l0, swap_Rounds_b0]
  simp only [hlen, Int.lt_irrefl, decide_false, cond_false, q1, Int.toNat_natCast]
end Go.Proofs.Ytkcnmbcefbeldaa
