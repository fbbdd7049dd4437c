/- Ways: of which nodes each one is sure. -/
import Derived.Test.YtccbcbhiblohgaaHang
namespace Go.Proofs.Ytccbcbhiblohgaa
open Go Go.Ab S

variable {next : List (List Int)} {nf : Nat}

theorem comes_F' (hW : WayOK next) (hn : 12 ≤ nf) (wo : Int) : ∃ w, W32 w ∧ (∀ i : Int, 0 ≤ i → i < next.length → bt w i.toNat = endsB nf next wo i) ∧ hang_comes_f nf next wo = some (w, ()) := by
  obtain ⟨w, h1, h2, h3⟩ := comes_F hW hn wo
  refine ⟨w, h1, fun i a b => ?_, h3⟩
  rw [Bool.eq_iff_iff, h2, endsB_iff hW hn ⟨a, b⟩, show ((i.toNat : Nat) : Int) = i by omega]
  exact ⟨fun h => h.2, fun h => ⟨by omega, h⟩⟩

theorem ends_F (hW : WayOK next) (hn : 12 ≤ nf) {i wo : Int} (hi : 0 ≤ i ∧ i < next.length) : ref_ends_f nf next i wo = some (endsB nf next wo i, ()) := by
  have h8 := hW.few
  simp only [ref_ends_f, ref_ends_p, reach_F hW hn hi, Option.bind_some]
  have hN := reach_nodes (nf := nf) (wo := wo) hW hi
  unfold endsB
  generalize reach nf next i wo = R at hN
  have hlen := hN.len
  have hl : R.length ≤ maxLen := Nat.le_trans hlen (Nat.le_trans h8 (by decide))
  have h := loop_all (l := R) (d := 0) (F := fun fu t (_ : Unit) => ref_ends_l0 nf next (R, ()) fu R t) (fin := fun _ => some (false, ()))
    (step := fun x t s k => bif inb x next.length then bif (nexts next x).isEmpty then some (true, ()) else k s else none) ?_ ?_ nf () (by omega)
  · rw [show ref_ends_l0 nf next (R, ()) nf R 0 = _ from h]
    have key : ∀ (l : List Int) (t : Int), (∀ x ∈ l, 0 ≤ x ∧ x < next.length) → goL (fun x t (s : Unit) k => bif inb x next.length then bif (nexts next x).isEmpty then some (true, ()) else k s else none) (fun _ => some (false, ())) l t () = some (l.any fun j => (nexts next j).isEmpty, ()) := by
      intro l
      induction l with
      | nil => intro t _; rfl
      | cons x r ih =>
        intro t hx
        have h3 := hx x (by simp)
        simp only [goL, List.any_cons, inb_ok h3.1 h3.2, cond_true, ih (t + 1) (fun y hy => hx y (by simp [hy]))]
        cases (nexts next x).isEmpty <;> rfl
    exact key R 0 hN.good
  · intro fu t s a b
    simp only [ref_ends_l0, ref_ends_b0, inb_ok a b, wrap_step a b hl, b, decide_true, cond_true, nexts]
    congr 2
    cases next.getD (R.getD t.toNat 0).toNat [] <;> rfl
  · intro fu t s a
    simp [ref_ends_l0, ref_ends_b0, a]

/-- is i sure of k? -/
def sureB (nf : Nat) (next : List (List Int)) (i k : Int) : Bool := endsB nf next (-1) i && !endsB nf next k i
theorem sure_F (hW : WayOK next) (hn : 12 ≤ nf) {i k : Int} (hi : 0 ≤ i ∧ i < next.length) : ref_Sure_f nf next i k = some (sureB nf next i k, ()) := by
  simp only [ref_Sure_f, ref_Sure_p, ends_F hW hn hi, Option.bind_some, sureB]
  cases h1 : endsB nf next (-1) i
  · rfl
  · by_cases h2 : i = k
    · subst h2
      have : endsB nf next i i = false := by simp [endsB, reach]
      simp [this]
    · simp [beq_f h2]

theorem last_F (hW : WayOK next) (hn : 12 ≤ nf) : ∃ l : List Int, l.length = next.length ∧ (∀ i : Int, 0 ≤ i → i < next.length → W32 (l.getD i.toNat 0) ∧ ∀ k : Nat, bt (l.getD i.toNat 0) k = (decide (k < next.length) && sureB nf next i k)) ∧ hang_last_f nf next = some (l, ()) := by
  have h8 := hW.few
  have hm : next.length ≤ maxLen := Nat.le_trans h8 (by decide)
  obtain ⟨all, a1, a2, a3⟩ := comes_F' hW hn (-1)
  have c : (decide (0 ≤ (next.length : Int)) && decide ((next.length : Int) ≤ (next.length : Int)) && decide ((next.length : Int) ≤ ((lim : Nat) : Int))) = true := by
    rw [decide_eq_true (show (0 : Int) ≤ (next.length : Int) by omega), decide_eq_true (Int.le_refl _), decide_eq_true (show (next.length : Int) ≤ ((lim : Nat) : Int) by show (next.length : Int) ≤ ((4294967296 : Nat) : Int); omega)]; rfl
  simp only [hang_last_f, hang_last_p, a3, Option.bind_some, c, cond_true, Int.toNat_natCast]
  have key := loop_inv (n := next.length) (F := fun fu t (q : List Int) => hang_last_l0 nf next (all, ()) fu q t)
    (fun t q => q.length = next.length ∧ ∀ i : Int, 0 ≤ i → i < next.length → W32 (q.getD i.toNat 0) ∧ ∀ k : Nat, bt (q.getD i.toNat 0) k = (decide ((k : Int) < t) && sureB nf next i k))
    ?_ nf 0 (List.replicate next.length 0) (Int.le_refl _) (by omega) (by omega) ⟨by simp, fun i a b => by
      have : (List.replicate next.length (0 : Int)).getD i.toNat 0 = 0 := by rw [List.getD_eq_getElem?_getD, List.getElem?_replicate]; split <;> rfl
      rw [this]
      exact ⟨W32_zero, fun k => by rw [bt_zero, decide_eq_false (by omega)]; rfl⟩⟩
  · obtain ⟨fu', q, ⟨h1, h2⟩, h5⟩ := key
    refine ⟨q, h1, fun i a b => ⟨(h2 i a b).1, fun k => ?_⟩, ?_⟩
    · rw [(h2 i a b).2]; congr 1; simp only [decide_eq_decide]; omega
    · rw [h5, hang_last_l0, hang_last_b0]; simp
  · rintro fu t q ht0 ht1 ⟨h1, h2⟩
    obtain ⟨ck, b1, b2, b3⟩ := comes_F' hW hn t
    have hlt : t < 32 := by omega
    have key := loop_inv (n := next.length) (F := fun fu2 j (p : List Int) => hang_last_l2 nf next (all, ()) t (ck, ()) q (fun out t15 => hang_last_l0 nf next (all, ()) fu out t15) fu2 p j)
      (fun j p => p.length = next.length ∧ ∀ i : Int, 0 ≤ i → i < next.length → W32 (p.getD i.toNat 0) ∧ ∀ k : Nat, bt (p.getD i.toNat 0) k = ((decide ((k : Int) < t) || (decide ((k : Int) = t) && decide (i < j))) && sureB nf next i k))
      ?_ nf 0 q (Int.le_refl _) (by omega) (by omega) ⟨h1, fun i a b => ⟨(h2 i a b).1, fun k => by rw [(h2 i a b).2, decide_eq_false (show ¬ i < 0 by omega), Bool.and_false, Bool.or_false]⟩⟩
    · obtain ⟨fu2, p, ⟨g1, g2⟩, g5⟩ := key
      refine ⟨p, ?_, g1, fun i a b => ⟨(g2 i a b).1, fun k => ?_⟩⟩
      · rw [hang_last_l0, hang_last_b0]
        simp only [ht1, decide_true, cond_true, b3, Option.bind_some]
        rw [g5, hang_last_l2, hang_last_b2, wrap_step ht0 ht1 hm]
        simp [h1]
      · rw [(g2 i a b).2, decide_eq_true b, Bool.and_true]
        congr 1
        rw [Bool.eq_iff_iff]
        simp only [Bool.or_eq_true, decide_eq_true_eq]
        omega
    · rintro fu2 j p hj0 hj1 ⟨g1, g2⟩
      have hj8 : j < 32 := by omega
      obtain ⟨wj, bj⟩ := g2 j hj0 hj1
      have e : and32 (shrI .u32 (not32 all ck) j) 1 = bif sureB nf next j t then 1 else 0 := by
        rw [shr_and (not32_w _ _) hj0 hj8, not32_bt a1 b1, a2 j hj0 hj1, b2 j hj0 hj1]
        unfold sureB
        cases (endsB nf next (-1) j && !endsB nf next t j) <;> rfl
      refine ⟨p.set j.toNat (or32 (p.getD j.toNat 0) (shlI .u32 (and32 (shrI .u32 (not32 all ck) j) 1) t)), ?_, by simp [g1], fun i a b => ?_⟩
      · rw [hang_last_l2, hang_last_b2, inb_ok hj0 (by omega), wrap_step hj0 hj1 hm]
        simp only [h1, hj1, hj0, ht0, decide_true, cond_true]
        rfl
      · by_cases hij : i = j
        · subst hij
          have e2 : (p.set i.toNat (or32 (p.getD i.toNat 0) (shlI .u32 (and32 (shrI .u32 (not32 all ck) i) 1) t))).getD i.toNat 0 = or32 (p.getD i.toNat 0) (shlI .u32 (and32 (shrI .u32 (not32 all ck) i) 1) t) := by
            simp only [List.getD_eq_getElem?_getD]
            rw [List.getElem?_set_self (by omega)]
            rfl
          rw [e2, e]
          refine ⟨or32_w _ _, fun k => ?_⟩
          cases hs : sureB nf next i t
          · rw [cond_false, shl_zero, or32_bt wj W32_zero, bj, bt_zero, Bool.or_false]
            by_cases hk : (k : Int) = t
            · rw [hk, hs, Bool.and_false, Bool.and_false]
            · rw [decide_eq_false hk, Bool.false_and, Bool.false_and]
          · rw [cond_true, or32_bt wj (one_w ht0 hlt), bj, one_bt ht0 hlt]
            by_cases hk : (k : Int) = t
            · rw [hk, hs, decide_eq_true (show k = t.toNat by omega), decide_eq_true (show i < i + 1 by omega)]
              simp
            · rw [decide_eq_false hk, decide_eq_false (show ¬ k = t.toNat by omega), Bool.false_and, Bool.false_and, Bool.or_false]
        · have e2 : ∀ x : Int, (p.set j.toNat x).getD i.toNat 0 = p.getD i.toNat 0 := fun x => by
            simp only [List.getD_eq_getElem?_getD]
            rw [List.getElem?_set_ne (by omega)]
          rw [e2]
          obtain ⟨w1, w2⟩ := g2 i a b
          refine ⟨w1, fun k => ?_⟩
          rw [w2]
          congr 3
          simp only [decide_eq_decide]; omega
end Go.Proofs.Ytccbcbhiblohgaa
