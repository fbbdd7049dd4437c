/- rule.Table tells who is on each way to whom. -/
import Derived.Test.YtccbcbhiblohgaaRules
import Derived.Test.YtccbcbhiblohgaaAbLaw
namespace Go.Proofs.Ytccbcbhiblohgaa
open Go Go.Ab S

variable {next : List (List Int)} {nf : Nat}

theorem wrap_u64 {x : Int} (h0 : 0 ≤ x) (h1 : x < 32) : IntKind.u64.wrap x = x := by
  have : ∀ n : Fin 32, IntKind.u64.wrap ((n.val : Nat) : Int) = ((n.val : Nat) : Int) := by decide
  have := this ⟨x.toNat, by omega⟩
  rwa [show ((x.toNat : Nat) : Int) = x by omega] at this

/-- a new bit by adding -/
theorem add_bit {w : Int} (hw : W32 w) {t : Int} (h0 : 0 ≤ t) (h1 : t < 32) (hb : ∀ k : Nat, t ≤ k → bt w k = false) : IntKind.u32.wrap (w + shlI .u32 1 t) = or32 w (shlI .u32 1 t) := by
  have h2 : w < ((2 ^ t.toNat : Nat) : Int) := hw.small fun k hk => hb k (by omega)
  rw [shl_one h0 h1]
  have h3 : (2 : Nat) ^ t.toNat * 2 ≤ 2 ^ 32 := by rw [← Nat.pow_succ]; exact Nat.pow_le_pow_right (by decide) (by omega)
  have h5 := hw.1
  have hs : W32 (w + ((2 ^ t.toNat : Nat) : Int)) := ⟨by omega, by omega⟩
  rw [hs.wrap]
  have hp : W32 ((2 ^ t.toNat : Nat) : Int) := ⟨by omega, by omega⟩
  refine bt_ext hs (or32_w _ _) fun i _ => ?_
  rw [or32_bt hw hp]
  show (w + ((2 ^ t.toNat : Nat) : Int)).toNat.testBit i = (w.toNat.testBit i || ((2 ^ t.toNat : Nat) : Int).toNat.testBit i)
  rw [show (w + ((2 ^ t.toNat : Nat) : Int)).toNat = 2 ^ t.toNat + w.toNat by omega, Int.toNat_natCast, Nat.testBit_two_pow]
  by_cases hi : i = t.toNat
  · subst hi
    rw [Nat.testBit_two_pow_add_eq]
    have : w.toNat.testBit t.toNat = false := hb t.toNat (by omega)
    simp [this]
  · rw [decide_eq_false (show ¬ t.toNat = i by omega), Bool.or_false]
    by_cases hlt : i < t.toNat
    · rw [Nat.testBit_two_pow_add_gt hlt]
    · have e1 : w.toNat.testBit i = false := hb i (by omega)
      rw [e1]
      exact Nat.testBit_lt_two_pow (Nat.lt_of_lt_of_le (show 2 ^ t.toNat + w.toNat < 2 ^ (t.toNat + 1) by rw [Nat.pow_succ]; omega) (Nat.pow_le_pow_right (by decide) (by omega)))

theorem ruleTables_l2 (hW : WayOK next) (hn : 12 ≤ nf) {l : List Int} (hl : RulesOK nf next l) (rr : List Int × Int × Unit) {i : Int} (hi : 0 ≤ i ∧ i < next.length) (g : List Int → Int → Option (Bool × Unit)) :
    law_RuleTables_l2 nf next rr i g nf l 0 0 = g l (i + 1) := by
  have h8 := hW.few
  have hm : next.length ≤ maxLen := Nat.le_trans h8 (by decide)
  obtain ⟨hll, hl⟩ := hl
  have key := loop_inv (n := next.length) (F := fun fu t (q : List Int × Int) => law_RuleTables_l2 nf next rr i g fu q.1 q.2 t)
    (fun t q => q.1 = l ∧ W32 q.2 ∧ ∀ k : Nat, bt q.2 k = (decide ((k : Int) < t) && domB nf next k i)) ?_ nf 0 (l, 0) (Int.le_refl _) (by omega) (by omega) ⟨rfl, W32_zero, fun k => by rw [bt_zero, decide_eq_false (by omega)]; rfl⟩
  · obtain ⟨fu', ⟨l', w⟩, ⟨h1, h2, h3⟩, h5⟩ := key
    simp only at h1 h2 h3 h5
    subst h1
    obtain ⟨k1, k2⟩ := hl i hi.1 hi.2
    have e : l'.getD i.toNat 0 = w := bt_ext k1 h2 fun k _ => by
      rw [k2, h3]
      by_cases hk : (k : Int) < next.length
      · rw [decide_eq_true hk, Bool.true_and]
      · rw [decide_eq_false hk, Bool.false_and]
        cases hd : domB nf next k i with
        | false => rfl
        | true => exact absurd (come_good hW ((domB_iff hW hn).1 hd).1).2 hk
    rw [h5, law_RuleTables_l2, law_RuleTables_b2]
    simp only [Int.lt_irrefl, decide_false, cond_false]
    rw [inb_ok hi.1 (by omega), e, bne_self_eq_false, wrap_step hi.1 hi.2 hm]
    rfl
  · rintro fu t ⟨q, w⟩ ht0 ht1 ⟨h1, h2, h3⟩
    simp only at h1 h2 h3 ⊢
    subst h1
    have hlt : t < 32 := by omega
    have e : ∀ fu, law_RuleTables_l2 nf next rr i g (fu + 1) q w t = bif domB nf next t i then law_RuleTables_l2 nf next rr i g fu q (or32 w (shlI .u32 1 t)) (t + 1) else law_RuleTables_l2 nf next rr i g fu q w (t + 1) := fun fu => by
      rw [law_RuleTables_l2, law_RuleTables_b2]
      simp only [ht1, decide_true, cond_true, ref_Rules_F hW hn, Option.bind_some, wrap_u64 ht0 hlt, ht0, wrap_step ht0 ht1 hm]
      rw [add_bit h2 ht0 hlt fun k hk => by rw [h3, decide_eq_false (by omega)]; rfl]
    cases hd : domB nf next t i with
    | true =>
      refine ⟨(q, or32 w (shlI .u32 1 t)), by rw [e, hd]; rfl, rfl, or32_w _ _, fun k => ?_⟩
      rw [or32_bt h2 (one_w ht0 hlt), one_bt ht0 hlt, h3]
      by_cases hk : k = t.toNat
      · subst hk
        rw [decide_eq_true rfl, Bool.or_true, show ((t.toNat : Nat) : Int) = t by omega, hd, decide_eq_true (by omega)]; rfl
      · rw [decide_eq_false hk, Bool.or_false]
        congr 1
        simp only [decide_eq_decide]; omega
    | false =>
      refine ⟨(q, w), by rw [e, hd]; rfl, rfl, h2, fun k => ?_⟩
      rw [h3]
      by_cases hk : k = t.toNat
      · subst hk
        rw [show ((t.toNat : Nat) : Int) = t by omega, hd, Bool.and_false, Bool.and_false]
      · congr 1
        simp only [decide_eq_decide]; omega

theorem ruleTables_main (hn : 100000000000 ≤ nf) (next : List (List Int)) : law_RuleTables_f nf next = some (true, ()) := by
  simp only [law_RuleTables_f, law_RuleTables_p, ref_WayCheck_F (show 9 ≤ nf by omega)]
  by_cases h : wayCode next = 0
  · have hW := wayCode_ok h
    have h8 := hW.few
    obtain ⟨l, h1, h2⟩ := table_F h hn
    rw [h2, h]
    simp only [Option.bind_some, show ((0 : Int) != 0) = false from rfl, cond_false]
    obtain ⟨hll, _⟩ := id h1
    have key := loop_inv (n := next.length) (F := fun fu t (q : List Int) => law_RuleTables_l0 nf next (l, 0, ()) fu q t) (fun _ q => q = l) (fun fu t q ht0 ht1 hq => by
      subst hq
      refine ⟨q, ?_, rfl⟩
      have := ruleTables_l2 (nf := nf) hW (by omega) h1 (q, 0, ()) ⟨ht0, ht1⟩ (fun l' i => law_RuleTables_l0 nf next (q, 0, ()) fu l' i)
      rw [law_RuleTables_l0, law_RuleTables_b0]
      simp only [hll, ht1, decide_true, cond_true]
      exact this) nf 0 l (Int.le_refl _) (by omega) (by omega) rfl
    obtain ⟨fu', s', g1, g5⟩ := key
    subst g1
    rw [g5, law_RuleTables_l0, law_RuleTables_b0]
    simp [hll]
  · simp only [rule_Table_f, rule_Table_p, way_Check_F (show 9 ≤ nf by omega), Option.bind_some, bne_t h, cond_true]
    simp

theorem ruleTables_law (x : denPs (lawPs [.sl (.sl (.int .i64))])) (_ : wfPs [.sl (.sl (.int .i64))] x) : ∃ n, law_RuleTables_F n x = some (true, ()) := by
  obtain ⟨next, _⟩ := x
  exact ⟨100000000000, ruleTables_main (Nat.le_refl _) next⟩
end Go.Proofs.Ytccbcbhiblohgaa
