/- term.Uses and the document's answer agree. -/
import Derived.Test.YtpnganfbonlphaaComes
namespace Go.Proofs.Ytpnganfbonlphaa
open Go Go.Ab S

/-- one more variable used -/
def useN (l : List Term5) (s : Int) (j : Int) : Int := if (l.getD j.toNat (0, 0, 0, 0, ())).1 = 2 then or32 s (shlI .u32 1 (l.getD j.toNat (0, 0, 0, 0, ())).2.2.2.1) else s

theorem var_ok {vars : Int} : ∀ (r : List Term5) (n : Int), termGo vars r n = 0 → ∀ i : Nat, i < r.length → (r.getD i (0, 0, 0, 0, ())).1 = 2 → 0 ≤ (r.getD i (0, 0, 0, 0, ())).2.2.2.1 ∧ (r.getD i (0, 0, 0, 0, ())).2.2.2.1 < vars
  | (op, a, b, k, _) :: r, n, h, i, hi, ho => by
    obtain ⟨_, _, _, h4, _, h6⟩ := termGo_cons h
    cases i with
    | zero => exact h4 ho
    | succ i => exact var_ok r _ h6 i (by simpa using hi) (by simpa using ho)

theorem uses_l0 {nf : Nat} {vars : Int} {l : List Term5} (hl : l.length ≤ 16) (hv : vars ≤ 6) (hg : termGo vars l 0 = 0) {o : List Bool} (ho : o.length = l.length) (u : Unit) : ∀ (fu t : Nat) (s : Int), t ≤ l.length → l.length - t < fu →
    term_Uses_l0 nf l (o, u) fu s o t = some (((List.range' t (l.length - t)).filter fun j => o.getD j false).foldl (fun s j => useN l s (j : Nat)) s, 0, ())
  | 0, t, s, h0, h1 => by omega
  | fu + 1, t, s, h0, h1 => by
    rw [term_Uses_l0, term_Uses_b0]
    by_cases ht : t < l.length
    · have hr : List.range' t (l.length - t) = t :: List.range' (t + 1) (l.length - (t + 1)) := by
        rw [show l.length - t = (l.length - (t + 1)) + 1 by omega, List.range'_succ]
      have hw : IntKind.i64.wrap ((t : Int) + 1) = ((t + 1 : Nat) : Int) := by rw [Go.IntWalk.i64_in _ (by omega)]; rfl
      have hb : inb (t : Int) l.length = true := inb_ok (by omega) (by omega)
      have hb' : inb (t : Int) o.length = true := inb_ok (by omega) (by omega)
      simp only [show (t : Int) < (o.length : Int) by omega, decide_true, cond_true, hb, hb', Int.toNat_natCast, hw]
      rw [uses_l0 hl hv hg ho u fu (t + 1) _ (by omega) (by omega), uses_l0 hl hv hg ho u fu (t + 1) s (by omega) (by omega), hr, List.filter_cons]
      cases hm : o.getD t false with
      | false => simp only [cond_false]; rfl
      | true =>
        simp only [cond_true, if_true, List.foldl_cons]
        by_cases h2 : (l.getD t (0, 0, 0, 0, ())).1 = 2
        · have hk := var_ok l 0 hg t ht h2
          have : useN l s t = or32 s (shlI .u32 1 (l.getD t (0, 0, 0, 0, ())).2.2.2.1) := by unfold useN; rw [Int.toNat_natCast, if_pos h2]
          rw [this]
          simp only [h2, beq_self_eq_true, cond_true, hk.1, decide_true]
          rfl
        · have : useN l s t = s := by unfold useN; rw [Int.toNat_natCast, if_neg h2]
          rw [this]
          simp only [beq_f h2, cond_false]
    · have : l.length - t = 0 := by omega
      simp [show ¬ (t : Int) < (o.length : Int) by omega, this, show ¬ t < o.length by omega]

theorem tu_l0 {nf : Nat} {vars : Int} {l : List Term5} (hl : l.length ≤ 16) (hv : vars ≤ 6) (hg : termGo vars l 0 = 0) {r : Int × Int × Unit} {c : List Int} (hc : ∀ x ∈ c, 0 ≤ x ∧ x < l.length) (hcl : c.length ≤ 16) (u : Unit) : ∀ (fu t : Nat) (s : Int), t ≤ c.length → c.length - t < fu →
    law_TermUses_l0 nf l r (c, u) fu s c t = (bif r.2.1 == 0 then some (r.1 == (c.drop t).foldl (useN l) s, ()) else some (false, ()))
  | 0, t, s, h0, h1 => by omega
  | fu + 1, t, s, h0, h1 => by
    rw [law_TermUses_l0, law_TermUses_b0]
    by_cases ht : t < c.length
    · have hw : IntKind.i64.wrap ((t : Int) + 1) = ((t + 1 : Nat) : Int) := by rw [Go.IntWalk.i64_in _ (by omega)]; rfl
      have hb : inb (t : Int) c.length = true := inb_ok (by omega) (by omega)
      have hd : c.drop t = c.getD t 0 :: c.drop (t + 1) := by
        have := drop_step c t 0 (by omega) (by omega)
        simpa using this
      have hx : c.getD t 0 ∈ c := by have := getD_mem (l := c) (t := (t : Int)) (d := 0) (by omega) (by omega); simpa using this
      obtain ⟨x0, x1⟩ := hc _ hx
      rw [hd]
      simp only [show (t : Int) < (c.length : Int) by omega, decide_true, cond_true, hb, Int.toNat_natCast, hw, inb_ok x0 x1, List.foldl_cons]
      rw [tu_l0 hl hv hg hc hcl u fu (t + 1) _ (by omega) (by omega), tu_l0 hl hv hg hc hcl u fu (t + 1) s (by omega) (by omega)]
      by_cases h2 : (l.getD (c.getD t 0).toNat (0, 0, 0, 0, ())).1 = 2
      · have hk := var_ok l 0 hg (c.getD t 0).toNat (by omega) h2
        have : useN l s (c.getD t 0) = or32 s (shlI .u32 1 (l.getD (c.getD t 0).toNat (0, 0, 0, 0, ())).2.2.2.1) := by unfold useN; rw [if_pos h2]
        have hu : IntKind.u64.wrap (l.getD (c.getD t 0).toNat (0, 0, 0, 0, ())).2.2.2.1 = (l.getD (c.getD t 0).toNat (0, 0, 0, 0, ())).2.2.2.1 := wrap_u64 hk.1 (by omega)
        rw [this]
        simp only [h2, beq_self_eq_true, cond_true, hu, hk.1, decide_true]
        rfl
      · have : useN l s (c.getD t 0) = s := by unfold useN; rw [if_neg h2]
        rw [this]
        simp only [beq_f h2, cond_false]
    · have : c.drop t = [] := List.drop_eq_nil_of_le (by omega)
      simp only [show ¬ (t : Int) < (c.length : Int) by omega, decide_false, cond_false, this, List.foldl_nil]

theorem need_comes {l : List Term5} (hp : 1 ≤ l.length) : (((List.range l.length).filter fun j => (need l ((l.length : Int) - 1)).getD j false).map Int.ofNat) = comes l ((l.length : Int) - 1) := by
  unfold comes
  rw [show ((l.length : Int) - 1).toNat + 1 = l.length by omega, List.filter_map]
  congr 1
  refine List.filter_congr fun j hj => ?_
  have hj := List.mem_range.1 hj
  have : (need l ((l.length : Int) - 1)).getD j false = true ↔ Rch l ((l.length : Int) - 1) (j : Nat) := by
    rw [List.getD_eq_getElem?_getD]
    simp [need, hj]
  rw [Bool.eq_iff_iff, this]
  simp

theorem comes_mem {l : List Term5} {i x : Int} (h : x ∈ comes l i) : 0 ≤ x ∧ x ≤ i ∨ i < 0 := by
  unfold comes at h
  obtain ⟨h1, _⟩ := List.mem_filter.1 h
  obtain ⟨n, hn, rfl⟩ := List.mem_map.1 h1
  have := List.mem_range.1 hn
  simp
  omega
theorem comes_len (l : List Term5) (i : Int) : (comes l i).length ≤ i.toNat + 1 := by
  unfold comes
  refine Nat.le_trans (List.length_filter_le _ _) ?_
  simp

theorem termUses_main (vars : Int) (l : List Term5) : law_TermUses_f 20 vars l = some (true, ()) := by
  simp only [law_TermUses_f, law_TermUses_p, term_Uses_f, term_Uses_p]
  simp only [term_F (nf := 20) (by omega) vars l, terms_F' (nf := 20) (by omega) vars l, Option.bind_some]
  by_cases hc : termCode vars l = 0
  · obtain ⟨_, hv, hp, hl, hg⟩ := termCode_ok hc
    have hL := low_of hg
    have hw : IntKind.i64.wrap ((l.length : Int) - 1) = (l.length : Int) - 1 := Go.IntWalk.i64_in _ (by omega)
    have hnl : (need l ((l.length : Int) - 1)).length = l.length := by simp [need]
    have h1 := uses_l0 (nf := 20) hl hv hg hnl () 20 0 0 (by omega) (by omega)
    have hcm : ∀ x ∈ comes l ((l.length : Int) - 1), 0 ≤ x ∧ x < l.length := fun x hx => by have := comes_mem hx; omega
    have hcl : (comes l ((l.length : Int) - 1)).length ≤ 16 := by have := comes_len l ((l.length : Int) - 1); omega
    simp only [hc, bne_self_eq_false, cond_false, used_F (nf := 20) (by omega) hp hl hL, comes_F (nf := 20) (by omega) hl hL (i := (l.length : Int) - 1) (by omega) (by omega), hw, Option.bind_some]
    rw [show term_Uses_l0 20 l (need l ((l.length : Int) - 1), ()) 20 0 (need l ((l.length : Int) - 1)) 0 = _ from h1]
    simp only [Option.bind_some]
    have h2 := fun r => tu_l0 (nf := 20) (r := r) hl hv hg hcm hcl () 20 0 0 (by omega) (by omega)
    rw [show ∀ r, law_TermUses_l0 20 l r (comes l ((l.length : Int) - 1), ()) 20 0 (comes l ((l.length : Int) - 1)) 0 = _ from h2]
    have he := need_comes hp
    rw [List.range_eq_range'] at he
    rw [← he, List.drop_zero, List.foldl_map]
    simp
  · simp [bne_t hc]

theorem termUses_law (x : denPs (lawPs [.int .i64, .sl (.pair (.int .i64) (.pair (.int .i64) (.pair (.int .i64) (.pair (.int .i64) .unit))))])) (_ : wfPs [.int .i64, .sl (.pair (.int .i64) (.pair (.int .i64) (.pair (.int .i64) (.pair (.int .i64) .unit))))] x) : ∃ n, law_TermUses_F n x = some (true, ()) := by
  obtain ⟨vars, l, _⟩ := x
  exact ⟨20, termUses_main vars l⟩
end Go.Proofs.Ytpnganfbonlphaa
