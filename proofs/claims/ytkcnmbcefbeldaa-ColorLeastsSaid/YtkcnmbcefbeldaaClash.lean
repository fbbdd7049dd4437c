/- What clashes with what. -/
import Derived.Test.YtkcnmbcefbeldaaFn3
import Derived.Test.YtkcnmbcefbeldaaOnes
namespace Go.Proofs.Ytkcnmbcefbeldaa
open Go Go.Ab S

variable {nf : Nat} {pairs : List (Int × Int × Unit)} {n : Int}

theorem cbit_F (nf : Nat) {w i : Int} (hw : W32 w) (h0 : 0 ≤ i) (h1 : i < 32) : ref_Bit_f nf w i = some (bt w i.toNat, ()) := by
  simp only [ref_Bit_f, ref_Bit_p, wrap_u64 h0 h1]
  have := and_one hw h0 h1
  unfold and32 at this
  rw [this]
  simp [h0, h1]

abbrev P0 : Int × Int × Unit := (0, 0, ())
def clashes1 (p : Int × Int × Unit) (a b : Int) : Bool := (p.1 == a && p.2.1 == b) || (p.1 == b && p.2.1 == a)
def clashB (pairs : List (Int × Int × Unit)) (a b : Int) : Bool := !chk (fun t => !clashes1 (pairs.getD t.toNat P0) a b) pairs.length 0

theorem clashB_iff {a b : Int} : clashB pairs a b = true ↔ ∃ p ∈ pairs, (p.1 = a ∧ p.2.1 = b) ∨ (p.1 = b ∧ p.2.1 = a) := by
  unfold clashB
  rw [Bool.not_eq_true', ← Bool.not_eq_true, chk_iff]
  constructor
  · intro h
    apply Classical.byContradiction
    intro hn
    refine h fun i a0 b0 => ?_
    have hm : pairs.getD i.toNat P0 ∈ pairs := getD_mem (d := P0) a0 (by omega)
    cases hc : clashes1 (pairs.getD i.toNat P0) a b with
    | false => rfl
    | true =>
      refine absurd ⟨_, hm, ?_⟩ hn
      simpa [clashes1, Bool.or_eq_true, Bool.and_eq_true, beq_iff_eq] using hc
  · rintro ⟨p, hp, h⟩ hall
    obtain ⟨i, hi, rfl⟩ := List.mem_iff_getElem.1 hp
    have := hall i (by omega) (by omega)
    rw [Int.toNat_natCast, List.getD_eq_getElem?_getD, List.getElem?_eq_getElem hi] at this
    simp only [Option.getD_some, Bool.not_eq_true', clashes1] at this
    rcases h with ⟨h1, h2⟩ | ⟨h1, h2⟩ <;> simp [h1, h2] at this
theorem clashB_symm (a b : Int) : clashB pairs a b = clashB pairs b a := by
  rw [Bool.eq_iff_iff, clashB_iff, clashB_iff]
  constructor <;> (rintro ⟨p, h1, h2⟩; exact ⟨p, h1, h2.symm⟩)

theorem clash_F (h28 : pairs.length ≤ 28) (hn : 300 ≤ nf) (a b : Int) : ref_Clash_f nf pairs a b = some (clashB pairs a b, ()) := by
  have hm : pairs.length ≤ maxLen := Nat.le_trans h28 (by decide)
  simp only [ref_Clash_f, ref_Clash_p]
  have key := loop_chk (n := pairs.length) (F := fun fu t => ref_Clash_l0 nf pairs a b fu t) (yes := some (false, ())) (no := some (true, ()))
    (fun t => !clashes1 (pairs.getD t.toNat P0) a b) (fun fu t ht0 ht1 => by
      rw [ref_Clash_l0, ref_Clash_b0, inb_ok ht0 ht1, wrap_step ht0 ht1 hm]
      simp only [ht1, decide_true, cond_true, clashes1]
      cases ((pairs.getD t.toNat (0, 0, ())).fst == a) <;> cases ((pairs.getD t.toNat (0, 0, ())).snd.fst == b) <;> cases ((pairs.getD t.toNat (0, 0, ())).fst == b) <;> cases ((pairs.getD t.toNat (0, 0, ())).snd.fst == a) <;> rfl)
    (fun fu => by rw [ref_Clash_l0, ref_Clash_b0]; simp) nf 0 (Int.le_refl _) (by omega) (by omega)
  refine key.trans ?_
  rw [show ((pairs.length : Int) - 0).toNat = pairs.length by omega]
  unfold clashB
  cases chk (fun t => !clashes1 (pairs.getD t.toNat P0) a b) pairs.length 0 <;> rfl

def inN (n : Int) (p : Int × Int × Unit) : Bool := decide (0 ≤ p.1) && decide (p.1 < n) && (decide (0 ≤ p.2.1) && decide (p.2.1 < n))
theorem clashes1_iff {p : Int × Int × Unit} {a b : Int} : clashes1 p a b = true ↔ (p.1 = a ∧ p.2.1 = b) ∨ (p.1 = b ∧ p.2.1 = a) := by
  simp [clashes1, Bool.or_eq_true, Bool.and_eq_true, beq_iff_eq]
/-- what is wrong with things that clash -/
def clashCode (n : Int) (pairs : List (Int × Int × Unit)) : Int :=
  if n < 1 ∨ n > 8 ∨ pairs.length > 28 then 1 else bif chk (fun t => inN n (pairs.getD t.toNat P0)) pairs.length 0 then (bif chk (fun t => !((pairs.getD t.toNat P0).1 == (pairs.getD t.toNat P0).2.1)) pairs.length 0 then 0 else 3) else 2

theorem inside2_F (hn : 300 ≤ nf) (a b : Int) : ref_Inside_f nf n [a, b] = some (inN n (a, b, ()), ()) := by
  simp only [ref_Inside_f, ref_Inside_p]
  have key := loop_chk (n := (2 : Int)) (F := fun fu t => ref_Inside_l0 nf n [a, b] fu t) (yes := some (true, ())) (no := some (false, ()))
    (fun t => decide (0 ≤ [a, b].getD t.toNat 0) && decide ([a, b].getD t.toNat 0 < n)) (fun fu t ht0 ht1 => by
      have e1 : t < (([a, b] : List Int).length : Int) := ht1
      rw [ref_Inside_l0, ref_Inside_b0, inb_ok ht0 e1, wrap_step ht0 e1 (by simp [maxLen])]
      simp only [e1, decide_true, cond_true]
      generalize [a, b].getD t.toNat 0 = x
      by_cases h1 : x < 0
      · simp [h1, show ¬ 0 ≤ x by omega]
      · by_cases h2 : x ≥ n
        · simp [h1, h2, show 0 ≤ x by omega, show ¬ x < n by omega]
        · simp [h1, h2, show 0 ≤ x by omega, show x < n by omega]) (fun fu => by
      rw [ref_Inside_l0, ref_Inside_b0]; simp) nf 0 (Int.le_refl _) (by omega) (by omega)
  refine key.trans ?_
  rw [show ((2 : Int) - 0).toNat = 2 from rfl]
  simp only [chk, inN]
  have e1 : [a, b].getD (0 : Int).toNat 0 = a := rfl
  have e2 : [a, b].getD ((0 : Int) + 1).toNat 0 = b := rfl
  rw [e1, e2, Bool.and_true]
  cases (decide (0 ≤ a) && decide (a < n)) <;> cases (decide (0 ≤ b) && decide (b < n)) <;> rfl

theorem ref_ClashCheck_F (hn : 300 ≤ nf) : ref_ClashCheck_f nf n pairs = some (clashCode n pairs, ()) := by
  simp only [ref_ClashCheck_f, ref_ClashCheck_p, clashCode]
  by_cases h1 : n < 1
  · simp [h1]
  · by_cases h2 : n > 8
    · simp [h1, h2]
    · by_cases h3 : pairs.length > 28
      · have : (pairs.length : Int) > 28 := by omega
        simp [h1, h2, h3, this]
      · have h3' : ¬ (pairs.length : Int) > 28 := by omega
        have hm : pairs.length ≤ maxLen := Nat.le_trans (show pairs.length ≤ 28 by omega) (by decide)
        simp only [h1, h2, h3, h3', decide_false, cond_false, or_self, if_false]
        have key2 := loop_chk (n := pairs.length) (F := fun fu t => ref_ClashCheck_l2 nf pairs fu t) (yes := some ((0 : Int), ())) (no := some (3, ()))
          (fun t => !((pairs.getD t.toNat P0).1 == (pairs.getD t.toNat P0).2.1)) (fun fu t ht0 ht1 => by
            rw [ref_ClashCheck_l2, ref_ClashCheck_b2, inb_ok ht0 ht1, wrap_step ht0 ht1 hm]
            simp only [ht1, decide_true, cond_true]
            cases ((pairs.getD t.toNat (0, 0, ())).fst == (pairs.getD t.toNat (0, 0, ())).snd.fst) <;> rfl)
          (fun fu => by rw [ref_ClashCheck_l2, ref_ClashCheck_b2]; simp) nf 0 (Int.le_refl _) (by omega) (by omega)
        have key := loop_chk (n := pairs.length) (F := fun fu t => ref_ClashCheck_l0 nf n pairs fu t) (yes := ref_ClashCheck_l2 nf pairs nf 0) (no := some (2, ()))
          (fun t => inN n (pairs.getD t.toNat P0)) (fun fu t ht0 ht1 => by
            rw [ref_ClashCheck_l0, ref_ClashCheck_b0, inb_ok ht0 ht1, wrap_step ht0 ht1 hm, inside2_F hn]
            simp only [ht1, decide_true, cond_true, Option.bind_some]
            have e : inN n ((pairs.getD t.toNat (0, 0, ())).fst, (pairs.getD t.toNat (0, 0, ())).snd.fst, ()) = inN n (pairs.getD t.toNat P0) := rfl
            rw [e]
            cases inN n (pairs.getD t.toNat P0) <;> rfl)
          (fun fu => by rw [ref_ClashCheck_l0, ref_ClashCheck_b0]; simp) nf 0 (Int.le_refl _) (by omega) (by omega)
        rw [show ((pairs.length : Int) - 0).toNat = pairs.length by omega] at key key2
        rw [key2] at key
        refine key.trans ?_
        cases chk (fun t => inN n (pairs.getD t.toNat P0)) pairs.length 0 <;> cases chk (fun t => !((pairs.getD t.toNat P0).1 == (pairs.getD t.toNat P0).2.1)) pairs.length 0 <;> rfl

/-- what is so of things that clash -/
structure ClashOK (n : Int) (pairs : List (Int × Int × Unit)) : Prop where
  pos : 1 ≤ n
  few : n ≤ 8
  len : pairs.length ≤ 28
  good : ∀ p ∈ pairs, 0 ≤ p.1 ∧ p.1 < n ∧ 0 ≤ p.2.1 ∧ p.2.1 < n ∧ p.1 ≠ p.2.1
theorem clashCode_ok (h : clashCode n pairs = 0) : ClashOK n pairs := by
  unfold clashCode at h
  split at h
  · omega
  · rename_i h0
    cases h1 : chk (fun t => inN n (pairs.getD t.toNat P0)) pairs.length 0 with
    | false => rw [h1] at h; simp at h
    | true =>
      cases h2 : chk (fun t => !((pairs.getD t.toNat P0).1 == (pairs.getD t.toNat P0).2.1)) pairs.length 0 with
      | false => rw [h1, h2] at h; simp at h
      | true =>
        refine ⟨by omega, by omega, by omega, fun p hp => ?_⟩
        obtain ⟨i, hi, rfl⟩ := List.mem_iff_getElem.1 hp
        have a1 := chk_iff.1 h1 i (by omega) (by omega)
        have a2 := chk_iff.1 h2 i (by omega) (by omega)
        rw [Int.toNat_natCast, List.getD_eq_getElem?_getD, List.getElem?_eq_getElem hi] at a1 a2
        simp only [Option.getD_some, inN, Bool.and_eq_true, decide_eq_true_eq, Bool.not_eq_true', beq_eq_false_iff_ne] at a1 a2
        exact ⟨a1.1.1, a1.1.2, a1.2.1, a1.2.2, a2⟩

/-- the words of what clashes -/
def WithOK (n : Int) (pairs : List (Int × Int × Unit)) (w : List Int) : Prop := (w.length : Int) = n ∧ ∀ i : Int, 0 ≤ i → i < n → W32 (w.getD i.toNat 0) ∧ ∀ k : Nat, bt (w.getD i.toNat 0) k = clashB pairs i k

theorem clashB_take {t : Int} (h0 : 0 ≤ t) (h1 : t < pairs.length) (a b : Int) : clashB (pairs.take (t + 1).toNat) a b = (clashB (pairs.take t.toNat) a b || clashes1 (pairs.getD t.toNat P0) a b) := by
  have e : pairs.take (t + 1).toNat = pairs.take t.toNat ++ [pairs.getD t.toNat P0] := by
    rw [show (t + 1).toNat = t.toNat + 1 by omega, List.take_succ_eq_append_getElem (by omega), getD_nat _ _ _ h0 h1]
  rw [e, Bool.eq_iff_iff, Bool.or_eq_true, clashB_iff, clashB_iff]
  constructor
  · rintro ⟨p, hp, h⟩
    rcases List.mem_append.1 hp with hp | hp
    · exact .inl ⟨p, hp, h⟩
    · simp only [List.mem_singleton] at hp
      subst hp
      exact .inr (clashes1_iff.2 h)
  · rintro (⟨p, hp, h⟩ | h)
    · exact ⟨p, by simp [hp], h⟩
    · refine ⟨pairs.getD t.toNat P0, by simp, ?_⟩
      simpa [clashes1, Bool.or_eq_true, Bool.and_eq_true, beq_iff_eq] using h

theorem clashes_F (hn : 300 ≤ nf) : ∃ w, (clashCode n pairs = 0 → WithOK n pairs w) ∧ (clashCode n pairs ≠ 0 → w = []) ∧ color_clashes_f nf n pairs = some (w, clashCode n pairs, ()) := by
  by_cases h1 : n < 1
  · have hc : clashCode n pairs = 1 := by unfold clashCode; rw [if_pos (.inl h1)]
    exact ⟨[], fun h => by omega, fun _ => rfl, by simp [color_clashes_f, color_clashes_p, hc, h1]⟩
  · by_cases h2 : n > 8
    · have hc : clashCode n pairs = 1 := by unfold clashCode; rw [if_pos (.inr (.inl h2))]
      exact ⟨[], fun h => by omega, fun _ => rfl, by simp [color_clashes_f, color_clashes_p, hc, h1, h2]⟩
    · by_cases h3 : pairs.length > 28
      · have hc : clashCode n pairs = 1 := by unfold clashCode; rw [if_pos (.inr (.inr h3))]
        have : (pairs.length : Int) > 28 := by omega
        exact ⟨[], fun h => by omega, fun _ => rfl, by simp [color_clashes_f, color_clashes_p, hc, h1, h2, this]⟩
      · have h3' : ¬ (pairs.length : Int) > 28 := by omega
        have hm : pairs.length ≤ maxLen := Nat.le_trans (show pairs.length ≤ 28 by omega) (by decide)
        have c : (decide (0 ≤ n) && decide (n ≤ n) && decide (n ≤ ((lim : Nat) : Int))) = true := by
          rw [decide_eq_true (show (0 : Int) ≤ n by omega), decide_eq_true (Int.le_refl _), decide_eq_true (show n ≤ ((lim : Nat) : Int) by show n ≤ ((4294967296 : Nat) : Int); omega)]; rfl
        simp only [color_clashes_f, color_clashes_p, h1, h2, h3', decide_false, cond_false]
        rw [c, cond_true]
        have key := loop_chk (n := pairs.length) (F := fun fu t => color_clashes_l0 nf n pairs fu (List.replicate n.toNat 0) t) (yes := color_clashes_l2 nf pairs nf (List.replicate n.toNat 0) 0) (no := some ([], 2, ()))
          (fun t => inN n (pairs.getD t.toNat P0)) (fun fu t ht0 ht1 => by
            rw [color_clashes_l0, color_clashes_b0, inb_ok ht0 ht1, wrap_step ht0 ht1 hm]
            simp only [ht1, decide_true, cond_true]
            generalize pairs.getD t.toNat (0, 0, ()) = p
            obtain ⟨a, b, u⟩ := p
            simp only [inN]
            have e1 : (if b < a then b else a) < 0 ↔ ¬ (0 ≤ a ∧ 0 ≤ b) := by split <;> omega
            have e2 : (if b > a then b else a) ≥ n ↔ ¬ (a < n ∧ b < n) := by split <;> omega
            simp only [e1, e2]
            by_cases a0 : 0 ≤ a <;> by_cases b0 : 0 ≤ b <;> by_cases a1 : a < n <;> by_cases b1 : b < n <;> simp [a0, b0, a1, b1])
          (fun fu => by rw [color_clashes_l0, color_clashes_b0]; simp) nf 0 (Int.le_refl _) (by omega) (by omega)
        rw [show ((pairs.length : Int) - 0).toNat = pairs.length by omega] at key
        have hcc : clashCode n pairs = bif chk (fun t => inN n (pairs.getD t.toNat P0)) pairs.length 0 then (bif chk (fun t => !((pairs.getD t.toNat P0).1 == (pairs.getD t.toNat P0).2.1)) pairs.length 0 then 0 else 3) else 2 := by
          unfold clashCode; rw [if_neg (by omega)]
        cases hc1 : chk (fun t => inN n (pairs.getD t.toNat P0)) pairs.length 0 with
        | false =>
          rw [hc1] at key hcc
          rw [hcc]
          exact ⟨[], fun h => by simp at h, fun _ => rfl, key⟩
        | true =>
          rw [hc1, cond_true] at key hcc
          have hin : ∀ t : Int, 0 ≤ t → t < pairs.length → inN n (pairs.getD t.toNat P0) = true := fun t a b => chk_iff.1 hc1 t a (by omega)
          have hlen : (List.replicate n.toNat (0 : Int)).length = n.toNat := by simp
          have key2 := loop_exit (n := pairs.length) (F := fun fu t (q : List Int) => color_clashes_l2 nf pairs fu q t) (no := some ([], 3, ()))
            (fun t => !((pairs.getD t.toNat P0).1 == (pairs.getD t.toNat P0).2.1))
            (fun t q => (q.length : Int) = n ∧ ∀ i : Int, 0 ≤ i → i < n → W32 (q.getD i.toNat 0) ∧ ∀ k : Nat, bt (q.getD i.toNat 0) k = clashB (pairs.take t.toNat) i k)
            ?_ ?_ nf 0 (List.replicate n.toNat 0) (Int.le_refl _) (by omega) (by omega) ⟨by rw [hlen]; omega, fun i a b => ?_⟩
          · rw [show ((pairs.length : Int) - 0).toNat = pairs.length by omega] at key2
            cases hc2 : chk (fun t => !((pairs.getD t.toNat P0).1 == (pairs.getD t.toNat P0).2.1)) pairs.length 0 with
            | false =>
              rw [hc2] at hcc key2
              rw [hcc]
              exact ⟨[], fun h => by simp at h, fun _ => rfl, key.trans (key2.2 rfl)⟩
            | true =>
              rw [hc2] at hcc key2
              obtain ⟨fu', q, ⟨g1, g2⟩, g5⟩ := key2.1 rfl
              rw [Int.toNat_natCast, List.take_length] at g2
              rw [hcc]
              refine ⟨q, fun _ => ⟨g1, g2⟩, fun h => absurd rfl h, key.trans (g5.trans ?_)⟩
              rw [color_clashes_l2, color_clashes_b2]
              simp
          · rintro fu t q ht0 ht1 ⟨g1, g2⟩ hg
            have hp := hin t ht0 ht1
            have htk := fun a b => clashB_take (pairs := pairs) ht0 ht1 a b
            have e : ∀ fu, color_clashes_l2 nf pairs (fu + 1) q t = color_clashes_b2 nf pairs (color_clashes_l2 nf pairs fu) q t := fun _ => rfl
            unfold color_clashes_b2 at e
            rw [wrap_step ht0 ht1 hm] at e
            simp only [ht1, inb_ok ht0 ht1, decide_true, cond_true] at e
            generalize pairs.getD t.toNat (0, 0, ()) = p at hp hg htk e
            obtain ⟨a, b, u⟩ := p
            simp only [inN, Bool.and_eq_true, decide_eq_true_eq, Bool.not_eq_true'] at hp hg e
            obtain ⟨⟨a0, a1⟩, b0, b1⟩ := hp
            have hab : a ≠ b := by simpa using hg
            simp only [clashes1] at htk
            obtain ⟨wa, ba⟩ := g2 a a0 a1
            obtain ⟨wb, bb⟩ := g2 b b0 b1
            have s1 : (q.set a.toNat (or32 (q.getD a.toNat 0) (shlI .u32 1 b))).getD b.toNat 0 = q.getD b.toNat 0 := by rw [getD_upd (by omega), if_neg (by omega)]
            refine ⟨(q.set a.toNat (or32 (q.getD a.toNat 0) (shlI .u32 1 b))).set b.toNat (or32 (q.getD b.toNat 0) (shlI .u32 1 a)), ?_, by simp [g1], fun i i0 i1 => ?_⟩
            · rw [e, hg, cond_false, inb_ok (t := a) (n := q.length) a0 (by omega), inb_ok (t := b) b0 (by simp; omega), decide_eq_true a0, decide_eq_true b0]
              simp only [cond_true]
              unfold or32 at s1 ⊢
              rw [s1]
            · rw [getD_upd (by simp; omega), getD_upd (by omega)]
              obtain ⟨wi, bi⟩ := g2 i i0 i1
              by_cases hib : i = b
              · subst hib
                rw [if_pos rfl]
                refine ⟨or32_w _ _, fun k => ?_⟩
                rw [or32_bt wb (one_w a0 (by omega)), one_bt a0 (by omega), bb, htk]
                congr 1
                rw [beq_f hab, Bool.false_and, Bool.false_or, beq_self_eq_true, Bool.and_true]
                rw [Bool.eq_iff_iff, decide_eq_true_eq, beq_iff_eq]; omega
              · rw [if_neg (show ¬ i.toNat = b.toNat by omega)]
                by_cases hia : i = a
                · subst hia
                  rw [if_pos rfl]
                  refine ⟨or32_w _ _, fun k => ?_⟩
                  rw [or32_bt wa (one_w b0 (by omega)), one_bt b0 (by omega), ba, htk]
                  congr 1
                  rw [beq_self_eq_true, Bool.true_and, show (b == i) = false from beq_f (fun h => hab h.symm), Bool.and_false, Bool.or_false]
                  rw [Bool.eq_iff_iff, decide_eq_true_eq, beq_iff_eq]; omega
                · rw [if_neg (show ¬ i.toNat = a.toNat by omega)]
                  refine ⟨wi, fun k => ?_⟩
                  rw [bi, htk, show (a == i) = false from beq_f (fun h => hia h.symm), show (b == i) = false from beq_f (fun h => hib h.symm)]
                  simp
          · rintro fu t q ht0 ht1 _ hg
            rw [color_clashes_l2, color_clashes_b2, inb_ok ht0 ht1]
            simp only [ht1, decide_true, cond_true]
            have : ((pairs.getD t.toNat (0, 0, ())).fst == (pairs.getD t.toNat (0, 0, ())).snd.fst) = true := by simpa using hg
            rw [this]; rfl
          · have hz : (List.replicate n.toNat (0 : Int)).getD i.toNat 0 = 0 := by rw [List.getD_eq_getElem?_getD, List.getElem?_replicate]; split <;> rfl
            rw [hz]
            refine ⟨W32_zero, fun k => ?_⟩
            rw [bt_zero]
            rfl

theorem clash_in (h : ClashOK n pairs) {a b : Int} (hc : clashB pairs a b = true) : 0 ≤ b ∧ b < n ∧ a ≠ b := by
  obtain ⟨p, hp, h1⟩ := clashB_iff.1 hc
  have := h.good p hp
  rcases h1 with ⟨rfl, rfl⟩ | ⟨rfl, rfl⟩
  · exact ⟨this.2.2.1, this.2.2.2.1, this.2.2.2.2⟩
  · exact ⟨this.1, this.2.1, fun h => this.2.2.2.2 h.symm⟩
end Go.Proofs.Ytkcnmbcefbeldaa
