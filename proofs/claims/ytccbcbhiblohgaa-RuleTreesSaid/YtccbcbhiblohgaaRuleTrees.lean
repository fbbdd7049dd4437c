/- rule.Tree tells of each node the last one that is on each way to it. -/
import Derived.Test.YtccbcbhiblohgaaRules
import Derived.Test.YtccbcbhiblohgaaOnes
import Derived.Test.YtccbcbhiblohgaaAbLaw
namespace Go.Proofs.Ytccbcbhiblohgaa
open Go Go.Ab S

variable {next : List (List Int)} {nf : Nat}

theorem dom_or {j k x : Int} (hjk : True) (h : Path next k 0 x) : Path next k 0 j ∨ Path next j 0 x := by
  induction h with
  | here h =>
    by_cases hj : j = 0
    · subst hj; exact .inl (.here h)
    · exact .inr (.here fun h => hj h.symm)
  | @step x y h1 h2 h3 ih =>
    rcases ih with ih | ih
    · exact .inl ih
    · by_cases hy : y = j
      · subst hy; exact .inl (.step h1 h2 h3)
      · exact .inr (.step ih h2 hy)
theorem dom_trans {k j i : Int} (h1 : Dom next k j) (h2 : Dom next j i) : Dom next k i :=
  ⟨h1.1, h2.2.1, fun h => by
    rcases dom_or trivial h with h3 | h3
    · exact h1.2.2 h3
    · exact h2.2.2 h3⟩
theorem dom_anti {i j : Int} (hij : i ≠ j) (h1 : Dom next i j) (h2 : Dom next j i) : False := by
  have key : ∀ x, Come next x → Path next j 0 i ∨ Path next i 0 j ∨ (Path next i 0 x ∧ Path next j 0 x) := by
    intro x hx
    induction hx with
    | here _ =>
      by_cases hi : i = 0
      · subst hi; exact .inl (.here hij)
      · by_cases hj : j = 0
        · subst hj; exact .inr (.inl (.here fun h => hi h.symm))
        · exact .inr (.inr ⟨.here fun h => hi h.symm, .here fun h => hj h.symm⟩)
    | @step x y _ h4 _ ih =>
      rcases ih with ih | ih | ⟨ih1, ih2⟩
      · exact .inl ih
      · exact .inr (.inl ih)
      · by_cases hi : y = i
        · subst hi; exact .inl (.step ih2 h4 hij)
        · by_cases hj : y = j
          · subst hj; exact .inr (.inl (.step ih1 h4 hi))
          · exact .inr (.inr ⟨.step ih1 h4 hi, .step ih2 h4 hj⟩)
  rcases key i h1.1 with h | h | ⟨h, _⟩
  · exact h2.2.2 h
  · exact h1.2.2 h
  · exact no_dom h rfl

theorem cnt_without {q : Nat → Bool} {i : Nat} (hq : q i = true) : ∀ {n}, i < n → cnt q n = cnt (fun k => q k && !decide (k = i)) n + 1
  | 0, h => by omega
  | n + 1, h => by
    have e1 : cnt q (n + 1) = cnt q n + (if q n = true then 1 else 0) := rfl
    have e2 : cnt (fun k => q k && !decide (k = i)) (n + 1) = cnt (fun k => q k && !decide (k = i)) n + (if (q n && !decide (n = i)) = true then 1 else 0) := rfl
    rw [e1, e2]
    by_cases hi : i = n
    · subst hi
      have := cnt_congr (p := q) (q := fun k => q k && !decide (k = i)) (n := i) fun k hk => by simp; omega
      rw [← this]
      simp [hq]
    · have := cnt_without hq (n := n) (by omega)
      have hni : ¬ n = i := fun h => hi h.symm
      rw [this]
      cases q n <;> simp [hni] <;> omega

/-- how many are on each way to j -/
def card (nf : Nat) (next : List (List Int)) (j : Int) : Nat := cnt (fun k => domB nf next (k : Nat) j) 32
/-- the last one by counting -/
def treeC (nf : Nat) (next : List (List Int)) (i j : Int) : Bool := (j != i) && domB nf next j i && decide (card nf next j + 1 = card nf next i)
def allGo (nf : Nat) (next : List (List Int)) (i j : Int) (b : Bool) : Nat → Bool
  | 0 => b
  | t + 1 => allGo nf next i j b t && (decide ((t : Int) = i) || !domB nf next t i || domB nf next t j)
/-- the last one by the document's words -/
def refC (nf : Nat) (next : List (List Int)) (i j : Int) : Bool := allGo nf next i j ((j != i) && domB nf next j i) next.length
def lastGo (c : Int → Bool) : Nat → Int
  | 0 => -1
  | t + 1 => bif c t then t else lastGo c t
theorem lastGo_congr {c d : Int → Bool} : ∀ {n : Nat}, (∀ t : Nat, t < n → c t = d t) → lastGo c n = lastGo d n
  | 0, _ => rfl
  | n + 1, h => by simp only [lastGo, h n (by omega)]; rw [lastGo_congr fun t ht => h t (by omega)]
theorem allGo_iff {i j : Int} {b : Bool} : ∀ {n : Nat}, allGo nf next i j b n = true ↔ b = true ∧ ∀ k : Nat, k < n → ((k : Int) = i ∨ domB nf next k i = false ∨ domB nf next k j = true)
  | 0 => by simp [allGo]
  | n + 1 => by
    simp only [allGo, Bool.and_eq_true, allGo_iff (n := n), Bool.or_eq_true, decide_eq_true_eq, Bool.not_eq_true']
    constructor
    · rintro ⟨⟨h1, h2⟩, h3⟩
      refine ⟨h1, fun k hk => ?_⟩
      by_cases hkn : k = n
      · subst hkn
        rcases h3 with (h3 | h3) | h3
        · exact .inl h3
        · exact .inr (.inl h3)
        · exact .inr (.inr h3)
      · exact h2 k (by omega)
    · rintro ⟨h1, h2⟩
      refine ⟨⟨h1, fun k hk => h2 k (by omega)⟩, ?_⟩
      rcases h2 n (by omega) with h3 | h3 | h3
      · exact .inl (.inl h3)
      · exact .inl (.inr h3)
      · exact .inr h3

theorem tree_ref (hW : WayOK next) (hn : 12 ≤ nf) {i j : Int} (hi : 0 ≤ i ∧ i < next.length) : treeC nf next i j = refC nf next i j := by
  have h8 := hW.few
  rw [Bool.eq_iff_iff, refC, allGo_iff]
  simp only [treeC, Bool.and_eq_true, bne_iff_ne, ne_eq, decide_eq_true_eq]
  have ci : ((i.toNat : Nat) : Int) = i := by omega
  have facts : j ≠ i → domB nf next j i = true → (∀ k : Nat, domB nf next k j = true → domB nf next k i = true ∧ k ≠ i.toNat) ∧ domB nf next (i.toNat : Nat) i = true := by
    intro hne hd
    have hD := (domB_iff hW hn).1 hd
    refine ⟨fun k hk => ?_, by rw [ci]; exact (domB_iff hW hn).2 (dom_self hD.2.1)⟩
    have hK := (domB_iff hW hn).1 hk
    refine ⟨(domB_iff hW hn).2 (dom_trans hK hD), fun he => ?_⟩
    rw [he, ci] at hK
    exact dom_anti (fun h => hne h.symm) hK hD
  constructor
  · rintro ⟨⟨h1, h2⟩, h3⟩
    refine ⟨⟨h1, h2⟩, fun k hk => ?_⟩
    obtain ⟨f1, f2⟩ := facts h1 h2
    have h4 := cnt_without (q := fun k => domB nf next (k : Nat) i) (i := i.toNat) f2 (n := 32) (by omega)
    by_cases hki : (k : Int) = i
    · exact .inl hki
    · refine .inr ?_
      cases hq : domB nf next k i with
      | false => exact .inl rfl
      | true =>
        refine .inr ?_
        apply Classical.byContradiction
        intro hp
        have := cnt_lt (n := 32) (p := fun k => domB nf next (k : Nat) j) (q := fun k => domB nf next (k : Nat) i && !decide (k = i.toNat)) (fun m _ hm => by
          obtain ⟨g1, g2⟩ := f1 m hm
          rw [g1, decide_eq_false g2]; rfl) ⟨k, by omega, by simpa using hp, by rw [hq, decide_eq_false (by omega)]; rfl⟩
        unfold card at h3
        omega
  · rintro ⟨⟨h1, h2⟩, h3⟩
    refine ⟨⟨h1, h2⟩, ?_⟩
    obtain ⟨f1, f2⟩ := facts h1 h2
    have h4 := cnt_without (q := fun k => domB nf next (k : Nat) i) (i := i.toNat) f2 (n := 32) (by omega)
    have h5 := cnt_congr (n := 32) (p := fun k => domB nf next (k : Nat) j) (q := fun k => domB nf next (k : Nat) i && !decide (k = i.toNat)) fun k hk => by
      rw [Bool.eq_iff_iff]
      constructor
      · intro hm
        obtain ⟨g1, g2⟩ := f1 k hm
        rw [g1, decide_eq_false g2]; rfl
      · intro hm
        simp only [Bool.and_eq_true, Bool.not_eq_true', decide_eq_false_iff_not] at hm
        have hkn := (come_good hW ((domB_iff hW hn).1 hm.1).1).2
        rcases h3 k (by omega) with h6 | h6 | h6
        · exact absurd (by omega) hm.2
        · rw [h6] at hm; cases hm.1
        · exact h6
    unfold card
    omega

theorem card_le (j : Int) : card nf next j ≤ 32 := cnt_n _ _
theorem tab_ones (hW : WayOK next) {l : List Int} (hl : RulesOK nf next l) {j : Int} (hj : 0 ≤ j ∧ j < next.length) : bits_OnesCount32_f nf (l.getD j.toNat 0) = some (((card nf next j : Nat) : Int), ()) := by
  obtain ⟨h1, h2⟩ := hl.2 j hj.1 hj.2
  rw [ones_F nf h1, card, cnt_congr fun k _ => h2 k]
theorem tab_bit1 (hW : WayOK next) {l : List Int} (hl : RulesOK nf next l) {i j : Int} (hi : 0 ≤ i ∧ i < next.length) (hj : 0 ≤ j ∧ j < next.length) :
    (and32 (shrI .u32 (l.getD j.toNat 0) i) 1 == 1) = domB nf next i j := by
  have h8 := hW.few
  obtain ⟨h1, h2⟩ := hl.2 j hj.1 hj.2
  rw [shr_and_beq1 h1 hi.1 (by omega), h2, show ((i.toNat : Nat) : Int) = i by omega]
theorem wrap_pred {n : Nat} (h : n ≤ 32) : IntKind.i64.wrap ((n : Int) - 1) = (n : Int) - 1 := by
  have : ∀ m : Fin 33, IntKind.i64.wrap ((m.val : Nat) - 1 : Int) = ((m.val : Nat) : Int) - 1 := by decide +kernel
  exact this ⟨n, by omega⟩

theorem tree_l2 (hW : WayOK next) (hn : 12 ≤ nf) {l : List Int} (hl : RulesOK nf next l) (rr : List Int × Int × Unit) (out : List Int) (ho : out.length < 32) {i : Int} (hi : 0 ≤ i ∧ i < next.length) (g : List Int → List Int → Int → Option (List Int × Int × Unit)) :
    rule_Tree_l2 nf i l rr g nf l out (-1) 0 = g l (out ++ [lastGo (treeC nf next i) next.length]) (i + 1) := by
  have h8 := hW.few
  have hm : next.length ≤ maxLen := Nat.le_trans h8 (by decide)
  have key := loop_inv (n := next.length) (F := fun fu t (q : Int) => rule_Tree_l2 nf i l rr g fu l out q t)
    (fun t q => q = lastGo (treeC nf next i) t.toNat) ?_ nf 0 (-1) (Int.le_refl _) (by omega) (by omega) rfl
  · obtain ⟨fu', q, h1, h5⟩ := key
    subst h1
    rw [h5, rule_Tree_l2, rule_Tree_b2]
    have hb := ble_ok (n := out.length + 1) (by omega)
    simp only [hl.1, Int.lt_irrefl, decide_false, cond_false, Int.toNat_natCast, wrap_step hi.1 hi.2 hm]
    simp [bimp, hb]
  · rintro fu t q ht0 ht1 rfl
    refine ⟨_, ?_, rfl⟩
    have hb := tab_bit1 hW hl ⟨ht0, ht1⟩ hi
    unfold and32 at hb
    rw [show (t + 1).toNat = t.toNat + 1 by omega, lastGo, rule_Tree_l2, rule_Tree_b2, hb, inb_ok (t := t) (n := l.length) ht0 (by rw [hl.1]; exact ht1)]
    simp only [hl.1, ht1, ht0, decide_true, cond_true, wrap_step ht0 ht1 hm, tab_ones hW hl ⟨ht0, ht1⟩, tab_ones hW hl hi, Option.bind_some, treeC, wrap_pred (card_le i)]
    rw [show ((t.toNat : Nat) : Int) = t by omega]
    have e : (((card nf next t : Nat) : Int) == ((card nf next i : Nat) : Int) - 1) = decide (card nf next t + 1 = card nf next i) := by
      rw [Bool.eq_iff_iff, beq_iff_eq, decide_eq_true_eq]; omega
    rw [e]
    cases (t != i) <;> cases domB nf next t i <;> cases decide (card nf next t + 1 = card nf next i) <;> rfl

theorem tree_F (h : wayCode next = 0) (hn : 100000000000 ≤ nf) : ∃ o, (o.length = next.length ∧ ∀ i : Int, 0 ≤ i → i < next.length → o.getD i.toNat 0 = lastGo (treeC nf next i) next.length) ∧ rule_Tree_f nf next = some (o, 0, ()) := by
  have hW := wayCode_ok h
  have h8 := hW.few
  have hm : next.length ≤ maxLen := Nat.le_trans h8 (by decide)
  obtain ⟨l, hl, h2⟩ := table_F h hn
  simp only [rule_Tree_f, rule_Tree_p, h2, Option.bind_some, show ((0 : Int) != 0) = false from rfl, cond_false]
  have key := loop_inv (n := next.length) (F := fun fu t (q : List Int) => rule_Tree_l0 nf (l, 0, ()) fu l q t)
    (fun t q => (q.length : Int) = t ∧ ∀ i : Int, 0 ≤ i → i < t → q.getD i.toNat 0 = lastGo (treeC nf next i) next.length)
    ?_ nf 0 [] (Int.le_refl _) (by omega) (by omega) ⟨by simp, fun i a b => by omega⟩
  · obtain ⟨fu', q, ⟨h3, h4⟩, h5⟩ := key
    refine ⟨q, ⟨by omega, h4⟩, ?_⟩
    rw [h5, rule_Tree_l0, rule_Tree_b0]
    simp only [hl.1, Int.lt_irrefl, decide_false, cond_false]
  · rintro fu t q ht0 ht1 ⟨h3, h4⟩
    refine ⟨q ++ [lastGo (treeC nf next t) next.length], ?_, by simp; omega, fun i a b => ?_⟩
    · rw [rule_Tree_l0, rule_Tree_b0, inb_ok (t := t) (n := l.length) ht0 (by rw [hl.1]; exact ht1)]
      simp only [hl.1, ht1, decide_true, cond_true]
      exact tree_l2 hW (by omega) hl (l, 0, ()) q (by omega) ⟨ht0, ht1⟩ (fun l' out t22 => rule_Tree_l0 nf (l, 0, ()) fu l' out t22)
    · rw [List.getD_eq_getElem?_getD]
      by_cases hit : i = t
      · subst hit
        rw [List.getElem?_append_right (by omega), show i.toNat - q.length = 0 by omega]
        rfl
      · rw [List.getElem?_append_left (by omega), ← List.getD_eq_getElem?_getD]
        exact h4 i a (by omega)

theorem ruleTrees_l4 (hW : WayOK next) (hn : 12 ≤ nf) (l : List Int) (rr : List Int × Int × Unit) {i j : Int} (b : Bool) (want : Int) (hj : 0 ≤ j ∧ j < next.length) (g2 : List Int → Int → Int → Option (Bool × Unit)) (g0 : List Int → Int → Option (Bool × Unit)) :
    law_RuleTrees_l4 nf next rr i want j g2 g0 nf l b 0 = g2 l (bif allGo nf next i j b next.length then j else want) (j + 1) := by
  have h8 := hW.few
  have hm : next.length ≤ maxLen := Nat.le_trans h8 (by decide)
  have key := loop_inv (n := next.length) (F := fun fu t (q : Bool) => law_RuleTrees_l4 nf next rr i want j g2 g0 fu l q t)
    (fun t q => q = allGo nf next i j b t.toNat) ?_ nf 0 b (Int.le_refl _) (by omega) (by omega) rfl
  · obtain ⟨fu', q, h1, h5⟩ := key
    subst h1
    rw [h5, law_RuleTrees_l4, law_RuleTrees_b4]
    simp only [Int.lt_irrefl, decide_false, cond_false, Int.toNat_natCast, wrap_step hj.1 hj.2 hm]
    cases allGo nf next i j b next.length <;> rfl
  · rintro fu t q ht0 ht1 rfl
    refine ⟨_, ?_, rfl⟩
    rw [show (t + 1).toNat = t.toNat + 1 by omega, allGo, law_RuleTrees_l4, law_RuleTrees_b4]
    simp only [ht1, decide_true, cond_true, wrap_step ht0 ht1 hm, ref_Rules_F hW hn, Option.bind_some]
    rw [show ((t.toNat : Nat) : Int) = t by omega]
    have e : (t == i) = decide (t = i) := rfl
    rw [e]
    cases allGo nf next i j b t.toNat <;> cases decide (t = i) <;> cases domB nf next t i <;> cases domB nf next t j <;> rfl

theorem ruleTrees_l2 (hW : WayOK next) (hn : 12 ≤ nf) (l : List Int) (rr : List Int × Int × Unit) {i : Int} (hi : 0 ≤ i ∧ i < next.length) (hl : l.length = next.length) (he : l.getD i.toNat 0 = lastGo (treeC nf next i) next.length) (g : List Int → Int → Option (Bool × Unit)) :
    law_RuleTrees_l2 nf next rr i g nf l (-1) 0 = g l (i + 1) := by
  have h8 := hW.few
  have hm : next.length ≤ maxLen := Nat.le_trans h8 (by decide)
  have key := loop_inv (n := next.length) (F := fun fu t (q : Int) => law_RuleTrees_l2 nf next rr i g fu l q t)
    (fun t q => q = lastGo (refC nf next i) t.toNat) ?_ nf 0 (-1) (Int.le_refl _) (by omega) (by omega) rfl
  · obtain ⟨fu', q, h1, h5⟩ := key
    subst h1
    rw [h5, law_RuleTrees_l2, law_RuleTrees_b2]
    rw [he, lastGo_congr (c := treeC nf next i) (d := refC nf next i) fun t _ => tree_ref hW hn hi, inb_ok hi.1 (by omega)]
    simp only [Int.lt_irrefl, decide_false, cond_false, cond_true, Int.toNat_natCast, wrap_step hi.1 hi.2 hm, bne_self_eq_false]
  · rintro fu t q ht0 ht1 rfl
    refine ⟨_, ?_, rfl⟩
    rw [show (t + 1).toNat = t.toNat + 1 by omega, lastGo, law_RuleTrees_l2, law_RuleTrees_b2]
    simp only [ht1, decide_true, cond_true, ref_Rules_F hW hn, Option.bind_some]
    rw [show ((t.toNat : Nat) : Int) = t by omega]
    have h := fun b => ruleTrees_l4 (i := i) hW hn l rr b (lastGo (refC nf next i) t.toNat) ⟨ht0, ht1⟩ (fun l'2 want j => law_RuleTrees_l2 nf next rr i g fu l'2 want j) g
    cases hne : (t != i) with
    | true =>
      refine (h _).trans ?_
      simp only [refC, hne, Bool.true_and]
    | false =>
      refine (h _).trans ?_
      simp only [refC, hne, Bool.false_and]

theorem ruleTrees_main (hn : 100000000000 ≤ nf) (next : List (List Int)) : law_RuleTrees_f nf next = some (true, ()) := by
  simp only [law_RuleTrees_f, law_RuleTrees_p, ref_WayCheck_F (show 9 ≤ nf by omega)]
  by_cases h : wayCode next = 0
  · have hW := wayCode_ok h
    have h8 := hW.few
    obtain ⟨o, ⟨h1, h3⟩, h2⟩ := tree_F h hn
    rw [h2, h]
    simp only [Option.bind_some, show ((0 : Int) != 0) = false from rfl, cond_false]
    have key := loop_inv (n := next.length) (F := fun fu t (q : List Int) => law_RuleTrees_l0 nf next (o, 0, ()) fu q t) (fun _ q => q = o) (fun fu t q ht0 ht1 hq => by
      subst hq
      refine ⟨q, ?_, rfl⟩
      rw [law_RuleTrees_l0, law_RuleTrees_b0]
      simp only [h1, ht1, decide_true, cond_true]
      exact ruleTrees_l2 hW (show 12 ≤ nf by omega) q (q, 0, ()) ⟨ht0, ht1⟩ h1 (h3 t ht0 ht1) (fun l' i => law_RuleTrees_l0 nf next (q, 0, ()) fu l' i)) nf 0 o (Int.le_refl _) (by omega) (by omega) rfl
    obtain ⟨fu', s', g1, g5⟩ := key
    subst g1
    rw [g5, law_RuleTrees_l0, law_RuleTrees_b0]
    simp [h1]
  · simp only [rule_Tree_f, rule_Tree_p, rule_Table_f, rule_Table_p, way_Check_F (show 9 ≤ nf by omega), Option.bind_some, bne_t h, cond_true]
    simp

theorem ruleTrees_law (x : denPs (lawPs [.sl (.sl (.int .i64))])) (_ : wfPs [.sl (.sl (.int .i64))] x) : ∃ n, law_RuleTrees_F n x = some (true, ()) := by
  obtain ⟨next, _⟩ := x
  exact ⟨100000000000, ruleTrees_main (Nat.le_refl _) next⟩
end Go.Proofs.Ytccbcbhiblohgaa
