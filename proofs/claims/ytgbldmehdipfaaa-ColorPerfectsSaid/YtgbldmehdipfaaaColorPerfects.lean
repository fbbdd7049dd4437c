/- color.Perfect tells the first perfect list. -/
import Derived.Test.YtgbldmehdipfaaaColorCliques
namespace Go.Proofs.Ytgbldmehdipfaaa
open Go Go.Ab S

variable {nf : Nat} {pairs : List (Int × Int × Unit)} {n : Int}

theorem chas_F {l : List Int} (x : Int) (hl : l.length ≤ maxLen) (hf : l.length < nf) : ref_Has_f nf l x = some (decide (x ∈ l), ()) := by
  simp only [ref_Has_f, ref_Has_p]
  have key := loop_chk (n := l.length) (F := fun fu t => ref_Has_l0 nf l x fu t) (yes := some (false, ())) (no := some (true, ()))
    (fun t => !(x == l.getD t.toNat 0)) (fun fu t ht0 ht1 => by
      rw [ref_Has_l0, ref_Has_b0, inb_ok ht0 ht1, wrap_step ht0 ht1 hl]
      simp only [ht1, decide_true, cond_true]
      cases (x == l.getD t.toNat 0) <;> rfl) (fun fu => by rw [ref_Has_l0, ref_Has_b0]; simp) nf 0 (Int.le_refl _) (by omega) (by omega)
  refine key.trans ?_
  rw [show ((l.length : Int) - 0).toNat = l.length by omega]
  have : chk (fun t => !(x == l.getD t.toNat 0)) l.length 0 = !decide (x ∈ l) := by
    rw [Bool.eq_iff_iff, chk_iff, Bool.not_eq_true', decide_eq_false_iff_not]
    constructor
    · intro h hx
      obtain ⟨i, hi, rfl⟩ := List.mem_iff_getElem.1 hx
      have := h i (by omega) (by omega)
      rw [Int.toNat_natCast, List.getD_eq_getElem?_getD, List.getElem?_eq_getElem hi] at this
      simp at this
    · intro h i a b
      cases hc : (x == l.getD i.toNat 0) with
      | false => rfl
      | true =>
        rw [beq_iff_eq] at hc
        exact absurd (hc ▸ getD_mem a (by omega)) h
  rw [this]
  cases decide (x ∈ l) <;> rfl

theorem cints_F (a b : List Int) (hl : a.length ≤ maxLen) (hf : a.length < nf) : ref_Ints_f nf a b = some (decide (a = b), ()) := by
  simp only [ref_Ints_f, ref_Ints_p]
  by_cases hab : a.length = b.length
  · have h0 : ((a.length : Int) != (b.length : Int)) = false := by simp [hab]
    rw [h0, cond_false]
    have key := loop_chk (n := a.length) (F := fun fu t => ref_Ints_l0 nf a b fu t) (yes := some (true, ())) (no := some (false, ()))
      (fun i => a.getD i.toNat 0 == b.getD i.toNat 0) (fun fu t ht0 ht1 => by
        rw [ref_Ints_l0, ref_Ints_b0, inb_ok ht0 ht1, inb_ok (t := t) (n := b.length) ht0 (by omega), wrap_step ht0 ht1 hl]
        simp only [ht1, decide_true, cond_true, bne]
        cases (a.getD t.toNat 0 == b.getD t.toNat 0) <;> rfl) (fun fu => by rw [ref_Ints_l0, ref_Ints_b0]; simp) nf 0 (Int.le_refl _) (by omega) (by omega)
    refine key.trans ?_
    have : chk (fun i => a.getD i.toNat 0 == b.getD i.toNat 0) ((a.length : Int) - 0).toNat 0 = decide (a = b) := by
      rw [Bool.eq_iff_iff, chk_iff, decide_eq_true_eq]
      constructor
      · intro h
        refine List.ext_getElem hab fun i h1 h2 => ?_
        have := h i (by omega) (by omega)
        simp only [beq_iff_eq, Int.toNat_natCast, List.getD_eq_getElem?_getD] at this
        rw [List.getElem?_eq_getElem h1, List.getElem?_eq_getElem h2] at this
        exact this
      · rintro rfl i _ _; simp
    rw [this]
    cases decide (a = b) <;> rfl
  · have h0 : ((a.length : Int) != (b.length : Int)) = true := bne_t (by omega)
    have : a ≠ b := fun h => hab (by rw [h])
    rw [h0, cond_true, decide_eq_false this]

/-- those that are left and clash with i -/
def sGo (pairs : List (Int × Int × Unit)) (l : List Int) (i : Int) : Nat → Int
  | 0 => 0
  | t + 1 => bif !decide ((t : Int) ∈ l) && clashB pairs i (t : Nat) then or32 (sGo pairs l i t) (shlI .u32 1 t) else sGo pairs l i t
theorem sGo_w {l : List Int} {i : Int} : ∀ t, W32 (sGo pairs l i t)
  | 0 => W32_zero
  | t + 1 => by
    simp only [sGo]
    cases (!decide ((t : Int) ∈ l) && clashB pairs i (t : Nat))
    · exact sGo_w t
    · exact or32_w _ _
theorem sGo_bt {l : List Int} {i : Int} : ∀ t, t ≤ 32 → ∀ k : Nat, bt (sGo pairs l i t) k = (decide (k < t) && (!decide ((k : Int) ∈ l) && clashB pairs i (k : Nat)))
  | 0, _, k => by simp [sGo, bt_zero]
  | t + 1, ht, k => by
    have ih := sGo_bt (l := l) (i := i) t (by omega) k
    simp only [sGo]
    cases hc : (!decide ((t : Int) ∈ l) && clashB pairs i (t : Nat)) with
    | false =>
      rw [cond_false, ih]
      by_cases hk : k = t
      · subst hk; rw [hc, Bool.and_false, Bool.and_false]
      · congr 1; simp only [decide_eq_decide]; omega
    | true =>
      rw [cond_true, or32_bt (sGo_w t) (one_w (by omega) (by omega)), one_bt (by omega) (by omega), ih]
      by_cases hk : k = t
      · subst hk; rw [hc, decide_eq_true (by omega : k = ((k : Int)).toNat), Bool.or_true, decide_eq_true (by omega)]; rfl
      · rw [decide_eq_false (show ¬ k = ((t : Int)).toNat by omega), Bool.or_false]
        congr 1; simp only [decide_eq_decide]; omega

/-- may thing i be next? -/
def goodB (n : Int) (pairs : List (Int × Int × Unit)) (l : List Int) (i : Int) : Bool := !decide (i ∈ l) && cliqueB n pairs (sGo pairs l i n.toNat)
/-- the rest of the list -/
def perfGo (n : Int) (pairs : List (Int × Int × Unit)) : Nat → List Int → List Int × Int
  | 0, l => (l, 0)
  | m + 1, l => match findFrom (goodB n pairs l) n.toNat 0 with
    | some i => perfGo n pairs m (l ++ [i])
    | none => ([], 5)

structure PerfOK (n : Int) (l : List Int) : Prop where
  once : l.Nodup
  good : ∀ x ∈ l, 0 ≤ x ∧ x < n
theorem PerfOK.snoc {l : List Int} (h : PerfOK n l) {i : Int} (hi : 0 ≤ i ∧ i < n) (hl : i ∉ l) : PerfOK n (l ++ [i]) := by
  refine ⟨List.nodup_append.2 ⟨h.once, by simp, fun a ha b hb => ?_⟩, fun x hx => ?_⟩
  · simp only [List.mem_singleton] at hb; subst hb; rintro rfl; exact hl ha
  · rcases List.mem_append.1 hx with hx | hx
    · exact h.good x hx
    · simp only [List.mem_singleton] at hx; subst hx; exact hi
theorem PerfOK.len {l : List Int} (h : PerfOK n l) (hn : 0 ≤ n) : (l.length : Int) ≤ n := by
  have := nodup_fit n.toNat l h.once fun x hx => by have := h.good x hx; omega
  omega
theorem all_in : ∀ (m : Nat) (l : List Int), (∀ k : Nat, k < m → (k : Int) ∈ l) → m ≤ l.length
  | 0, _, _ => Nat.zero_le _
  | m + 1, l, h => by
    have h1 := all_in m (l.erase m) fun k hk => (List.mem_erase_of_ne (by omega)).2 (h k (by omega))
    have hm := h m (by omega)
    rw [List.length_erase_of_mem hm] at h1
    have := List.length_pos_of_mem hm
    omega
/-- some are left just if the list is not full -/
theorem left_zero (hC : ClashOK n pairs) {l : List Int} (h : PerfOK n l) {left : Int} (hl : W32 left) (hb : ∀ k : Nat, bt left k = (decide ((k : Int) < n) && !decide ((k : Int) ∈ l))) : (left != 0) = decide ((l.length : Int) < n) := by
  have hp := hC.pos
  rw [Bool.eq_iff_iff, bne_iff_ne, decide_eq_true_eq]
  constructor
  · intro hne
    apply Classical.byContradiction
    intro hge
    have hlen := h.len (by omega)
    refine hne (bt_ext hl W32_zero fun k _ => ?_)
    rw [hb, bt_zero]
    by_cases hk : (k : Int) < n
    · by_cases hm : (k : Int) ∈ l
      · rw [decide_eq_true hm]; simp
      · have := (h.snoc ⟨by omega, hk⟩ hm).len (by omega)
        simp at this
        omega
    · rw [decide_eq_false hk]; rfl
  · intro hlt h0
    subst h0
    have hall : ∀ k : Nat, (k : Int) < n → (k : Int) ∈ l := fun k hk => by
      have := hb k
      rw [bt_zero, decide_eq_true hk, Bool.true_and] at this
      simpa using this.symm
    have := all_in n.toNat l fun k hk => hall k (by omega)
    omega

theorem perfect_l2 (hC : ClashOK n pairs) (hn : 300 ≤ nf) {w : List Int} (hw : WithOK n pairs w) {l : List Int} (h : PerfOK n l) {left : Int} (hl : W32 left) (hb : ∀ k : Nat, bt left k = (decide ((k : Int) < n) && !decide ((k : Int) ∈ l))) (g : List Int → Int → List Int → Option (List Int × Int × Unit)) :
    color_Perfect_l2 nf left w g nf w left l 0 = match findFrom (goodB n pairs l) n.toNat 0 with | some i => g w (not32 left (shlI .u32 1 i)) (l ++ [i]) | none => some ([], 5, ()) := by
  have hp := hC.pos
  have hf := hC.few
  have hlen := h.len (by omega)
  have key := loop_first (n := n) (F := fun fu t => color_Perfect_l2 nf left w g fu w left l t) (hit := fun i => g w (not32 left (shlI .u32 1 i)) (l ++ [i])) (miss := some ([], 5, ()))
    (goodB n pairs l) (fun fu t ht0 ht1 => by
      have h1 := shr_and_beq1 hl ht0 (show t < 32 by omega)
      obtain ⟨wt, bw⟩ := hw.2 t ht0 ht1
      have e1 : and32 (w.getD t.toNat 0) left = sGo pairs l t n.toNat := bt_ext (and32_w _ _) (sGo_w _) fun k _ => by
        rw [and32_bt wt hl, bw, hb, sGo_bt n.toNat (by omega)]
        rw [show decide ((k : Int) < n) = decide (k < n.toNat) by simp only [decide_eq_decide]; omega]
        cases clashB pairs t k <;> cases decide (k < n.toNat) <;> cases decide ((k : Int) ∈ l) <;> rfl
      have h2 := all_F hC hn hw (and32_w (w.getD t.toNat 0) left) (fun k hk => by
        rw [e1, sGo_bt n.toNat (by omega), Bool.and_eq_true, decide_eq_true_eq] at hk; omega)
      rw [e1] at h2
      have e1' := e1
      unfold and32 at h1 e1'
      have hbl := ble_ok (n := l.length + 1) (by omega)
      rw [color_Perfect_l2, color_Perfect_b2, h1, e1', h2, hw.1, inb_ok (t := t) (n := w.length) ht0 (by rw [hw.1]; exact ht1), wrap_step (n := 8) ht0 (by omega) (by decide), hb, decide_eq_true (show ((t.toNat : Nat) : Int) < n by omega), Bool.true_and, show ((t.toNat : Nat) : Int) = t by omega]
      simp only [ht1, ht0, decide_true, cond_true, Option.bind_some, goodB]
      have hne : t ∉ l → (not32 left (shlI .u32 1 t) == left) = false := fun hm => by
        refine beq_f fun he => ?_
        have : bt (not32 left (shlI .u32 1 t)) t.toNat = bt left t.toNat := by rw [he]
        rw [not32_bt hl (one_w ht0 (by omega)), one_bt ht0 (by omega), hb, decide_eq_true (show ((t.toNat : Nat) : Int) < n by omega), show ((t.toNat : Nat) : Int) = t by omega] at this
        simp [hm] at this
      unfold not32 at hne ⊢
      by_cases hm : t ∈ l
      · simp [hm]
      · have hne := hne hm
        simp only [hm, decide_false, Bool.not_false, cond_true, Bool.true_and]
        cases cliqueB n pairs (sGo pairs l t n.toNat) with
        | false => rfl
        | true =>
          simp only [cond_true, bimp, Bool.true_and, List.length_cons, List.length_nil, Nat.zero_add, hbl]
          rw [hne]; rfl)
    (fun fu => by rw [color_Perfect_l2, color_Perfect_b2, hw.1]; simp) nf 0 (Int.le_refl _) (by omega) (by omega)
  rw [show (n - 0).toNat = n.toNat by omega] at key
  exact key

theorem perfect_l0 (hC : ClashOK n pairs) (hn : 300 ≤ nf) {w : List Int} (hw : WithOK n pairs w) : ∀ (fu m : Nat) (l : List Int) (left : Int), m + l.length = n.toNat → m < fu → PerfOK n l → W32 left → (∀ k : Nat, bt left k = (decide ((k : Int) < n) && !decide ((k : Int) ∈ l))) →
    color_Perfect_l0 nf fu w left l = some ((perfGo n pairs m l).1, (perfGo n pairs m l).2, ())
  | 0, _, _, _, _, h, _, _, _ => by omega
  | fu + 1, m, l, left, hm, hfu, h, hl, hb => by
    have hp := hC.pos
    have hf := hC.few
    rw [color_Perfect_l0, color_Perfect_b0, left_zero hC h hl hb]
    cases m with
    | zero =>
      rw [decide_eq_false (show ¬ (l.length : Int) < n by omega)]; rfl
    | succ m =>
      rw [decide_eq_true (show (l.length : Int) < n by omega), cond_true]
      refine (perfect_l2 hC hn hw h hl hb (fun with' left l' => color_Perfect_l0 nf fu with' left l')).trans ?_
      simp only [perfGo]
      cases hfd : findFrom (goodB n pairs l) n.toNat 0 with
      | none => rfl
      | some i =>
        obtain ⟨i0, i1, hg⟩ := findFrom_some hfd
        have hi : i ∉ l := by
          simp only [goodB, Bool.and_eq_true, Bool.not_eq_true', decide_eq_false_iff_not] at hg
          exact hg.1
        refine perfect_l0 hC hn hw fu m (l ++ [i]) _ (by simp; omega) (by omega) (h.snoc ⟨i0, by omega⟩ hi) (not32_w _ _) fun k => ?_
        rw [not32_bt hl (one_w i0 (by omega)), one_bt i0 (by omega), hb]
        by_cases hk : k = i.toNat
        · subst hk
          rw [show ((i.toNat : Nat) : Int) = i by omega]; simp
        · rw [decide_eq_false hk]
          have : (k : Int) ∈ l ++ [i] ↔ (k : Int) ∈ l := by simp; omega
          simp [this]

theorem perfects_l4 (hC : ClashOK n pairs) (hn : 300 ≤ nf) {l : List Int} (h : PerfOK n l) (rr : List Int × Int × Unit) (l' : List Int) (one : Int) {i : Int} (hi : 0 ≤ i ∧ i < n) (g2 : List Int → List Int → Int → Int → Option (Bool × Unit)) (g0 : List Int → List Int → Option (Bool × Unit)) :
    law_ColorPerfects_l4 nf n pairs rr one i g2 g0 nf l' l 0 0 = g2 l' l (bif goodB n pairs l i then i else one) (i - 1) := by
  have hp := hC.pos
  have hf := hC.few
  have hlen := h.len (by omega)
  have hw1 : IntKind.i64.wrap (i - 1) = i - 1 := by
    by_cases h0 : i = 0
    · subst h0; decide
    · rw [show i - 1 = (i - 2) + 1 by omega]
      by_cases h1 : i = 1
      · subst h1; decide
      · exact wrap_step (n := 8) (by omega) (by omega) (by decide)
  have hhas := fun x => chas_F (nf := nf) (l := l) x (Nat.le_trans (show l.length ≤ 8 by omega) (by decide)) (by omega)
  have key := loop_inv (n := n) (F := fun fu j (q : Int) => law_ColorPerfects_l4 nf n pairs rr one i g2 g0 fu l' l q j)
    (fun j q => q = sGo pairs l i j.toNat) ?_ nf 0 0 (Int.le_refl _) (by omega) (by omega) rfl
  · obtain ⟨fu', q, h1, h5⟩ := key
    subst h1
    rw [h5, law_ColorPerfects_l4, law_ColorPerfects_b4, ref_Cliques_F hC hn (sGo_w _), hw1]
    simp only [hhas, Int.lt_irrefl, decide_false, cond_false, Option.bind_some, goodB]
    cases decide (i ∈ l) <;> cases cliqueB n pairs (sGo pairs l i n.toNat) <;> rfl
  · rintro fu j q hj0 hj1 rfl
    refine ⟨_, ?_, rfl⟩
    have hadd := add_bit (sGo_w (pairs := pairs) (l := l) (i := i) j.toNat) hj0 (show j < 32 by omega) fun k hk => by
      rw [sGo_bt j.toNat (by omega), decide_eq_false (by omega)]; rfl
    rw [show (j + 1).toNat = j.toNat + 1 by omega, sGo, law_ColorPerfects_l4, law_ColorPerfects_b4, hhas, clash_F hC.len hn, wrap_step (n := 8) hj0 (by omega) (by decide), wrap_u64 hj0 (by omega), hadd, show ((j.toNat : Nat) : Int) = j by omega]
    simp only [hj1, hj0, decide_true, cond_true, Option.bind_some]
    cases decide (j ∈ l) <;> cases clashB pairs i j <;> rfl

theorem perfects_l2 (hC : ClashOK n pairs) (hn : 300 ≤ nf) {l : List Int} (h : PerfOK n l) (rr : List Int × Int × Unit) (l' : List Int) (g : List Int → List Int → Option (Bool × Unit)) :
    law_ColorPerfects_l2 nf n pairs rr g nf l' l (-1) (n - 1) = match findFrom (goodB n pairs l) n.toNat 0 with | some i => g l' (l ++ [i]) | none => bif rr.2.1 == 5 then some ((l'.length : Int) == 0, ()) else some (false, ()) := by
  have hp := hC.pos
  have hf := hC.few
  have hlen := h.len (by omega)
  have key := loop_inv (n := n) (F := fun fu t (q : Int) => law_ColorPerfects_l2 nf n pairs rr g fu l' l q (n - 1 - t))
    (fun t q => q = (findFrom (goodB n pairs l) t.toNat (n - t)).getD (-1)) ?_ nf 0 (-1) (Int.le_refl _) (by omega) (by omega) rfl
  · obtain ⟨fu', q, h1, h5⟩ := key
    rw [show n - n = 0 by omega] at h1
    subst h1
    rw [show n - 1 - 0 = n - 1 by omega] at h5
    rw [h5, law_ColorPerfects_l2, law_ColorPerfects_b2]
    simp only [show ¬ n - 1 - n ≥ 0 by omega, decide_false, cond_false]
    have hbl := ble_ok (n := l.length + 1) (by omega)
    cases hfd : findFrom (goodB n pairs l) n.toNat 0 with
    | none => simp
    | some i =>
      obtain ⟨i0, _, _⟩ := findFrom_some hfd
      simp [bimp, hbl, show ¬ i < 0 by omega]
  · rintro fu t q ht0 ht1 rfl
    refine ⟨_, ?_, rfl⟩
    rw [show (t + 1).toNat = t.toNat + 1 by omega, findFrom, law_ColorPerfects_l2, law_ColorPerfects_b2]
    simp only [show n - 1 - t ≥ 0 by omega, decide_true, cond_true]
    have := perfects_l4 hC hn h rr l' ((findFrom (goodB n pairs l) t.toNat (n - t)).getD (-1)) (i := n - 1 - t) ⟨by omega, by omega⟩ (fun l'2 want2 one i => law_ColorPerfects_l2 nf n pairs rr g fu l'2 want2 one i) g
    refine this.trans ?_
    rw [show n - 1 - t - 1 = n - 1 - (t + 1) by omega, show n - (t + 1) = n - 1 - t by omega, show n - 1 - t + 1 = n - t by omega]
    cases goodB n pairs l (n - 1 - t) <;> rfl

theorem perfects_l0 (hC : ClashOK n pairs) (hn : 300 ≤ nf) (R : List Int × Int) : ∀ (fu m : Nat) (l : List Int), m + l.length = n.toNat → m < fu → PerfOK n l → R = perfGo n pairs m l →
    law_ColorPerfects_l0 nf n pairs (R.1, R.2, ()) fu R.1 l = some (true, ())
  | 0, _, _, _, h, _, _ => by omega
  | fu + 1, m, l, hm, hfu, h, hR => by
    have hp := hC.pos
    have hf := hC.few
    rw [law_ColorPerfects_l0, law_ColorPerfects_b0]
    cases m with
    | zero =>
      have hR' : R = (l, 0) := hR
      rw [hR', decide_eq_false (show ¬ (l.length : Int) < n by omega)]
      simp only [cond_false, show ((0 : Int) == 0) = true from rfl, cond_true, cints_F (nf := nf) l l (Nat.le_trans (show l.length ≤ 8 by omega) (by decide)) (by omega), decide_true, Option.bind_some]
    | succ m =>
      have hw1 : IntKind.i64.wrap (n - 1) = n - 1 := by
        rw [show n - 1 = (n - 2) + 1 by omega]
        by_cases h1 : n = 1
        · subst h1; decide
        · exact wrap_step (n := 8) (by omega) (by omega) (by decide)
      rw [decide_eq_true (show (l.length : Int) < n by omega), cond_true, hw1]
      refine (perfects_l2 hC hn h (R.1, R.2, ()) R.1 (fun l' want => law_ColorPerfects_l0 nf n pairs (R.1, R.2, ()) fu l' want)).trans ?_
      simp only [perfGo] at hR
      cases hfd : findFrom (goodB n pairs l) n.toNat 0 with
      | none =>
        rw [hfd] at hR
        rw [hR]; rfl
      | some i =>
        rw [hfd] at hR
        obtain ⟨i0, i1, hg⟩ := findFrom_some hfd
        have hi : i ∉ l := by
          simp only [goodB, Bool.and_eq_true, Bool.not_eq_true', decide_eq_false_iff_not] at hg
          exact hg.1
        exact perfects_l0 hC hn R fu m (l ++ [i]) (by simp; omega) (by omega) (h.snoc ⟨i0, by omega⟩ hi) hR

theorem colorPerfects_main (hn : 300 ≤ nf) (n : Int) (pairs : List (Int × Int × Unit)) : law_ColorPerfects_f nf n pairs = some (true, ()) := by
  obtain ⟨w, h1, h2, h3⟩ := clashes_F (n := n) (pairs := pairs) hn
  simp only [law_ColorPerfects_f, law_ColorPerfects_p, color_Perfect_f, color_Perfect_p, h3, ref_ClashCheck_F hn, Option.bind_some]
  by_cases hc : clashCode n pairs = 0
  · have hC := clashCode_ok hc
    have hp := hC.pos
    have hf := hC.few
    have hshl := shl_n hC
    have hfull : ∀ j : Nat, bt (((2 ^ n.toNat : Nat) : Int) - 1) j = decide (j < n.toNat) := fun j => by
      have hpos : 0 < (2 : Nat) ^ n.toNat := Nat.pos_of_ne_zero (by simp)
      show ((((2 ^ n.toNat : Nat) : Int) - 1).toNat).testBit j = _
      rw [show (((2 ^ n.toNat : Nat) : Int) - 1).toNat = 2 ^ n.toNat - 1 by omega]
      exact Nat.testBit_two_pow_sub_one _ _
    have hpow := pow_n hC
    have hpos : 0 < (2 : Nat) ^ n.toNat := Nat.pos_of_ne_zero (by simp)
    generalize 2 ^ n.toNat = N at hshl hfull hpow hpos
    have wN : W32 ((N : Int) - 1) := ⟨by omega, by omega⟩
    have hP : PerfOK n [] := ⟨List.nodup_nil, fun x hx => by cases hx⟩
    have e := perfect_l0 hC hn (h1 hc) nf n.toNat [] ((N : Int) - 1) (by simp) (by omega) hP wN fun k => by
      rw [hfull]; simp only [List.not_mem_nil, decide_false, Bool.not_false, Bool.and_true, decide_eq_decide]; omega
    simp only [hc, show ((0 : Int) != 0) = false from rfl, cond_false, decide_eq_true (show (0 : Int) ≤ n by omega), cond_true, hshl, wN.wrap, e, Option.bind_some]
    exact perfects_l0 hC hn (perfGo n pairs n.toNat []) nf n.toNat [] (by simp) (by omega) hP rfl
  · have := h2 hc
    subst this
    simp [bne_t hc]

theorem colorPerfects_law (x : denPs (lawPs [.int .i64, .sl (.pair (.int .i64) (.pair (.int .i64) .unit))])) (_ : wfPs [.int .i64, .sl (.pair (.int .i64) (.pair (.int .i64) .unit))] x) : ∃ n, law_ColorPerfects_F n x = some (true, ()) := by
  obtain ⟨n, pairs, _⟩ := x
  exact ⟨300, colorPerfects_main (Nat.le_refl _) n pairs⟩
end Go.Proofs.Ytgbldmehdipfaaa
