/- color.Peel tells which things are left. -/
import Derived.Test.YtgbldmehdipfaaaClash
import Derived.Test.YtgbldmehdipfaaaAbLaw
namespace Go.Proofs.Ytgbldmehdipfaaa
open Go Go.Ab S

variable {nf : Nat} {pairs : List (Int × Int × Unit)} {n k : Int}

/-- how many of t clash with i -/
def nbr (n : Int) (pairs : List (Int × Int × Unit)) (t i : Int) : Nat := cnt (fun j => bt t j && clashB pairs i (j : Nat)) n.toNat
theorem nbr_mono {s t i : Int} (h : ∀ j : Nat, bt s j = true → bt t j = true) : nbr n pairs s i ≤ nbr n pairs t i := cnt_le fun j _ hj => by
  simp only [Bool.and_eq_true] at hj ⊢
  exact ⟨h j hj.1, hj.2⟩

theorem nbr_ones (hC : ClashOK n pairs) {w : List Int} (hw : WithOK n pairs w) {t i : Int} (ht : W32 t) (hi : 0 ≤ i ∧ i < n) : bits_OnesCount32_f nf (and32 (w.getD i.toNat 0) t) = some (((nbr n pairs t i : Nat) : Int), ()) := by
  have hp := hC.pos
  have hf := hC.few
  obtain ⟨h1, h2⟩ := hw.2 i hi.1 hi.2
  rw [ones_F nf (and32_w _ _), nbr]
  have e : cnt (bt (and32 (w.getD i.toNat 0) t)) 32 = cnt (fun j => bt t j && clashB pairs i (j : Nat)) 32 := cnt_congr fun j _ => by rw [and32_bt h1 ht, h2, Bool.and_comm]
  rw [e, show (32 : Nat) = n.toNat + (32 - n.toNat) by omega, cnt_cut fun j hj => ?_]
  cases hc : clashB pairs i (j : Nat) with
  | false => rw [Bool.and_false]
  | true => exact absurd (clash_in hC hc).2.1 (by omega)

/-- one round, up to thing t -/
def peelGo (n : Int) (pairs : List (Int × Int × Unit)) (k w : Int) : Nat → Int
  | 0 => w
  | t + 1 => bif bt (peelGo n pairs k w t) t && decide (((nbr n pairs (peelGo n pairs k w t) t : Nat) : Int) < k) then not32 (peelGo n pairs k w t) (shlI .u32 1 t) else peelGo n pairs k w t
def peel (n : Int) (pairs : List (Int × Int × Unit)) (k w : Int) : Int := peelGo n pairs k w n.toNat

theorem peelGo_w {w : Int} (h : W32 w) : ∀ t, W32 (peelGo n pairs k w t)
  | 0 => h
  | t + 1 => by
    simp only [peelGo]
    cases (bt (peelGo n pairs k w t) t && decide (((nbr n pairs (peelGo n pairs k w t) t : Nat) : Int) < k))
    · exact peelGo_w h t
    · exact not32_w _ _
theorem peelGo_down (hC : ClashOK n pairs) {w : Int} (h : W32 w) : ∀ t : Nat, (t : Int) ≤ n → ∀ j, bt (peelGo n pairs k w t) j = true → bt w j = true
  | 0, _, _, hj => hj
  | t + 1, ht, j, hj => by
    have hf := hC.few
    refine peelGo_down hC h t (by omega) j ?_
    simp only [peelGo] at hj
    cases hc : (bt (peelGo n pairs k w t) t && decide (((nbr n pairs (peelGo n pairs k w t) t : Nat) : Int) < k)) with
    | false => rw [hc] at hj; exact hj
    | true =>
      rw [hc, cond_true, not32_bt (peelGo_w h t) (one_w (by omega) (by omega)), Bool.and_eq_true] at hj
      exact hj.1
/-- a set that holds itself stays in -/
theorem peelGo_keep (hC : ClashOK n pairs) {w s : Int} (h : W32 w) (hs : ∀ i : Nat, bt s i = true → k ≤ ((nbr n pairs s i : Nat) : Int)) (hw : ∀ j, bt s j = true → bt w j = true) : ∀ t : Nat, (t : Int) ≤ n → ∀ j, bt s j = true → bt (peelGo n pairs k w t) j = true
  | 0, _, j, hj => hw j hj
  | t + 1, ht, j, hj => by
    have hf := hC.few
    have ih := peelGo_keep hC h hs hw t (by omega)
    simp only [peelGo]
    cases hc : (bt (peelGo n pairs k w t) t && decide (((nbr n pairs (peelGo n pairs k w t) t : Nat) : Int) < k)) with
    | false => exact ih j hj
    | true =>
      rw [cond_true, not32_bt (peelGo_w h t) (one_w (by omega) (by omega)), one_bt (by omega) (by omega), ih j hj]
      by_cases hjt : j = t
      · subst hjt
        have h1 := hs j hj
        have h2 := nbr_mono (n := n) (pairs := pairs) (i := j) ih
        simp only [Bool.and_eq_true, decide_eq_true_eq] at hc
        omega
      · rw [decide_eq_false (by omega)]; rfl
/-- nothing goes any more -/
theorem peel_fix (hC : ClashOK n pairs) {w : Int} (h : W32 w) (he : peel n pairs k w = w) : ∀ i : Nat, (i : Int) < n → bt w i = true → k ≤ ((nbr n pairs w i : Nat) : Int) := by
  have hf := hC.few
  -- each stage is the same
  have hst : ∀ d t : Nat, t + d = n.toNat → peelGo n pairs k w t = w := by
    intro d
    induction d with
    | zero =>
      intro t ht
      rw [show t = n.toNat by omega]; exact he
    | succ d ih =>
      intro t ht
      have h1 := ih (t + 1) (by omega)
      refine bt_ext (peelGo_w h t) h fun j _ => ?_
      rw [Bool.eq_iff_iff]
      refine ⟨peelGo_down hC h t (by omega) j, fun hj => ?_⟩
      rw [← h1] at hj
      simp only [peelGo] at hj
      cases hc : (bt (peelGo n pairs k w t) t && decide (((nbr n pairs (peelGo n pairs k w t) t : Nat) : Int) < k)) with
      | false => rw [hc] at hj; exact hj
      | true =>
        rw [hc, cond_true, not32_bt (peelGo_w h t) (one_w (by omega) (by omega)), Bool.and_eq_true] at hj
        exact hj.1
  intro i hi hb
  have h1 := hst (n.toNat - i) i (by omega)
  have h2 := hst (n.toNat - (i + 1)) (i + 1) (by omega)
  apply Classical.byContradiction
  intro hlt
  simp only [peelGo, h1, hb, Bool.true_and, decide_eq_true (show ((nbr n pairs w i : Nat) : Int) < k by omega), cond_true] at h2
  have h3 : bt (not32 w (shlI .u32 1 i)) i = bt w i := by rw [h2]
  rw [not32_bt h (one_w (by omega) (by omega)), one_bt (by omega) (by omega), hb, decide_eq_true (by omega)] at h3
  cases h3

theorem peel_l2 (hC : ClashOK n pairs) (hn : 300 ≤ nf) {w : List Int} (hw : WithOK n pairs w) {l : Int} (hl : W32 l) (g : List Int → Int → Bool → Option (Int × Int × Unit)) :
    color_Peel_l2 nf k l w g nf w l 0 = g w (peel n pairs k l) (peel n pairs k l != l) := by
  have hp := hC.pos
  have hf := hC.few
  have key := loop_inv (n := n) (F := fun fu t (q : Int) => color_Peel_l2 nf k l w g fu w q t)
    (fun t q => q = peelGo n pairs k l t.toNat) ?_ nf 0 l (Int.le_refl _) (by omega) (by omega) rfl
  · obtain ⟨fu', q, h1, h5⟩ := key
    subst h1
    rw [h5, color_Peel_l2, color_Peel_b2, hw.1]
    simp only [Int.lt_irrefl, decide_false, cond_false, peel]
  · rintro fu t q ht0 ht1 rfl
    refine ⟨_, ?_, rfl⟩
    have hq := peelGo_w (n := n) (pairs := pairs) (k := k) hl t.toNat
    have h1 := shr_and_beq1 hq ht0 (show t < 32 by omega)
    have h2 := nbr_ones (nf := nf) hC hw hq ⟨ht0, ht1⟩
    unfold and32 at h1 h2
    rw [show (t + 1).toNat = t.toNat + 1 by omega, peelGo, color_Peel_l2, color_Peel_b2, h1, h2, hw.1, inb_ok (t := t) (n := w.length) ht0 (by rw [hw.1]; exact ht1), wrap_step (n := 8) ht0 (by omega) (by decide), show ((t.toNat : Nat) : Int) = t by omega]
    simp only [ht1, ht0, decide_true, cond_true, Option.bind_some]
    unfold not32
    cases bt (peelGo n pairs k l t.toNat) t.toNat <;> cases decide (((nbr n pairs (peelGo n pairs k l t.toNat) t : Nat) : Int) < k) <;> rfl

theorem word_le' {v w : Int} (hv : W32 v) (hw : W32 w) (h : ∀ k, bt v k = true → bt w k = true) (hne : v ≠ w) : v.toNat < w.toNat := by
  have h1 : v.toNat ≤ w.toNat := Nat.le_of_testBit fun k hk => h k hk
  have := hv.1
  have := hw.1
  omega

theorem peel_l0 (hC : ClashOK n pairs) (hn : 300 ≤ nf) {w : List Int} (hw : WithOK n pairs w) : ∀ (fu : Nat) {l : Int}, W32 l → l.toNat + 1 < fu →
    ∃ l', W32 l' ∧ (∀ j, bt l' j = true → bt l j = true) ∧ (∀ i : Nat, (i : Int) < n → bt l' i = true → k ≤ ((nbr n pairs l' i : Nat) : Int)) ∧
      (∀ s, (∀ i : Nat, bt s i = true → k ≤ ((nbr n pairs s i : Nat) : Int)) → (∀ j, bt s j = true → bt l j = true) → ∀ j, bt s j = true → bt l' j = true) ∧ color_Peel_l0 nf k fu w l true = some (l', 0, ())
  | 0, _, _, h => by omega
  | fu + 1, l, hl, h => by
    have hp := hC.pos
    have hf := hC.few
    have e : color_Peel_l0 nf k (fu + 1) w l true = color_Peel_l0 nf k fu w (peel n pairs k l) (peel n pairs k l != l) := by
      rw [color_Peel_l0, color_Peel_b0, cond_true]
      exact peel_l2 hC hn hw hl (fun with' left more => color_Peel_l0 nf k fu with' left more)
    have hpw := peelGo_w (n := n) (pairs := pairs) (k := k) hl n.toNat
    have hdown := peelGo_down (k := k) hC hl n.toNat (by omega)
    by_cases he : peel n pairs k l = l
    · refine ⟨l, hl, fun _ h => h, peel_fix hC hl he, fun s _ hs => hs, ?_⟩
      rw [e, he, bne_self_eq_false]
      obtain ⟨fu', rfl⟩ : ∃ f, fu = f + 1 := ⟨fu - 1, by omega⟩
      rw [color_Peel_l0, color_Peel_b0, cond_false]
    · have hlt := word_le' hpw hl hdown he
      obtain ⟨l', h1, h2, h3, h4, h5⟩ := peel_l0 hC hn hw fu (l := peel n pairs k l) hpw (by unfold peel; omega)
      refine ⟨l', h1, fun j hj => hdown j (h2 j hj), h3, fun s hs hsl => h4 s hs (peelGo_keep hC hl hs hsl n.toNat (by omega)), ?_⟩
      rw [e, bne_t he]; exact h5

/-- does t hold itself? up to thing i -/
def okGo (n : Int) (pairs : List (Int × Int × Unit)) (k t : Int) : Nat → Bool
  | 0 => true
  | i + 1 => okGo n pairs k t i && (!bt t i || decide (((nbr n pairs t i : Nat) : Int) ≥ k))
theorem okGo_iff {t : Int} : ∀ {m : Nat}, okGo n pairs k t m = true ↔ ∀ i : Nat, i < m → bt t i = true → k ≤ ((nbr n pairs t i : Nat) : Int)
  | 0 => by simp [okGo]
  | m + 1 => by
    simp only [okGo, Bool.and_eq_true, okGo_iff (m := m), Bool.or_eq_true, Bool.not_eq_true', decide_eq_true_eq]
    constructor
    · rintro ⟨h1, h2⟩ i hi hb
      by_cases him : i = m
      · subst him
        rcases h2 with h2 | h2
        · rw [h2] at hb; cases hb
        · exact h2
      · exact h1 i (by omega) hb
    · intro h
      refine ⟨fun i hi => h i (by omega), ?_⟩
      cases hb : bt t m with
      | false => exact .inl rfl
      | true => exact .inr (h m (by omega) hb)
/-- the sets that hold themselves, together -/
def wantGo (n : Int) (pairs : List (Int × Int × Unit)) (k : Int) : Nat → Int
  | 0 => 0
  | t + 1 => bif okGo n pairs k t n.toNat then or32 (wantGo n pairs k t) t else wantGo n pairs k t
theorem wantGo_w : ∀ t, W32 (wantGo n pairs k t)
  | 0 => W32_zero
  | t + 1 => by
    simp only [wantGo]
    cases okGo n pairs k t n.toNat
    · exact wantGo_w t
    · exact or32_w _ _
theorem wantGo_bt : ∀ {T : Nat}, T ≤ 256 → ∀ j, bt (wantGo n pairs k T) j = true ↔ ∃ t : Nat, t < T ∧ okGo n pairs k t n.toNat = true ∧ bt (t : Int) j = true
  | 0, _, j => by simp [wantGo, bt_zero]
  | T + 1, hT, j => by
    have ih := wantGo_bt (T := T) (by omega) j
    simp only [wantGo]
    cases hok : okGo n pairs k T n.toNat with
    | false =>
      rw [cond_false, ih]
      constructor
      · rintro ⟨t, h1, h2⟩; exact ⟨t, by omega, h2⟩
      · rintro ⟨t, h1, h2, h3⟩
        refine ⟨t, ?_, h2, h3⟩
        by_cases htT : t = T
        · subst htT; rw [hok] at h2; cases h2
        · omega
    | true =>
      rw [cond_true, or32_bt (wantGo_w T) ⟨by omega, by omega⟩, Bool.or_eq_true, ih]
      constructor
      · rintro (⟨t, h1, h2⟩ | h)
        · exact ⟨t, by omega, h2⟩
        · exact ⟨T, by omega, hok, h⟩
      · rintro ⟨t, h1, h2, h3⟩
        by_cases htT : t = T
        · subst htT; exact .inr h3
        · exact .inl ⟨t, by omega, h2, h3⟩

theorem lawPeels_l4 (hC : ClashOK n pairs) (hn : 300 ≤ nf) {t : Int} (ht : W32 t) (rr : Int × Int × Unit) (want : Int) (ok : Bool) {i : Int} (hi : 0 ≤ i ∧ i < n) (g2 : Bool → Int → Option (Bool × Unit)) (g0 : Int → Int → Option (Bool × Unit)) :
    law_ColorPeels_l4 nf n pairs k rr want t ok i g2 g0 nf 0 0 = g2 (ok && (!bt t i.toNat || decide (((nbr n pairs t i : Nat) : Int) ≥ k))) (i + 1) := by
  have hp := hC.pos
  have hf := hC.few
  have key := loop_inv (n := n) (F := fun fu j (q : Int) => law_ColorPeels_l4 nf n pairs k rr want t ok i g2 g0 fu q j)
    (fun j q => q = ((cnt (fun j => bt t j && clashB pairs i (j : Nat)) j.toNat : Nat) : Int)) ?_ nf 0 0 (Int.le_refl _) (by omega) (by omega) rfl
  · obtain ⟨fu', q, h1, h5⟩ := key
    subst h1
    rw [h5, law_ColorPeels_l4, law_ColorPeels_b4, cbit_F nf ht hi.1 (by omega), wrap_step (n := 8) hi.1 (by omega) (by decide)]
    simp only [Int.lt_irrefl, decide_false, cond_false, Option.bind_some, nbr]
    cases ok <;> cases bt t i.toNat <;> rfl
  · rintro fu j q hj0 hj1 rfl
    refine ⟨_, ?_, rfl⟩
    have hc := cnt_n (fun j => bt t j && clashB pairs i (j : Nat)) j.toNat
    have e : cnt (fun j => bt t j && clashB pairs i (j : Nat)) (j.toNat + 1) = cnt (fun j => bt t j && clashB pairs i (j : Nat)) j.toNat + (if (bt t j.toNat && clashB pairs i (j.toNat : Nat)) = true then 1 else 0) := rfl
    rw [show (j + 1).toNat = j.toNat + 1 by omega, e, law_ColorPeels_l4, law_ColorPeels_b4, cbit_F nf ht hj0 (by omega), clash_F hC.len hn, wrap_step (n := 8) hj0 (by omega) (by decide), wrap_step (n := 40) (t := ((cnt (fun j => bt t j && clashB pairs i (j : Nat)) j.toNat : Nat) : Int)) (by omega) (by omega) (by decide), show ((j.toNat : Nat) : Int) = j by omega]
    simp only [hj1, decide_true, cond_true, Option.bind_some]
    cases bt t j.toNat <;> cases clashB pairs i j <;> simp

theorem lawPeels_l2 (hC : ClashOK n pairs) (hn : 300 ≤ nf) {t : Int} (ht : W32 t) (h1 : t < 256) (rr : Int × Int × Unit) (want : Int) (g0 : Int → Int → Option (Bool × Unit)) :
    law_ColorPeels_l2 nf n pairs k rr want t g0 nf true 0 = g0 (bif okGo n pairs k t n.toNat then or32 want t else want) (t + 1) := by
  have hp := hC.pos
  have hf := hC.few
  have key := loop_inv (n := n) (F := fun fu i (q : Bool) => law_ColorPeels_l2 nf n pairs k rr want t g0 fu q i)
    (fun i q => q = okGo n pairs k t i.toNat) ?_ nf 0 true (Int.le_refl _) (by omega) (by omega) rfl
  · obtain ⟨fu', q, h1', h5⟩ := key
    subst h1'
    rw [h5, law_ColorPeels_l2, law_ColorPeels_b2, (show W32 (t + 1) from ⟨by have := ht.1; omega, by omega⟩).wrap]
    simp only [Int.lt_irrefl, decide_false, cond_false]
    cases okGo n pairs k t n.toNat <;> rfl
  · rintro fu i q hi0 hi1 rfl
    refine ⟨_, ?_, rfl⟩
    rw [show (i + 1).toNat = i.toNat + 1 by omega, okGo, law_ColorPeels_l2, law_ColorPeels_b2, show ((i.toNat : Nat) : Int) = i by omega]
    simp only [hi1, decide_true, cond_true]
    exact lawPeels_l4 hC hn ht rr want _ ⟨hi0, hi1⟩ (fun ok i => law_ColorPeels_l2 nf n pairs k rr want t g0 fu ok i) g0

theorem colorPeels_main (hn : 400 ≤ nf) (n : Int) (pairs : List (Int × Int × Unit)) (k : Int) : law_ColorPeels_f nf n pairs k = some (true, ()) := by
  obtain ⟨w, h1, h2, h3⟩ := clashes_F (nf := nf) (n := n) (pairs := pairs) (by omega)
  simp only [law_ColorPeels_f, law_ColorPeels_p, color_Peel_f, color_Peel_p, h3, ref_ClashCheck_F (show 300 ≤ nf by omega), Option.bind_some]
  by_cases hc : clashCode n pairs = 0
  · have hC := clashCode_ok hc
    have hp := hC.pos
    have hf := hC.few
    have hw := h1 hc
    by_cases hk : k < 0
    · simp [hc, hk]
    · have hpow : (2 : Nat) ^ n.toNat ≤ 256 := Nat.le_trans (Nat.pow_le_pow_right (by decide) (show n.toNat ≤ 8 by omega)) (by decide)
      have hpos : 0 < (2 : Nat) ^ n.toNat := Nat.pos_of_ne_zero (by simp)
      have hshl : shlI .u32 1 n = ((2 ^ n.toNat : Nat) : Int) := shl_one (by omega) (by omega)
      have hfull : ∀ j : Nat, bt (((2 ^ n.toNat : Nat) : Int) - 1) j = decide (j < n.toNat) := fun j => by
        show ((((2 ^ n.toNat : Nat) : Int) - 1).toNat).testBit j = _
        rw [show (((2 ^ n.toNat : Nat) : Int) - 1).toNat = 2 ^ n.toNat - 1 by omega]
        exact Nat.testBit_two_pow_sub_one _ _
      have hsmall : ∀ t : Int, 0 ≤ t → t < ((2 ^ n.toNat : Nat) : Int) → ∀ j : Nat, bt t j = true → j < n.toNat := fun t h0 h1 j hj => by
        apply Classical.byContradiction
        intro hjn
        rw [bt_small (n := n.toNat) ⟨h0, by omega⟩ h1 (by omega)] at hj
        cases hj
      have hlast : ∀ l : Int, W32 l → (∀ j : Nat, bt l j = true → j < n.toNat) → l < ((2 ^ n.toNat : Nat) : Int) := fun l hl hb => hl.small fun j hj => by
        cases hx : bt l j with
        | false => rfl
        | true => have := hb j hx; omega
      generalize 2 ^ n.toNat = N at hpow hpos hshl hfull hsmall hlast
      have wN : W32 ((N : Int) - 1) := ⟨by omega, by omega⟩
      obtain ⟨l', g1, g2, g3, g4, g5⟩ := peel_l0 (k := k) hC (show 300 ≤ nf by omega) hw nf wN (by omega)
      have hl' : l' = wantGo n pairs k N := by
        refine bt_ext g1 (wantGo_w _) fun j _ => ?_
        rw [Bool.eq_iff_iff, wantGo_bt hpow]
        constructor
        · intro hj
          have hlt := hlast l' g1 fun j hj => by have := g2 j hj; rw [hfull] at this; simpa using this
          have h0 := g1.1
          refine ⟨l'.toNat, by omega, ?_, ?_⟩
          · rw [show ((l'.toNat : Nat) : Int) = l' by omega, okGo_iff]
            exact fun i hi hb => g3 i (by omega) hb
          · rw [show ((l'.toNat : Nat) : Int) = l' by omega]; exact hj
        · rintro ⟨t, ht, hok, hb⟩
          have hin := hsmall t (by omega) (by omega)
          refine g4 t (fun i hi => okGo_iff.1 hok i (hin i hi) hi) (fun j hj => ?_) j hb
          rw [hfull]; exact decide_eq_true (hin j hj)
      simp only [hc, hk, decide_false, cond_false, show ((0 : Int) != 0) = false from rfl, show ((0 : Int) == 0) = true from rfl, cond_true, decide_eq_true (show (0 : Int) ≤ n by omega), hshl, wN.wrap, g5, Option.bind_some]
      have key := loop_inv (n := (N : Int)) (F := fun fu t (q : Int) => law_ColorPeels_l0 nf n pairs k (l', 0, ()) fu q t)
        (fun t q => q = wantGo n pairs k t.toNat) ?_ nf 0 0 (Int.le_refl _) (by omega) (by omega) rfl
      · obtain ⟨fu', q, e1, e5⟩ := key
        subst e1
        rw [e5, law_ColorPeels_l0, law_ColorPeels_b0, wrap_u64 (by omega) (by omega), hshl, Int.toNat_natCast, ← hl']
        simp only [Int.lt_irrefl, decide_false, cond_false, decide_eq_true (show (0 : Int) ≤ n by omega), cond_true]
        simp
      · rintro fu t q ht0 ht1 rfl
        refine ⟨_, ?_, rfl⟩
        have wt : W32 t := ⟨ht0, by omega⟩
        rw [show (t + 1).toNat = t.toNat + 1 by omega, wantGo, law_ColorPeels_l0, law_ColorPeels_b0, wrap_u64 (by omega) (by omega), hshl, show ((t.toNat : Nat) : Int) = t by omega]
        simp only [decide_eq_true (show (0 : Int) ≤ n by omega), ht1, decide_true, cond_true]
        exact lawPeels_l2 hC (show 300 ≤ nf by omega) wt (by omega) (l', 0, ()) _ (fun want t => law_ColorPeels_l0 nf n pairs k (l', 0, ()) fu want t)
  · simp [bne_t hc, beq_f hc]

theorem colorPeels_law (x : denPs (lawPs [.int .i64, .sl (.pair (.int .i64) (.pair (.int .i64) .unit)), .int .i64])) (_ : wfPs [.int .i64, .sl (.pair (.int .i64) (.pair (.int .i64) .unit)), .int .i64] x) : ∃ n, law_ColorPeels_F n x = some (true, ()) := by
  obtain ⟨n, pairs, k, _⟩ := x
  exact ⟨400, colorPeels_main (Nat.le_refl _) n pairs k⟩
end Go.Proofs.Ytgbldmehdipfaaa
