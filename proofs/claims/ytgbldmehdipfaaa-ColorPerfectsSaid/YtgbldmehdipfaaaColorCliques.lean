/- color.Clique tells the first of the greatest sets of which any two clash. -/
import Derived.Test.YtgbldmehdipfaaaClash
import Derived.Test.YtgbldmehdipfaaaAbLaw
namespace Go.Proofs.Ytgbldmehdipfaaa
open Go Go.Ab S

variable {nf : Nat} {pairs : List (Int × Int × Unit)} {n : Int}

/-- do any two of s clash? -/
def cliqueP (n : Int) (pairs : List (Int × Int × Unit)) (s i j : Int) : Bool := !(bt s i.toNat && (bt s j.toNat && !clashB pairs i j))
def cliqueB (n : Int) (pairs : List (Int × Int × Unit)) (s : Int) : Bool := chk (fun i => chk (fun j => cliqueP n pairs s i j) i.toNat 0) n.toNat 0

theorem cliqueB_iff {s : Int} (hn : 0 ≤ n) : cliqueB n pairs s = true ↔ ∀ i j : Int, 0 ≤ j → j < i → i < n → bt s i.toNat = true → bt s j.toNat = true → clashB pairs i j = true := by
  unfold cliqueB
  rw [chk_iff]
  constructor
  · intro h i j j0 ji hi bi bj
    have h1 := h i (by omega) (by omega)
    rw [chk_iff] at h1
    have h2 := h1 j j0 (by omega)
    simpa [cliqueP, bi, bj] using h2
  · intro h i i0 i1
    rw [chk_iff]
    intro j j0 j1
    have h1 := h i j j0 (by omega) (by omega)
    unfold cliqueP
    cases bi : bt s i.toNat with
    | false => rfl
    | true =>
      cases bj : bt s j.toNat with
      | false => rfl
      | true => rw [h1 bi bj]; rfl

theorem ref_Cliques_F (hC : ClashOK n pairs) (hn : 300 ≤ nf) {s : Int} (hs : W32 s) : ref_Cliques_f nf n pairs s = some (cliqueB n pairs s, ()) := by
  have hp := hC.pos
  have hf := hC.few
  simp only [ref_Cliques_f, ref_Cliques_p]
  have key := loop_chk (n := n) (F := fun fu i => ref_Cliques_l0 nf n pairs s fu i) (yes := some (true, ())) (no := some (false, ()))
    (fun i => chk (fun j => cliqueP n pairs s i j) i.toNat 0) (fun fu i hi0 hi1 => by
      rw [ref_Cliques_l0, ref_Cliques_b0]
      simp only [hi1, decide_true, cond_true]
      have hw := wrap_step (n := 8) hi0 (by omega) (by decide)
      have key := loop_chk (n := i) (F := fun fu2 j => ref_Cliques_l2 nf n pairs s i (fun i => ref_Cliques_l0 nf n pairs s fu i) fu2 j) (yes := ref_Cliques_l0 nf n pairs s fu (i + 1)) (no := some (false, ()))
        (fun j => cliqueP n pairs s i j) (fun fu2 j hj0 hj1 => by
          rw [ref_Cliques_l2, ref_Cliques_b2, cbit_F nf hs hi0 (by omega), cbit_F nf hs hj0 (by omega), clash_F hC.len hn, wrap_step (n := 8) hj0 (by omega) (by decide)]
          simp only [hj1, decide_true, cond_true, Option.bind_some, cliqueP]
          cases bt s i.toNat <;> cases bt s j.toNat <;> cases clashB pairs i j <;> rfl)
        (fun fu2 => by rw [ref_Cliques_l2, ref_Cliques_b2, hw]; simp) nf 0 (Int.le_refl _) (by omega) (by omega)
      rw [show (i - 0).toNat = i.toNat by omega] at key
      exact key)
    (fun fu => by rw [ref_Cliques_l0, ref_Cliques_b0]; simp) nf 0 (Int.le_refl _) (by omega) (by omega)
  rw [show (n - 0).toNat = n.toNat by omega] at key
  refine key.trans ?_
  unfold cliqueB
  cases chk (fun i => chk (fun j => cliqueP n pairs s i j) i.toNat 0) n.toNat 0 <;> rfl

theorem all_F (hC : ClashOK n pairs) (hn : 300 ≤ nf) {w : List Int} (hw : WithOK n pairs w) {s : Int} (hs : W32 s) (hb : ∀ k : Nat, bt s k = true → (k : Int) < n) : color_all_f nf w s = some (cliqueB n pairs s, ()) := by
  have hp := hC.pos
  have hf := hC.few
  simp only [color_all_f, color_all_p]
  have key := loop_chk (n := n) (F := fun fu i => color_all_l0 nf w s fu i) (yes := some (true, ())) (no := some (false, ()))
    (fun i => !bt s i.toNat || (not32 s (w.getD i.toNat 0) == shlI .u32 1 i)) (fun fu i hi0 hi1 => by
      have h1 := shr_and_beq1 hs hi0 (show i < 32 by omega)
      unfold and32 at h1
      rw [color_all_l0, color_all_b0, h1, inb_ok (t := i) (n := w.length) hi0 (by rw [hw.1]; exact hi1), wrap_step (n := 8) hi0 (by omega) (by decide), hw.1]
      simp only [hi1, hi0, decide_true, cond_true]
      unfold not32
      cases bt s i.toNat with
      | false => rfl
      | true =>
        cases hh : (IntKind.u32.wrap ((BitVec.ofInt IntKind.u32.bits s &&& ~~~BitVec.ofInt IntKind.u32.bits (w.getD i.toNat 0)).toNat : Int) == shlI .u32 1 i) with
        | true => rw [beq_iff_eq] at hh; rw [hh, bne_self_eq_false]; rfl
        | false => rw [bne, hh]; rfl)
    (fun fu => by rw [color_all_l0, color_all_b0, hw.1]; simp) nf 0 (Int.le_refl _) (by omega) (by omega)
  rw [show (n - 0).toNat = n.toNat by omega] at key
  refine key.trans ?_
  have hiff : chk (fun i => !bt s i.toNat || (not32 s (w.getD i.toNat 0) == shlI .u32 1 i)) n.toNat 0 = cliqueB n pairs s := by
    rw [Bool.eq_iff_iff, chk_iff, cliqueB_iff (by omega)]
    constructor
    · intro h i j j0 ji i1 bi bj
      have h1 := h i (by omega) (by omega)
      rw [bi, Bool.not_true, Bool.false_or, beq_iff_eq] at h1
      obtain ⟨wi, hbi⟩ := hw.2 i (by omega) i1
      have h2 : bt (not32 s (w.getD i.toNat 0)) j.toNat = bt (shlI .u32 1 i) j.toNat := by rw [h1]
      rw [not32_bt hs wi, one_bt (by omega) (by omega), bj, hbi, decide_eq_false (by omega), Bool.true_and, Bool.not_eq_false', show ((j.toNat : Nat) : Int) = j by omega] at h2
      exact h2
    · intro h i i0 i1
      cases bi : bt s i.toNat with
      | false => rfl
      | true =>
        rw [Bool.not_true, Bool.false_or, beq_iff_eq]
        obtain ⟨wi, hbi⟩ := hw.2 i i0 (by omega)
        refine bt_ext (not32_w _ _) (one_w i0 (by omega)) fun k _ => ?_
        rw [not32_bt hs wi, one_bt i0 (by omega), hbi]
        by_cases hk : k = i.toNat
        · subst hk
          have : clashB pairs i ((i.toNat : Nat) : Int) = false := by
            cases hc : clashB pairs i ((i.toNat : Nat) : Int) with
            | false => rfl
            | true => exact absurd (by omega) (clash_in hC hc).2.2
          rw [bi, this]; simp
        · rw [decide_eq_false hk]
          cases bk : bt s k with
          | false => rfl
          | true =>
            have hkn := hb k bk
            have : clashB pairs i k = true := by
              by_cases hlt : (k : Int) < i
              · exact h i k (by omega) hlt (by omega) bi (by simpa using bk)
              · rw [clashB_symm]; exact h k i i0 (by omega) hkn (by simpa using bk) bi
            rw [this]; rfl
  rw [hiff]
  cases cliqueB n pairs s <;> rfl

theorem size_F (hn : 300 ≤ nf) {s : Int} (hs : W32 s) : ref_Size_f nf s = some (((cnt (bt s) 32 : Nat) : Int), ()) := by
  simp only [ref_Size_f, ref_Size_p]
  have key := loop_inv (n := (32 : Int)) (F := fun fu t (q : Int) => ref_Size_l0 nf s fu q t)
    (fun t q => q = ((cnt (bt s) t.toNat : Nat) : Int)) ?_ nf 0 0 (Int.le_refl _) (by omega) (by omega) rfl
  · obtain ⟨fu', q, h1, h5⟩ := key
    subst h1
    rw [h5, ref_Size_l0, ref_Size_b0]
    simp
  · rintro fu t q ht0 ht1 rfl
    have hc := cnt_n (bt s) t.toNat
    have e : cnt (bt s) (t.toNat + 1) = cnt (bt s) t.toNat + (if bt s t.toNat = true then 1 else 0) := rfl
    refine ⟨_, ?_, rfl⟩
    rw [show (t + 1).toNat = t.toNat + 1 by omega, e, ref_Size_l0, ref_Size_b0, cbit_F nf hs ht0 ht1, wrap_step (n := 32) ht0 (by omega) (by decide), wrap_step (n := 40) (t := ((cnt (bt s) t.toNat : Nat) : Int)) (by omega) (by omega) (by decide)]
    simp only [ht1, decide_true, cond_true, Option.bind_some]
    cases bt s t.toNat <;> simp

/-- the best set among the first t -/
def bestGo (n : Int) (pairs : List (Int × Int × Unit)) : Nat → Int
  | 0 => 0
  | t + 1 => bif decide (cnt (bt (t : Int)) 32 > cnt (bt (bestGo n pairs t)) 32) && cliqueB n pairs t then t else bestGo n pairs t
theorem bestGo_lt : ∀ t : Nat, 0 ≤ bestGo n pairs t ∧ bestGo n pairs t ≤ t
  | 0 => ⟨Int.le_refl _, Int.le_refl _⟩
  | t + 1 => by
    have := bestGo_lt t
    simp only [bestGo]
    cases (decide (cnt (bt (t : Int)) 32 > cnt (bt (bestGo n pairs t)) 32) && cliqueB n pairs t)
    · simp only [cond_false]; omega
    · simp only [cond_true]; omega

theorem pow_n (hC : ClashOK n pairs) : (2 : Nat) ^ n.toNat ≤ 256 := by
  have hf := hC.few
  exact Nat.le_trans (Nat.pow_le_pow_right (by decide) (show n.toNat ≤ 8 by omega)) (by decide)
theorem shl_n (hC : ClashOK n pairs) : shlI .u32 1 n = ((2 ^ n.toNat : Nat) : Int) := shl_one (by have := hC.pos; omega) (by have := hC.few; omega)

theorem bt_lt (hC : ClashOK n pairs) {t : Int} (h0 : 0 ≤ t) (h1 : t < ((2 ^ n.toNat : Nat) : Int)) (k : Nat) (hk : bt t k = true) : (k : Int) < n := by
  apply Classical.byContradiction
  intro hkn
  rw [bt_small (n := n.toNat) ⟨h0, by have := pow_n hC; have := Int.ofNat_le.2 this; omega⟩ h1 (by omega)] at hk
  cases hk

theorem clique_l0 (hC : ClashOK n pairs) (hn : 300 ≤ nf) {w : List Int} (hw : WithOK n pairs w) : color_Clique_l0 nf n nf w 0 0 = some (bestGo n pairs (2 ^ n.toNat), 0, ()) := by
  have hpow := pow_n hC
  have hshl := shl_n hC
  have hblt := fun t h0 h1 => bt_lt hC (t := t) h0 h1
  generalize 2 ^ n.toNat = N at hpow hshl hblt ⊢
  have key := loop_inv (n := (N : Int)) (F := fun fu t (q : Int) => color_Clique_l0 nf n fu w q t)
    (fun t q => q = bestGo n pairs t.toNat) ?_ nf 0 0 (Int.le_refl _) (by omega) (by omega) rfl
  · obtain ⟨fu', q, h1, h5⟩ := key
    subst h1
    rw [Int.toNat_natCast] at h5
    rw [h5, color_Clique_l0, color_Clique_b0, hshl]
    simp
  · rintro fu t q ht0 ht1 rfl
    refine ⟨_, ?_, rfl⟩
    have hb := bestGo_lt (n := n) (pairs := pairs) t.toNat
    have wt : W32 t := ⟨ht0, by omega⟩
    have wb : W32 (bestGo n pairs t.toNat) := ⟨hb.1, by omega⟩
    rw [show (t + 1).toNat = t.toNat + 1 by omega, bestGo, color_Clique_l0, color_Clique_b0, ones_F nf wt, ones_F nf wb, all_F hC hn hw wt (hblt t ht0 ht1), hshl, (show W32 (t + 1) from ⟨by omega, by omega⟩).wrap, show ((t.toNat : Nat) : Int) = t by omega]
    simp only [ht1, decide_true, cond_true, Option.bind_some, gt_iff_lt, Int.ofNat_lt]
    cases decide (cnt (bt (bestGo n pairs t.toNat)) 32 < cnt (bt t) 32) <;> cases cliqueB n pairs t <;> rfl

theorem colorCliques_l0 (hC : ClashOK n pairs) (hn : 300 ≤ nf) : law_ColorCliques_l0 nf n pairs (bestGo n pairs (2 ^ n.toNat), 0, ()) nf 0 0 = some (true, ()) := by
  have hpow := pow_n hC
  have hshl := shl_n hC
  have hp := hC.pos
  have hf := hC.few
  generalize 2 ^ n.toNat = N at hpow hshl ⊢
  have key := loop_inv (n := (N : Int)) (F := fun fu t (q : Int) => law_ColorCliques_l0 nf n pairs (bestGo n pairs N, 0, ()) fu q t)
    (fun t q => q = bestGo n pairs t.toNat) ?_ nf 0 0 (Int.le_refl _) (by omega) (by omega) rfl
  · obtain ⟨fu', q, h1, h5⟩ := key
    subst h1
    rw [Int.toNat_natCast] at h5
    rw [h5, law_ColorCliques_l0, law_ColorCliques_b0, wrap_u64 (by omega) (by omega), hshl]
    simp only [Int.lt_irrefl, decide_false, cond_false, decide_eq_true (show (0 : Int) ≤ n by omega), cond_true]
    simp
  · rintro fu t q ht0 ht1 rfl
    refine ⟨_, ?_, rfl⟩
    have hb := bestGo_lt (n := n) (pairs := pairs) t.toNat
    have wt : W32 t := ⟨ht0, by omega⟩
    have wb : W32 (bestGo n pairs t.toNat) := ⟨hb.1, by omega⟩
    rw [show (t + 1).toNat = t.toNat + 1 by omega, bestGo, law_ColorCliques_l0, law_ColorCliques_b0, size_F hn wt, size_F hn wb, ref_Cliques_F hC hn wt, wrap_u64 (by omega) (by omega), hshl, (show W32 (t + 1) from ⟨by omega, by omega⟩).wrap, show ((t.toNat : Nat) : Int) = t by omega]
    simp only [decide_eq_true (show (0 : Int) ≤ n by omega), ht1, decide_true, cond_true, Option.bind_some, gt_iff_lt, Int.ofNat_lt]
    cases decide (cnt (bt (bestGo n pairs t.toNat)) 32 < cnt (bt t) 32) <;> cases cliqueB n pairs t <;> rfl

theorem colorCliques_main (hn : 300 ≤ nf) (n : Int) (pairs : List (Int × Int × Unit)) : law_ColorCliques_f nf n pairs = some (true, ()) := by
  obtain ⟨w, h1, h2, h3⟩ := clashes_F (n := n) (pairs := pairs) hn
  simp only [law_ColorCliques_f, law_ColorCliques_p, color_Clique_f, color_Clique_p, h3, ref_ClashCheck_F hn, Option.bind_some]
  by_cases hc : clashCode n pairs = 0
  · have hC := clashCode_ok hc
    have hp := hC.pos
    simp only [hc, show ((0 : Int) != 0) = false from rfl, cond_false, decide_eq_true (show (0 : Int) ≤ n by omega), cond_true, clique_l0 hC hn (h1 hc), Option.bind_some, colorCliques_l0 hC hn]
  · simp [bne_t hc]

theorem colorCliques_law (x : denPs (lawPs [.int .i64, .sl (.pair (.int .i64) (.pair (.int .i64) .unit))])) (_ : wfPs [.int .i64, .sl (.pair (.int .i64) (.pair (.int .i64) .unit))] x) : ∃ n, law_ColorCliques_F n x = some (true, ()) := by
  obtain ⟨n, pairs, _⟩ := x
  exact ⟨300, colorCliques_main (Nat.le_refl _) n pairs⟩
end Go.Proofs.Ytgbldmehdipfaaa
