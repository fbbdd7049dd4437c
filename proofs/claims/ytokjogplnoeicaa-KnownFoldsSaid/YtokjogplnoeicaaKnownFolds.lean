/- A program with what is known put in: block by block. -/
import Derived.Test.YtokjogplnoeicaaKFold
import Derived.Test.YtokjogplnoeicaaKnownStart
import Derived.Test.YtokjogplnoeicaaAbLaw
namespace Go.Proofs.Ytokjogplnoeicaa
open Go Go.Ab S

variable {nf : Nat} {n : Int} {p : List Blk}

theorem clone6_F (s : List Step6) (hl : s.length ≤ 100) : slices_Clone__f nf s = some (s, ()) := by
  have hb := ble_ok (n := s.length) (by omega)
  cases s with
  | nil => simp [slices_Clone__f, slices_Clone__p, bimp, ble_ok, both_self]
  | cons a r => simp only [List.length_cons] at hb; simp [slices_Clone__f, slices_Clone__p, bimp, hb]

def outsF (p : List Blk) (R : List (List Int)) (t : Nat) : List Blk := (List.range t).map fun j => foldB (p.getD j B0) (R.getD j [])
theorem outsF_succ (p : List Blk) (R : List (List Int)) {t : Int} (h : 0 ≤ t) : outsF p R (t + 1).toNat = outsF p R t.toNat ++ [foldB (p.getD t.toNat B0) (R.getD t.toNat [])] := by
  rw [show (t + 1).toNat = t.toNat + 1 by omega]
  simp [outsF, List.range_succ]
theorem outsF_len (p : List Blk) (R : List (List Int)) (t : Nat) : (outsF p R t).length = t := by simp [outsF]

theorem leB : leM (((Ty.int .i64).pair ((Ty.int .i64).pair ((Ty.int .i64).pair ((Ty.int .i64).pair ((Ty.int .i64).pair Ty.unit))))).sl.pair ((Ty.int .i64).pair ((Ty.int .i64).pair ((Ty.int .i64).pair Ty.unit)))) 0 (Md.bor false false) (Md.bor false false) = true := rfl

theorem kfold_l0 (hp : Made n p nf) (hn : 100 ≤ nf) (hc : ∀ b ∈ p, b.1.length ≤ 20) {R : List (List Int)} (hR : TabK n p.length R) : known_Fold_l0 nf p (R, ()) nf [] R 0 = some (outsF p R p.length, 0, ()) := by
  have hp8 := hp.p8
  have hRl := hR.len
  obtain ⟨fu', q, ⟨q1, q2⟩, e⟩ := loop_inv (n := (p.length : Int)) (F := fun fu t (q : List Blk × List (List Int)) => known_Fold_l0 nf p (R, ()) fu q.1 q.2 t) (fun t q => q.1 = outsF p R t.toNat ∧ q.2 = R) (fun fu t q h0 ht hI => by
    obtain ⟨out, X⟩ := q
    obtain ⟨i1, i2⟩ := hI
    simp only at i1 i2
    subst i1 i2
    refine ⟨(outsF p X (t + 1).toNat, X), ?_, rfl, rfl⟩
    have hip : inb t p.length = true := inb_ok h0 ht
    have hw : IntKind.i64.wrap (t + 1) = t + 1 := wrap_nn (by omega) (by omega)
    have hol : (outsF p X t.toNat).length ≤ 100 := by rw [outsF_len]; omega
    have hob : Nat.ble ((outsF p X t.toNat).length + 1) lim = true := ble_ok (by omega)
    simp only
    rw [known_Fold_l0, known_Fold_b0, outsF_succ p X h0]
    simp only [hRl, ht, decide_true, cond_true, hip, hw]
    have hmem := getD_mem (d := B0) h0 ht
    have hrow := hR.row t
    unfold row at hrow
    rcases hrow with hr | hr
    · simp only [hr, List.isEmpty_nil, cond_true, Bool.not_false, leB, List.length_cons, List.length_nil, Nat.zero_add, hob, Bool.and_self]
      simp [foldB]
    · have hne : X.getD t.toNat [] ≠ [] := fun h => by have h1 := hr.len; rw [h] at h1; have h2 := hp.n1; simp only [List.length_nil] at h1; omega
      have hie : (X.getD t.toNat []).isEmpty = false := by cases hq : X.getD t.toNat [] with | nil => exact absurd hq hne | cons _ _ => rfl
      have hbk := hp.ok _ hmem
      have hfit := hp.fit _ hmem
      have hcl := hc _ hmem
      have hvl := hr.len
      have hn6 := hp.n6
      simp only [hie, cond_false, hip, cond_true]
      have hB0 : p.getD t.toNat ([], 0, 0, 0, ()) = p.getD t.toNat B0 := rfl
      rw [hB0, behind_F hn6 hbk hfit.1 hfit.2 hr, Option.bind_some, clone6_F _ (by omega), Option.bind_some, clone_F _ (by omega), Option.bind_some]
      obtain ⟨hsg, _⟩ := blockCode_ok hbk
      have := kfold_l2 (nf := nf) (p := p) hn6 (R := (X, ())) (t28 := t) (r4 := ((p.getD t.toNat B0).1, ())) hcl (g0 := fun out t26 t28 => known_Fold_l0 nf p (X, ()) fu out t26 t28) hol (b2 := (p.getD t.toNat B0).2) (to' := goes (p.getD t.toNat B0) (rowF (p.getD t.toNat B0).1 (X.getD t.toNat []))) (X := X) (p.getD t.toNat B0).1 [] (X.getD t.toNat []) nf hr (stepsGo_all hsg) (by simp) (by omega)
      simp only [List.nil_append, List.length_nil, hw] at this
      rw [show ((0 : Nat) : Int) = 0 from rfl] at this
      rw [this]
      have hv2 : Row n (rowF (p.getD t.toNat B0).1 (X.getD t.toNat [])) := rowF_row (stepsGo_all hsg) hr
      rw [← foldT_goes hbk hv2]
      simp only [foldB, if_neg hne]) nf 0 ([], R) (by omega) (by omega) (by omega) ⟨by simp [outsF], rfl⟩
  simp only at e q1 q2
  rw [e, known_Fold_l0, known_Fold_b0, q1, Int.toNat_natCast]
  simp [hRl]

theorem rfold_l0 (hp : Made n p nf) (hn : 100 ≤ nf) (hc : ∀ b ∈ p, b.1.length ≤ 20) {R : List (List Int)} (hR : TabK n p.length R) : ref_Folds_l0 nf p (R, ()) nf [] R 0 = some (outsF p R p.length, ()) := by
  have hp8 := hp.p8
  have hRl := hR.len
  obtain ⟨fu', q, ⟨q1, q2⟩, e⟩ := loop_inv (n := (p.length : Int)) (F := fun fu t (q : List Blk × List (List Int)) => ref_Folds_l0 nf p (R, ()) fu q.1 q.2 t) (fun t q => q.1 = outsF p R t.toNat ∧ q.2 = R) (fun fu t q h0 ht hI => by
    obtain ⟨out, X⟩ := q
    obtain ⟨i1, i2⟩ := hI
    simp only at i1 i2
    subst i1 i2
    refine ⟨(outsF p X (t + 1).toNat, X), ?_, rfl, rfl⟩
    have hip : inb t p.length = true := inb_ok h0 ht
    have hw : IntKind.i64.wrap (t + 1) = t + 1 := wrap_nn (by omega) (by omega)
    have hol : (outsF p X t.toNat).length ≤ 100 := by rw [outsF_len]; omega
    have hob : Nat.ble ((outsF p X t.toNat).length + 1) lim = true := ble_ok (by omega)
    simp only
    rw [ref_Folds_l0, ref_Folds_b0, outsF_succ p X h0]
    simp only [hRl, ht, decide_true, cond_true, hip]
    have hmem := getD_mem (d := B0) h0 ht
    have hrow := hR.row t
    unfold row at hrow
    have hB0 : p.getD t.toNat ([], 0, 0, 0, ()) = p.getD t.toNat B0 := rfl
    rcases hrow with hr | hr
    · simp only [hr, List.isEmpty_nil, Bool.not_true, cond_false, cond_true, Bool.not_false, leB, List.length_cons, List.length_nil, Nat.zero_add, hob, Bool.and_self, hw]
      simp [foldB]
    · have hne : X.getD t.toNat [] ≠ [] := fun h => by have h1 := hr.len; rw [h] at h1; have h2 := hp.n1; simp only [List.length_nil] at h1; omega
      have hie : (X.getD t.toNat []).isEmpty = false := by cases hq : X.getD t.toNat [] with | nil => exact absurd hq hne | cons _ _ => rfl
      have hbk := hp.ok _ hmem
      have hcl := hc _ hmem
      have hvl := hr.len
      have hn6 := hp.n6
      obtain ⟨hsg, _⟩ := blockCode_ok hbk
      have hfb : foldB (p.getD t.toNat B0) (X.getD t.toNat []) = (foldC (p.getD t.toNat B0).1 (X.getD t.toNat []), foldT (p.getD t.toNat B0).2 (rowF (p.getD t.toNat B0).1 (X.getD t.toNat []))) := by simp only [foldB, if_neg hne]
      rw [hfb]
      simp only [hie, Bool.not_false, cond_true, hip]
      rw [hB0]
      cases hcode : (p.getD t.toNat B0).1 with
      | nil =>
        have := rfold_l2 (nf := nf) (p := p) hn6 (m := (p.length : Int)) (by omega) (R := (X, ())) (t16 := t) (g0 := ref_Folds_l0 nf p (X, ()) fu) hol hbk hcl rfl (X := X) [] [] [] (X.getD t.toNat []) 1 hr (by rw [hcode]; rfl) rfl (by simp)
        rw [ref_Folds_l2, ref_Folds_b2, hB0, hcode, hw] at this
        simp only [List.length_nil, List.nil_append, Int.lt_irrefl, decide_false, cond_false] at this
        have h00 : ¬ ((0 : Int) < (([] : List Step6).length : Int)) := by simp
        simp only [h00, decide_false, cond_false, hw]
        exact this
      | cons s rest =>
        have hc1 := stepsGo_all hsg s (by rw [hcode]; simp)
        obtain ⟨_, _, _, _, ⟨to0, to1⟩, _⟩ := stepCode_ok (op := s.1) (to := s.2.1) (a := s.2.2.1) (b := s.2.2.2.1) (k := s.2.2.2.2.1) (u := ()) hc1
        have hmk := mkV_isK hr hc1
        have hv' : Row n ((X.getD t.toNat []).set s.2.1.toNat (mkV s (X.getD t.toNat []))) := hr.set _ hmk
        have hvb : Nat.ble (X.getD t.toNat []).length lim = true := ble_ok (by omega)
        rw [hcode] at hcl
        have ih := fun x => rfold_l2 (nf := nf) (p := p) hn6 (m := (p.length : Int)) (by omega) (R := (X, ())) (t16 := t) (g0 := fun out t14 t16 => ref_Folds_l0 nf p (X, ()) fu out t14 t16) hol hbk (by rw [hcode]; exact hcl) rfl (X := X) rest [s] [x] _ nf hv' (by rw [hcode]; rfl) rfl (by simp only [List.length_cons] at hcl; omega)
        have hlt : (0 : Int) < ((s :: rest).length : Int) := by simp only [List.length_cons]; omega
        have hw1 : IntKind.i64.wrap (0 + 1) = 1 := rfl
        simp only [hlt, decide_true, cond_true, inb_ok (Int.le_refl 0) hlt, List.getD_cons_zero, (makes_F hr hc1).2, Option.bind_some, bimp, List.length_nil, Nat.zero_add, hvb, List.nil_append, hr.inb to0 to1, hw1, Bool.true_and]
        unfold isK at hmk
        rw [foldC, rowF_cons]
        by_cases c : mkV s (X.getD t.toNat []) = -1
        · have := ih s
          rw [c] at this
          simp only [List.length_cons, List.length_nil, Nat.zero_add, hw] at this
          simp only [c, if_true, ge_iff_le, show ¬ ((0 : Int) ≤ -1) by omega, decide_false, cond_false]
          exact this
        · have := ih (1, s.2.1, 0, 0, mkV s (X.getD t.toNat []), ())
          simp only [List.length_cons, List.length_nil, Nat.zero_add, hw] at this
          simp only [c, if_false, ge_iff_le, show (0 : Int) ≤ mkV s (X.getD t.toNat []) by omega, decide_true, cond_true]
          exact this) nf 0 ([], R) (by omega) (by omega) (by omega) ⟨by simp [outsF], rfl⟩
  simp only at e q1 q2
  rw [e, ref_Folds_l0, ref_Folds_b0, q1, Int.toNat_natCast]
  simp [hRl]

theorem progs_refl {X : List Blk} (hl : X.length ≤ 100) (hs : ∀ b ∈ X, b.1.length ≤ 100) (hn : 200 ≤ nf) : ref_Progs_f nf X X = some (true, ()) := by
  have inner : ∀ (i : Int) (h0 : 0 ≤ i) (hi : i < X.length) (g : Int → Option (Bool × Unit)), ref_Progs_l2 nf X X i g nf 0 = g (IntKind.i64.wrap (i + 1)) := by
    intro i h0 hi g
    have hm := hs _ (getD_mem (d := ([], 0, 0, 0, ())) h0 hi)
    obtain ⟨fu', q, _, e⟩ := loop_inv (n := ((X.getD i.toNat ([], 0, 0, 0, ())).1.length : Int)) (F := fun fu t (_ : Unit) => ref_Progs_l2 nf X X i g fu t) (fun _ _ => True) (fun fu t _ k0 k1 _ => by
      refine ⟨(), ?_, trivial⟩
      rw [ref_Progs_l2, ref_Progs_b2, inb_ok h0 hi, wrap_nn (x := t + 1) (by omega) (by omega), inb_ok k0 k1]
      simp only [k1, decide_true, cond_true, beq_self_eq_true, Bool.and_true, Bool.not_true, cond_false]) nf 0 () (by omega) (by omega) (by omega) trivial
    rw [e, ref_Progs_l2, ref_Progs_b2, inb_ok h0 hi]
    simp
  obtain ⟨fu', q, _, e⟩ := loop_inv (n := (X.length : Int)) (F := fun fu t (_ : Unit) => ref_Progs_l0 nf X X fu t) (fun _ _ => True) (fun fu t _ k0 k1 _ => by
    refine ⟨(), ?_, trivial⟩
    rw [ref_Progs_l0, ref_Progs_b0, inb_ok k0 k1]
    simp only [k1, decide_true, cond_true, bne_self_eq_false, cond_false]
    rw [inner t k0 k1, wrap_nn (x := t + 1) (by omega) (by omega)]) nf 0 () (by omega) (by omega) (by omega) trivial
  simp only [ref_Progs_f, ref_Progs_p, bne_self_eq_false, cond_false]
  rw [e, ref_Progs_l0, ref_Progs_b0]
  simp

theorem knownFolds_aux {vars : Int} {have' : List Int} (hp : p.length ≤ maxLen) (hs : ∀ b ∈ p, b.1.length ≤ 140737488355328) (hh : have'.length ≤ maxLen) (hn : fuelOf p + have'.length + 300 ≤ nf) : law_KnownFolds_f nf vars p have' = some (true, ()) := by
  have hfu := (fuelOf_ok p).1
  have hs' : ∀ b ∈ p, b.1.length ≤ maxLen := fun b hb => Nat.le_trans (hs b hb) (by decide)
  have hf := fits_of (nf := nf) (by omega) hp hs'
  have hfit : ∀ b ∈ p, b.1.length ≤ maxLen ∧ b.1.length < nf := fun b hb => ⟨hs' b hb, by have := (fuelOf_ok p).2 b hb; omega⟩
  simp only [law_KnownFolds_f, law_KnownFolds_p, known_Fold_f, known_Fold_p, law_startCode_f, law_startCode_p]
  rw [wrong_F hf have' hh (by omega), ref_ProgCheck_F (by omega) hf, startCheck_F vars have' hh (by omega)]
  simp only [Option.bind_some]
  by_cases h1 : progCode vars p = 0
  · rw [if_pos h1, h1, beq_self_eq_true, cond_true]
    by_cases h2 : startC vars have' = 0
    · obtain ⟨b1, b2, b3, b4, b5⟩ := progCode_ok h1
      have hrow := startC_ok h2
      have hm : Made vars p nf := ⟨b1, b2, b3, b4, blocksGo_ok b5, hfit⟩
      have hc := codes_short h1 hs
      obtain ⟨R, r1, r2⟩ := solve_F hm (by omega) hrow
      obtain ⟨R', s1, s2⟩ := known_F hm (by omega) hrow
      have he := least_one r1 s1
      subst he
      rw [h2]
      simp only [bne_self_eq_false, cond_false, r2, Option.bind_some]
      rw [kfold_l0 hm (by omega) hc r1.1]
      simp only [Option.bind_some, bne_self_eq_false, cond_false, beq_self_eq_true, cond_true, ref_Folds_f, ref_Folds_p, s2]
      rw [rfold_l0 hm (by omega) hc r1.1]
      simp only [Option.bind_some]
      rw [progs_refl (by rw [outsF_len]; omega) (fun b hb => ?_) (by omega)]
      · rfl
      · obtain ⟨j, hj, rfl⟩ := List.mem_map.1 hb
        have hj' : j < p.length := List.mem_range.1 hj
        have hcj := hc _ (getD_mem (d := B0) (t := (j : Int)) (by omega) (by omega))
        rw [Int.toNat_natCast] at hcj
        unfold foldB
        split
        · simp
        · simp only [foldC_len]; omega
    · simp only [bne_t h2, cond_true, Option.bind_some, beq_self_eq_true]
      rfl
  · rw [if_neg h1]
    simp only [bne_t h1, beq_f h1, cond_true, cond_false, Option.bind_some, beq_self_eq_true]
    rfl

theorem knownFolds_law (x : denPs (lawPs [.int .i64, .sl (.pair (.sl (.pair (.int .i64) (.pair (.int .i64) (.pair (.int .i64) (.pair (.int .i64) (.pair (.int .i64) (.unit))))))) (.pair (.int .i64) (.pair (.int .i64) (.pair (.int .i64) (.unit))))), .sl (.int .i64)])) (h : wfPs [.int .i64, .sl (.pair (.sl (.pair (.int .i64) (.pair (.int .i64) (.pair (.int .i64) (.pair (.int .i64) (.pair (.int .i64) (.unit))))))) (.pair (.int .i64) (.pair (.int .i64) (.pair (.int .i64) (.unit))))), .sl (.int .i64)] x) (hz : szPs [.int .i64, .sl (.pair (.sl (.pair (.int .i64) (.pair (.int .i64) (.pair (.int .i64) (.pair (.int .i64) (.pair (.int .i64) (.unit))))))) (.pair (.int .i64) (.pair (.int .i64) (.pair (.int .i64) (.unit))))), .sl (.int .i64)] x) : ∃ n, law_KnownFolds_F n x = some (true, ()) := by
  obtain ⟨vars, p, have', _⟩ := x
  obtain ⟨_, ⟨h1, h2⟩, ⟨h3, _⟩, _⟩ := h
  obtain ⟨_, ⟨_, z2⟩, _⟩ := hz
  refine ⟨_, knownFolds_aux h1 (fun b hb => ?_) h3 (Nat.le_refl _)⟩
  obtain ⟨i, hi, rfl⟩ := List.mem_iff_getElem.1 hb
  have := z2 i hi
  have e : List.getD p i (dflt _) = p[i] := by simp [List.getD, hi]
  rw [e] at this
  exact Nat.le_trans this.1.1 (by decide)
end Go.Proofs.Ytokjogplnoeicaa
