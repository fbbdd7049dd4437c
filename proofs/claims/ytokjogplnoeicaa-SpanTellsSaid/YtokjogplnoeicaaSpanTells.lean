/- From where to where the variables may be ahead of each block. -/
import Derived.Test.YtokjogplnoeicaaSpanRef
import Derived.Test.YtokjogplnoeicaaAbLaw
namespace Go.Proofs.Ytokjogplnoeicaa
open Go Go.Ab S

variable {nf : Nat} {p : List Blk}

def spB (l : List Sp) : Bool := chk (fun t => decide (isSp (l.getD t.toNat D0))) l.length 0

theorem scontains_F (l : List Sp) (hl : l.length ≤ maxLen) (hf : l.length < nf) : slices_ContainsFunc__span_In_1_f nf l () = some (!spB l, ()) := by
  have key := loop_first (n := (l.length : Int)) (F := fun fu t => slices_IndexFunc__span_In_1_l0 nf l fu t) (hit := fun i => some (i, ())) (miss := some (-1, ())) (fun t => !decide (isSp (l.getD t.toNat D0))) (fun fu t h0 ht => by
    have h1 : span_In_1_f nf (l.getD t.toNat (0, 0, ())) = some (!decide (isSp (l.getD t.toNat D0)), ()) := by
      simp only [span_In_1_f, span_In_1_p, is_F, Option.bind_some]
      rfl
    rw [slices_IndexFunc__span_In_1_l0, slices_IndexFunc__span_In_1_b0, inb_ok h0 ht, wrap_step h0 ht hl, h1]
    simp only [ht, decide_true, cond_true, Option.bind_some]) (fun fu => by
    rw [slices_IndexFunc__span_In_1_l0, slices_IndexFunc__span_In_1_b0]
    simp only [Int.lt_irrefl, decide_false, cond_false]) nf 0 (by omega) (by omega) (by omega)
  simp only [slices_ContainsFunc__span_In_1_f, slices_ContainsFunc__span_In_1_p, slices_IndexFunc__span_In_1_f, slices_IndexFunc__span_In_1_p]
  rw [key, show ((l.length : Int) - 0).toNat = l.length by omega]
  unfold spB
  cases hq : findFrom (fun t => !decide (isSp (l.getD t.toNat D0))) l.length 0 with
  | none =>
    have := findFrom_none hq
    have hc : chk (fun t => decide (isSp (l.getD t.toNat D0))) l.length 0 = true := chk_iff.2 fun i a b => by simpa using this i a b
    rw [hc]; rfl
  | some i =>
    obtain ⟨a, b, c⟩ := findFrom_some hq
    have hc : chk (fun t => decide (isSp (l.getD t.toNat D0))) l.length 0 = false := by
      cases hq2 : chk (fun t => decide (isSp (l.getD t.toNat D0))) l.length 0 with
      | false => rfl
      | true => have := chk_iff.1 hq2 i a b; rw [this] at c; cases c
    rw [hc]
    simp [a]

theorem spB_row {vars : Int} {l : List Sp} (hl : (l.length : Int) = vars) (h : spB l = true) : Row vars l := by
  refine ⟨hl, fun x hx => ?_⟩
  obtain ⟨i, hi, rfl⟩ := List.mem_iff_getElem.1 hx
  have := of_decide_eq_true (chk_iff.1 h i (by omega) (by omega))
  rwa [Int.toNat_natCast, show l.getD i D0 = l[i] by simp [List.getD, hi]] at this

/-- the loop of the law over the beginning -/
theorem law_l0 {have' : List Sp} (hl : have'.length ≤ maxLen) (hf : have'.length < nf) (r : List (List Sp) × Int × Unit) (L : List (List Sp)) (x : Int) :
    ∃ fu', law_SpanTells_l0 nf p have' r nf L x 0 = law_SpanTells_l0 nf p have' r (fu' + 1) L (if x = 0 then (if spB have' = true then 0 else 4) else x) have'.length := by
  obtain ⟨fu', q, ⟨q1, q2⟩, e⟩ := loop_inv (n := (have'.length : Int)) (F := fun fu t (q : List (List Sp) × Int) => law_SpanTells_l0 nf p have' r fu q.1 q.2 t)
    (fun t q => q.1 = L ∧ q.2 = if x = 0 then (if chk (fun t => decide (isSp (have'.getD t.toNat D0))) t.toNat 0 = true then 0 else 4) else x) (fun fu t q h0 ht hI => by
      obtain ⟨i1, i2⟩ := hI
      have hst : law_SpanTells_l0 nf p have' r (fu + 1) q.1 q.2 t = law_SpanTells_b0 nf (fun v0 v1 v2 => law_SpanTells_l2 nf nf v0 v1 v2) p have' r (law_SpanTells_l0 nf p have' r fu) q.1 q.2 t := rfl
      have hsp : ref_IsSpan_f nf (have'.getD t.toNat (0, 0, ())) = some (decide (isSp (have'.getD t.toNat D0)), ()) := isSpan_F _
      unfold law_SpanTells_b0 at hst
      simp only [ht, decide_true, cond_true, inb_ok h0 ht, wrap_step h0 ht hl, hsp, Option.bind_some] at hst
      have hnx : (chk (fun t => decide (isSp (have'.getD t.toNat D0))) (t + 1).toNat 0 = true) ↔ (chk (fun t => decide (isSp (have'.getD t.toNat D0))) t.toNat 0 = true ∧ isSp (have'.getD t.toNat D0)) := by
        rw [chk_iff, chk_iff]
        constructor
        · intro h; exact ⟨fun i a b => h i a (by omega), of_decide_eq_true (h t h0 (by omega))⟩
        · rintro ⟨h1, h2⟩ i a b
          by_cases hit : i = t
          · subst hit; exact decide_eq_true h2
          · exact h1 i a (by omega)
      by_cases hx : q.2 = 0
      · rw [show (q.2 == 0) = true by rw [hx]; rfl, cond_true] at hst
        have hx0 : x = 0 := by
          rw [hx] at i2
          by_cases h : x = 0
          · exact h
          · rw [if_neg h] at i2; omega
        have hck : chk (fun t => decide (isSp (have'.getD t.toNat D0))) t.toNat 0 = true := by
          cases hq : chk (fun t => decide (isSp (have'.getD t.toNat D0))) t.toNat 0 with
          | true => rfl
          | false => rw [hx, if_pos hx0, hq] at i2; simp at i2
        by_cases hs : isSp (have'.getD t.toNat D0)
        · rw [decide_eq_true hs] at hst
          exact ⟨q, hst, i1, by rw [hx, if_pos hx0, if_pos (hnx.2 ⟨hck, hs⟩)]⟩
        · rw [decide_eq_false hs] at hst
          exact ⟨(q.1, 4), hst, i1, by show (4 : Int) = _; rw [if_pos hx0, if_neg (fun h => hs (hnx.1 h).2)]⟩
      · rw [beq_f hx, cond_false] at hst
        refine ⟨q, hst, i1, ?_⟩
        rw [i2]
        by_cases hx0 : x = 0
        · rw [if_pos hx0] at i2 ⊢
          rw [if_pos hx0]
          by_cases hck : chk (fun t => decide (isSp (have'.getD t.toNat D0))) t.toNat 0 = true
          · rw [if_pos hck] at i2; exact absurd i2 hx
          · rw [if_neg hck, if_neg (fun h => hck (hnx.1 h).1)]
        · rw [if_neg hx0, if_neg hx0]) nf 0 (L, x) (by omega) (by omega) (by omega) ⟨rfl, by
      by_cases h : x = 0
      · rw [if_pos h]; simp [chk, h]
      · rw [if_neg h]⟩
  refine ⟨fu', ?_⟩
  rw [show law_SpanTells_l0 nf p have' r nf L x 0 = _ from e, q1, q2, Int.toNat_natCast]
  rfl

theorem law_l2 {n : Int} {m : Nat} (hn6 : n ≤ 6) (hm : m ≤ 8) (hn : 20 ≤ nf) {R : List (List Sp)} (hR : TabK n m R) : law_SpanTells_l2 nf nf R R 0 = some (true, ()) := by
  have hlR := hR.len
  have key := loop_chk (n := (R.length : Int)) (F := fun fu t => law_SpanTells_l2 nf fu R R t) (yes := some (true, ())) (no := some (false, ())) (fun _ => true) (fun fu t h0 ht => by
    have hsl : ref_SpanLists_f nf (R.getD t.toNat []) (R.getD t.toNat []) = some (decide (row R t = row R t), ()) := slists_F hn (row_short hn6 hR t)
    rw [law_SpanTells_l2, law_SpanTells_b2, inb_ok h0 ht, wrap_step h0 ht (Nat.le_trans (show R.length ≤ 8 by omega) (by decide)), hsl]
    simp [ht]) (fun fu => by
    rw [law_SpanTells_l2, law_SpanTells_b2]
    simp only [Int.lt_irrefl, decide_false, cond_false]) nf 0 (by omega) (by omega) (by omega)
  rw [key, chk_iff.2 fun _ _ _ => rfl]; rfl

theorem spanTells_aux {vars : Int} {have' : List Sp} (hp : p.length ≤ maxLen) (hs : ∀ b ∈ p, b.1.length ≤ maxLen) (hh : have'.length ≤ maxLen) (hn : fuelOf p + have'.length + 12400 ≤ nf) : law_SpanTells_f nf vars p have' = some (true, ()) := by
  have hfu := (fuelOf_ok p).1
  have hf := fits_of (nf := nf) (by omega) hp hs
  have hfit : ∀ b ∈ p, b.1.length ≤ maxLen ∧ b.1.length < nf := fun b hb => ⟨hs b hb, by have := (fuelOf_ok p).2 b hb; omega⟩
  simp only [law_SpanTells_f, law_SpanTells_p, span_In_f, span_In_p]
  rw [block_Check_F hf, ref_ProgCheck_F (by omega) hf]
  simp only [Option.bind_some]
  -- what the law says of what is wrong
  have bad : ∀ (x : Int), (if x = 0 then (if spB have' = true then (0 : Int) else 4) else x) ≠ 0 → law_SpanTells_l0 nf p have' ([], (if x = 0 then (if spB have' = true then (0 : Int) else 4) else x), ()) nf [] x 0 = some (true, ()) := fun x hx => by
    obtain ⟨fu', e⟩ := law_l0 (nf := nf) (p := p) hh (by omega) ([], (if x = 0 then (if spB have' = true then (0 : Int) else 4) else x), ()) [] x
    rw [e, law_SpanTells_l0, law_SpanTells_b0]
    simp only [Int.lt_irrefl, decide_false, cond_false, bne_t hx, cond_true, beq_self_eq_true]
    rfl
  by_cases h1 : progCode vars p = 0
  · obtain ⟨b1, b2, b3, b4, b5⟩ := progCode_ok h1
    simp only [h1, bne_self_eq_false, cond_false, beq_self_eq_true, cond_true]
    by_cases h2 : (have'.length : Int) = vars
    · simp only [h2, bne_self_eq_false, cond_false, scontains_F (nf := nf) have' hh (by omega), Option.bind_some]
      by_cases h3 : spB have' = true
      · have hrow := spB_row h2 h3
        have hm : Made vars p nf := ⟨b1, b2, b3, b4, blocksGo_ok b5, hfit⟩
        have hlim : (p.length : Int) ≤ (lim : Int) := by have : lim = 4294967296 := rfl; omega
        obtain ⟨t1, t0, t2, t3⟩ := start_row hm hrow
        obtain ⟨ag, g1, g2⟩ := come_F (nf := nf) b1 b2 (by omega) t1 hrow (j := 0) ⟨by omega, by omega⟩ false
        have hag : ag = true := by
          cases ag with
          | true => rfl
          | false =>
            have := (g1.no rfl).2
            obtain ⟨u1, _⟩ := updK_in (X := List.replicate p.length ([] : List Sp)) (j := 0) t1 hrow b1 (by omega) (by rw [t1.len]; omega)
            rw [this, empty_row] at u1
            exact absurd rfl u1
        subst hag
        rw [t0] at g1 g2
        have hr0 : row ((List.replicate p.length ([] : List Sp)).set 0 have') 0 = have' := by rw [t2 0 (by omega), if_pos rfl]
        obtain ⟨R, r1, r2⟩ := span_l0 hm (by omega) nf _ g1.tab ⟨by rw [hr0]; exact t3, by rw [hr0]; exact rle.refl _⟩ (fun Z hZ hP i i0 => by
          rw [t2 i i0]
          split
          · rename_i h; subst h; exact .inr hP.1
          · exact .inl rfl) (by omega)
        obtain ⟨R', s1, s2⟩ := spans_F hm (by omega) hrow
        have he := least_one r1 s1
        subst he
        rw [h3]
        simp only [Bool.not_true, cond_false, show (0 : Int) ≤ (p.length : Int) by omega, Int.le_refl, hlim, decide_true, Bool.and_self, cond_true, Int.toNat_natCast, g2, Option.bind_some, r2]
        obtain ⟨fu', e⟩ := law_l0 (nf := nf) (p := p) hh (by omega) (R, 0, ()) R 0
        rw [e, law_SpanTells_l0, law_SpanTells_b0, if_pos rfl, if_pos h3]
        simp only [Int.lt_irrefl, decide_false, cond_false, bne_self_eq_false, s2, Option.bind_some]
        exact law_l2 b2 b4 (by omega) r1.1
      · have h3' : spB have' = false := by
          cases hq : spB have' with
          | false => rfl
          | true => exact absurd hq h3
        rw [h3']
        have := bad 0 (by rw [if_pos rfl, h3']; decide)
        rw [if_pos rfl, h3'] at this
        simp only [Bool.not_false, cond_true, Option.bind_some]
        exact this
    · simp only [bne_t h2, cond_true, Option.bind_some]
      have := bad 3 (by rw [if_neg (by decide)]; decide)
      rw [if_neg (by decide)] at this
      exact this
  · simp only [bne_t h1, beq_f h1, cond_true, cond_false, Option.bind_some]
    have := bad (progCode vars p) (by rw [if_neg h1]; exact h1)
    rw [if_neg h1] at this
    exact this

theorem spanTells_law (x : denPs (lawPs [.int .i64, .sl (.pair (.sl (.pair (.int .i64) (.pair (.int .i64) (.pair (.int .i64) (.pair (.int .i64) (.pair (.int .i64) (.unit))))))) (.pair (.int .i64) (.pair (.int .i64) (.pair (.int .i64) (.unit))))), .sl (.pair (.int .i64) (.pair (.int .i64) (.unit)))])) (h : wfPs [.int .i64, .sl (.pair (.sl (.pair (.int .i64) (.pair (.int .i64) (.pair (.int .i64) (.pair (.int .i64) (.pair (.int .i64) (.unit))))))) (.pair (.int .i64) (.pair (.int .i64) (.pair (.int .i64) (.unit))))), .sl (.pair (.int .i64) (.pair (.int .i64) (.unit)))] x) : ∃ n, law_SpanTells_F n x = some (true, ()) := by
  obtain ⟨vars, p, have', _⟩ := x
  obtain ⟨_, ⟨h1, h2⟩, ⟨h3, _⟩, _⟩ := h
  refine ⟨_, spanTells_aux h1 (fun b hb => ?_) h3 (Nat.le_refl _)⟩
  obtain ⟨i, hi, rfl⟩ := List.mem_iff_getElem.1 hb
  have := h2 i hi
  have e : List.getD p i (dflt _) = p[i] := by simp [List.getD, hi]
  rw [e] at this
  exact this.1.1
end Go.Proofs.Ytokjogplnoeicaa
