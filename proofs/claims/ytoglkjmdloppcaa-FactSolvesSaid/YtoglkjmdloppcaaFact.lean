/- Laws of facts: what may be; the graph turned; what is so behind a node. -/
import Derived.Test.YtoglkjmdloppcaaWay
import Derived.Test.YtoglkjmdloppcaaBits
namespace Go.Proofs.Ytoglkjmdloppcaa
open Go Go.Ab S

variable {nf : Nat} {next : List (List Int)}

abbrev LawT := Bool × Bool × List Int × List Int × Int × Unit
theorem wrap_nn {x : Int} (h0 : 0 ≤ x) (h1 : x ≤ 9223372036854775807) : IntKind.i64.wrap x = x := Go.IntWalk.i64_in _ ⟨by omega, by omega⟩

theorem fact_has_F (l : List Int) (x : Int) (hl : l.length ≤ maxLen) (hf : l.length < nf) : ref_Has_f nf l x = some (decide (x ∈ l), ()) := by
  have key := loop_first (n := (l.length : Int)) (F := fun fu t => ref_Has_l0 nf l x fu t) (hit := fun _ => some (true, ())) (miss := some (false, ())) (fun t => decide (l.getD t.toNat 0 = x)) (fun fu t h0 ht => by
    rw [ref_Has_l0, ref_Has_b0, inb_ok h0 ht, wrap_step h0 ht hl]
    simp only [ht, decide_true, cond_true]
    by_cases h : l.getD t.toNat 0 = x
    · rw [h, decide_eq_true rfl, beq_self_eq_true]
    · rw [decide_eq_false h, beq_f (fun e => h e.symm)]) (fun fu => by
    rw [ref_Has_l0, ref_Has_b0]
    simp only [Int.lt_irrefl, decide_false, cond_false]) nf 0 (by omega) (by omega) (by omega)
  simp only [ref_Has_f, ref_Has_p]
  rw [key, show ((l.length : Int) - 0).toNat = l.length by omega]
  cases hq : findFrom (fun t => decide (l.getD t.toNat 0 = x)) l.length 0 with
  | none =>
    have := findFrom_none hq
    rw [decide_eq_false]
    intro hx
    obtain ⟨i, hi, rfl⟩ := List.mem_iff_getElem.1 hx
    have h1 := this i (by omega) (by omega)
    rw [Int.toNat_natCast] at h1
    simp [List.getD, hi] at h1
  | some i =>
    obtain ⟨a, b, c⟩ := findFrom_some hq
    rw [decide_eq_true_eq] at c
    rw [decide_eq_true (c ▸ getD_mem a (by omega))]

/-! what is wrong -/
def small (x : Int) : Bool := decide (x ≤ 255)
def lawC (next : List (List Int)) (law : LawT) : Int :=
  if wayCode next = 0 then (if law.2.2.1.length ≠ next.length then 3 else if law.2.2.2.1.length ≠ next.length then 3 else if (law.2.2.1 ++ law.2.2.2.1 ++ [law.2.2.2.2.1]).all small = true then 0 else 4) else wayCode next

theorem concat_F {a b c : List Int} (ha : a.length ≤ 20) (hb : b.length ≤ 20) (hc : c.length ≤ 20) (hn : 20 ≤ nf) : slices_Concat_f nf [a, b, c] = some (a ++ b ++ c, ()) := by
  have l2 : ∀ fu : Nat, 4 ≤ fu → slices_Concat_l2 nf [a, b, c] fu [] 0 = some (a ++ b ++ c, ()) := by
    intro fu hf
    obtain ⟨fu, rfl⟩ : ∃ k, fu = k + 4 := ⟨fu - 4, by omega⟩
    have w1 : IntKind.i64.wrap (0 + 1) = 1 := rfl
    have w2 : IntKind.i64.wrap (1 + 1) = 2 := rfl
    have w3 : IntKind.i64.wrap (2 + 1) = 3 := rfl
    have b1 : Nat.ble (0 + a.length) lim = true := ble_ok (by omega)
    have b2 : Nat.ble (a.length + b.length) lim = true := ble_ok (by omega)
    have b3 : Nat.ble ((a ++ b).length + c.length) lim = true := ble_ok (by simp; omega)
    rw [slices_Concat_l2, slices_Concat_b2, w1]
    simp only [List.length_cons, List.length_nil, bimp, List.nil_append, Bool.true_and]
    rw [show inb 0 (0 + 1 + 1 + 1) = true from rfl, show (decide ((0 : Int) < ((0 + 1 + 1 + 1 : Nat) : Int))) = true from rfl]
    simp only [cond_true, Int.toNat_zero, List.getD_cons_zero, b1]
    rw [slices_Concat_l2, slices_Concat_b2, w2]
    simp only [List.length_cons, List.length_nil, bimp, Bool.true_and]
    rw [show inb 1 (0 + 1 + 1 + 1) = true from rfl, show (decide ((1 : Int) < ((0 + 1 + 1 + 1 : Nat) : Int))) = true from rfl]
    simp only [cond_true, show ((1 : Int)).toNat = 1 from rfl, List.getD_cons_succ, List.getD_cons_zero, b2]
    rw [slices_Concat_l2, slices_Concat_b2, w3]
    simp only [List.length_cons, List.length_nil, bimp, Bool.true_and]
    rw [show inb 2 (0 + 1 + 1 + 1) = true from rfl, show (decide ((2 : Int) < ((0 + 1 + 1 + 1 : Nat) : Int))) = true from rfl]
    simp only [cond_true, show ((2 : Int)).toNat = 2 from rfl, List.getD_cons_succ, List.getD_cons_zero, b3]
    rw [slices_Concat_l2, slices_Concat_b2]
    simp only [List.length_cons, List.length_nil]
    rw [show (decide ((3 : Int) < ((0 + 1 + 1 + 1 : Nat) : Int))) = false from rfl, cond_false]
  obtain ⟨fu, hfu⟩ : ∃ k, nf = k + 4 := ⟨nf - 4, by omega⟩
  have w1 : IntKind.i64.wrap (0 + 1) = 1 := rfl
  have w2 : IntKind.i64.wrap (1 + 1) = 2 := rfl
  have w3 : IntKind.i64.wrap (2 + 1) = 3 := rfl
  have s1 : IntKind.i64.wrap (0 + (a.length : Int)) = (a.length : Int) := by rw [wrap_nn (by omega) (by omega)]; omega
  have s2 : IntKind.i64.wrap ((a.length : Int) + (b.length : Int)) = (a.length : Int) + (b.length : Int) := wrap_nn (by omega) (by omega)
  have s3 : IntKind.i64.wrap ((a.length : Int) + (b.length : Int) + (c.length : Int)) = (a.length : Int) + (b.length : Int) + (c.length : Int) := wrap_nn (by omega) (by omega)
  have l0 : ∀ k : Nat, slices_Concat_l0 nf [a, b, c] (k + 4) 0 0 = some (a ++ b ++ c, ()) := by
    intro k
    rw [slices_Concat_l0, slices_Concat_b0, w1]
    simp only [List.length_cons, List.length_nil]
    rw [show inb 0 (0 + 1 + 1 + 1) = true from rfl, show (decide ((0 : Int) < ((0 + 1 + 1 + 1 : Nat) : Int))) = true from rfl]
    simp only [cond_true, Int.toNat_zero, List.getD_cons_zero, s1, show ¬ ((a.length : Int) < 0) by omega, decide_false, cond_false]
    rw [slices_Concat_l0, slices_Concat_b0, w2]
    simp only [List.length_cons, List.length_nil]
    rw [show inb 1 (0 + 1 + 1 + 1) = true from rfl, show (decide ((1 : Int) < ((0 + 1 + 1 + 1 : Nat) : Int))) = true from rfl]
    simp only [cond_true, show ((1 : Int)).toNat = 1 from rfl, List.getD_cons_succ, List.getD_cons_zero, s2, show ¬ ((a.length : Int) + (b.length : Int) < 0) by omega, decide_false, cond_false]
    rw [slices_Concat_l0, slices_Concat_b0, w3]
    simp only [List.length_cons, List.length_nil]
    rw [show inb 2 (0 + 1 + 1 + 1) = true from rfl, show (decide ((2 : Int) < ((0 + 1 + 1 + 1 : Nat) : Int))) = true from rfl]
    simp only [cond_true, show ((2 : Int)).toNat = 2 from rfl, List.getD_cons_succ, List.getD_cons_zero, s3, show ¬ ((a.length : Int) + (b.length : Int) + (c.length : Int) < 0) by omega, decide_false, cond_false]
    rw [slices_Concat_l0, slices_Concat_b0]
    simp only [List.length_cons, List.length_nil]
    rw [show (decide ((3 : Int) < ((0 + 1 + 1 + 1 : Nat) : Int))) = false from rfl, cond_false]
    have hg : slices_Grow_f nf [] ((a.length : Int) + (b.length : Int) + (c.length : Int)) = some ([], ()) := by
      simp only [slices_Grow_f, List.isEmpty_nil, Bool.true_and, show (0 : Int) ≤ (a.length : Int) + (b.length : Int) + (c.length : Int) by omega, show (a.length : Int) + (b.length : Int) + (c.length : Int) ≤ 4294967296 by omega, decide_true, Bool.and_self, cond_true]
    rw [hg, Option.bind_some]
    exact l2 nf (by omega)
  simp only [slices_Concat_f, slices_Concat_p]
  have := l0 fu
  rw [← hfu] at this
  exact this

theorem fcontains_F (l : List Int) (hl : l.length ≤ 100) (hf : 110 ≤ nf) : slices_ContainsFunc__fact_wrong_1_f nf l () = some (!l.all small, ()) := by
  have key := loop_first (n := (l.length : Int)) (F := fun fu t => slices_IndexFunc__fact_wrong_1_l0 nf l fu t) (hit := fun i => some (i, ())) (miss := some (-1, ())) (fun t => !small (l.getD t.toNat 0)) (fun fu t h0 ht => by
    have h1 : fact_wrong_1_f nf (l.getD t.toNat 0) = some (!small (l.getD t.toNat 0), ()) := by
      generalize l.getD t.toNat 0 = x
      simp only [fact_wrong_1_f, fact_wrong_1_p, small]
      by_cases c : x ≤ 255
      · simp [c]
      · simp [c, show x > 255 by omega]
    rw [slices_IndexFunc__fact_wrong_1_l0, slices_IndexFunc__fact_wrong_1_b0, inb_ok h0 ht, wrap_nn (x := t + 1) (by omega) (by omega), h1]
    simp only [ht, decide_true, cond_true, Option.bind_some]) (fun fu => by
    rw [slices_IndexFunc__fact_wrong_1_l0, slices_IndexFunc__fact_wrong_1_b0]
    simp only [Int.lt_irrefl, decide_false, cond_false]) nf 0 (by omega) (by omega) (by omega)
  simp only [slices_ContainsFunc__fact_wrong_1_f, slices_ContainsFunc__fact_wrong_1_p, slices_IndexFunc__fact_wrong_1_f, slices_IndexFunc__fact_wrong_1_p]
  rw [key, show ((l.length : Int) - 0).toNat = l.length by omega]
  cases hq : findFrom (fun t => !small (l.getD t.toNat 0)) l.length 0 with
  | none =>
    have h1 := findFrom_none hq
    have : l.all small = true := List.all_eq_true.2 fun x hx => by
      obtain ⟨i, hi, rfl⟩ := List.mem_iff_getElem.1 hx
      have h2 := h1 i (by omega) (by omega)
      rw [Int.toNat_natCast] at h2
      simpa [List.getD, hi] using h2
    rw [this]; rfl
  | some i =>
    obtain ⟨a, b, c⟩ := findFrom_some hq
    have : l.all small = false := by
      cases h : l.all small with
      | false => rfl
      | true =>
        have := List.all_eq_true.1 h _ (getD_mem (d := 0) a (by omega))
        rw [this] at c; cases c
    rw [this]
    simp [a]

theorem fwrong_F (hn : 200 ≤ nf) (law : LawT) : fact_wrong_f nf next law = some (lawC next law, ()) := by
  have hwc := way_Check_F (nf := nf) (by omega) next
  simp only [fact_wrong_f, fact_wrong_p, hwc, Option.bind_some, lawC]
  by_cases h : wayCode next = 0
  · have hW := wayCode_ok h
    have h8 := hW.few
    rw [if_pos h, h, bne_self_eq_false, cond_false]
    by_cases h1 : law.2.2.1.length = next.length
    · rw [if_neg (fun c => c h1), h1, bne_self_eq_false, cond_false]
      by_cases h2 : law.2.2.2.1.length = next.length
      · rw [if_neg (fun c => c h2), h2, bne_self_eq_false, cond_false, concat_F (by omega) (by omega) (by simp) (by omega), Option.bind_some, fcontains_F _ (by simp; omega) (by omega), Option.bind_some]
        cases (law.2.2.1 ++ law.2.2.2.1 ++ [law.2.2.2.2.1]).all small <;> rfl
      · rw [if_pos h2, bne_t (by omega), cond_true]
    · rw [if_pos h1, bne_t (by omega), cond_true]
  · rw [if_neg h, bne_t h, cond_true]

theorem fits8 {x : Int} : ref_Fits_f nf 8 x = some (small x, ()) := by
  rw [fits_F nf (by omega) (by omega)]
  have : ((2 ^ (8 : Int).toNat : Nat) : Int) = 256 := rfl
  rw [this]
  unfold small
  have : (x < 256) ↔ (x ≤ 255) := by omega
  rw [decide_eq_decide.2 this]
theorem lawCheck_F (hn : 200 ≤ nf) (law : LawT) : ref_LawCheck_f nf next law = some (lawC next law, ()) := by
  have hwc := ref_WayCheck_F (nf := nf) (by omega) next
  simp only [ref_LawCheck_f, ref_LawCheck_p, hwc, Option.bind_some, lawC]
  by_cases h : wayCode next = 0
  · have hW := wayCode_ok h
    have h8 := hW.few
    rw [if_pos h, h, bne_self_eq_false, cond_false]
    by_cases h1 : law.2.2.1.length = next.length
    · have e1 : ((law.2.2.1.length : Int) != (next.length : Int)) = false := by rw [h1]; simp
      rw [if_neg (fun c => c h1), e1, cond_false]
      by_cases h2 : law.2.2.2.1.length = next.length
      · have e2 : ((law.2.2.2.1.length : Int) != (next.length : Int)) = false := by rw [h2]; simp
        rw [if_neg (fun c => c h2), e2, cond_false]
        obtain ⟨k1, k2⟩ := loop_exit (n := (next.length : Int)) (F := fun fu t (l : LawT) => ref_LawCheck_l0 nf next law fu l t) (no := some (4, ())) (fun t => small (law.2.2.1.getD t.toNat 0) && small (law.2.2.2.1.getD t.toNat 0)) (fun _ l => l = law) (fun fu t l h0 ht hl hg => by
          subst hl
          refine ⟨l, ?_, rfl⟩
          rw [Bool.and_eq_true] at hg
          rw [ref_LawCheck_l0, ref_LawCheck_b0, inb_ok h0 (by omega : t < (l.2.2.1.length : Int)), inb_ok h0 (by omega : t < (l.2.2.2.1.length : Int)), fits8, fits8, wrap_nn (x := t + 1) (by omega) (by omega)]
          simp only [ht, decide_true, cond_true, Option.bind_some, hg.1, hg.2, Bool.not_true, cond_false]) (fun fu t l h0 ht hl hg => by
          subst hl
          rw [ref_LawCheck_l0, ref_LawCheck_b0, inb_ok h0 (by omega : t < (l.2.2.1.length : Int)), inb_ok h0 (by omega : t < (l.2.2.2.1.length : Int)), fits8, fits8, wrap_nn (x := t + 1) (by omega) (by omega)]
          simp only [ht, decide_true, cond_true, Option.bind_some]
          cases g1 : small (l.2.2.1.getD t.toNat 0) with
          | false => simp
          | true =>
            rw [g1, Bool.true_and] at hg
            rw [hg]; simp) nf 0 law (by omega) (by omega) (by omega) rfl
        rw [show ((next.length : Int) - 0).toNat = next.length by omega] at k1 k2
        have hall : chk (fun t => small (law.2.2.1.getD t.toNat 0) && small (law.2.2.2.1.getD t.toNat 0)) next.length 0 = true ↔ (law.2.2.1.all small = true ∧ law.2.2.2.1.all small = true) := by
          rw [chk_iff]
          constructor
          · intro hc
            refine ⟨List.all_eq_true.2 fun x hx => ?_, List.all_eq_true.2 fun x hx => ?_⟩
            · obtain ⟨i, hi, rfl⟩ := List.mem_iff_getElem.1 hx
              have := hc i (by omega) (by omega)
              rw [Bool.and_eq_true, Int.toNat_natCast] at this
              simpa [List.getD, hi] using this.1
            · obtain ⟨i, hi, rfl⟩ := List.mem_iff_getElem.1 hx
              have := hc i (by omega) (by omega)
              rw [Bool.and_eq_true, Int.toNat_natCast] at this
              simpa [List.getD, hi] using this.2
          · rintro ⟨c1, c2⟩ i i0 i1
            rw [Bool.and_eq_true]
            exact ⟨List.all_eq_true.1 c1 _ (getD_mem i0 (by omega)), List.all_eq_true.1 c2 _ (getD_mem i0 (by omega))⟩
        rw [List.all_append, List.all_append]
        cases hc : chk (fun t => small (law.2.2.1.getD t.toNat 0) && small (law.2.2.2.1.getD t.toNat 0)) next.length 0 with
        | false =>
          rw [k2 hc]
          have : ¬ (law.2.2.1.all small = true ∧ law.2.2.2.1.all small = true) := fun h => by rw [hall.2 h] at hc; cases hc
          rw [if_neg]
          rw [Bool.and_eq_true, Bool.and_eq_true]
          exact fun h => this h.1
        | true =>
          obtain ⟨fu', l, hl, e⟩ := k1 hc
          subst hl
          obtain ⟨c1, c2⟩ := hall.1 hc
          rw [e, ref_LawCheck_l0, ref_LawCheck_b0]
          simp only [Int.lt_irrefl, decide_false, cond_false]
          rw [fits8]
          simp only [Option.bind_some, c1, c2, Bool.true_and, List.all_cons, List.all_nil, Bool.and_true]
          cases small l.2.2.2.2.1 <;> rfl
      · rw [if_pos h2, bne_t (by omega), cond_true]
    · rw [if_pos h1, bne_t (by omega), cond_true]
  · rw [if_neg h, bne_t h, cond_true]

theorem lawC_ok {law : LawT} (h : lawC next law = 0) : WayOK next ∧ law.2.2.1.length = next.length ∧ law.2.2.2.1.length = next.length ∧ ∀ x ∈ law.2.2.1 ++ law.2.2.2.1 ++ [law.2.2.2.2.1], x ≤ 255 := by
  unfold lawC at h
  split at h
  · rename_i h0
    split at h
    · cases h
    · rename_i h1
      split at h
      · cases h
      · rename_i h2
        split at h
        · rename_i h3
          exact ⟨wayCode_ok h0, Classical.not_not.1 h1, Classical.not_not.1 h2, fun x hx => by simpa [small] using List.all_eq_true.1 h3 x hx⟩
        · cases h
  · rename_i h0; exact absurd h h0

/-! behind a node -/
def bhW (law : LawT) (i s : Int) : Int := or32 (not32 s (law.2.2.2.1.getD i.toNat 0)) (law.2.2.1.getD i.toNat 0)
theorem fbehind_F {law : LawT} (h1 : law.2.2.1.length = next.length) (h2 : law.2.2.2.1.length = next.length) {i s : Int} (h0 : 0 ≤ i) (hi : i < (next.length : Int)) : fact_behind_f nf law i s = some (bhW law i s, ()) := by
  simp only [fact_behind_f, fact_behind_p]
  rw [inb_ok h0 (by omega : i < (law.2.2.2.1.length : Int)), inb_ok h0 (by omega : i < (law.2.2.1.length : Int))]
  rfl

/-! the graph turned -/
def tp (i : Int) (T : List (List Int)) (j : Int) : List (List Int) := T.set j.toNat (T.getD j.toNat [] ++ [i])
def turnRow (next : List (List Int)) (T : List (List Int)) (i : Nat) : List (List Int) := (next.getD i []).foldl (tp (i : Int)) T
def turnTo (next : List (List Int)) (t : Nat) : List (List Int) := (List.range t).foldl (turnRow next) (List.replicate next.length [])
def turnL (next : List (List Int)) : List (List Int) := turnTo next next.length
structure TOK (n k : Nat) (T : List (List Int)) : Prop where
  len : T.length = n
  thin : ∀ l ∈ T, l.length ≤ k
theorem TOK.get {n k : Nat} {T : List (List Int)} (h : TOK n k T) (j : Nat) : (T.getD j []).length ≤ k := by
  by_cases hj : j < T.length
  · have : T.getD j [] = T[j] := by simp [List.getD, hj]
    rw [this]; exact h.thin _ (List.getElem_mem hj)
  · have : T.getD j [] = [] := by simp [List.getD, hj]
    rw [this]; exact Nat.zero_le _
theorem tp_tok {n k : Nat} {T : List (List Int)} (h : TOK n k T) (i j : Int) : TOK n (k + 1) (tp i T j) := by
  refine ⟨by simp [tp, h.len], fun l hl => ?_⟩
  unfold tp at hl
  rcases List.mem_or_eq_of_mem_set hl with h1 | h1
  · have := h.thin l h1; omega
  · rw [h1, List.length_append]; have := h.get j.toNat; rw [List.length_singleton]; omega
theorem row_tok {n : Nat} (i : Int) : ∀ (l : List Int) {k : Nat} {T : List (List Int)}, TOK n k T → TOK n (k + l.length) (l.foldl (tp i) T)
  | [], k, T, h => h
  | j :: l, k, T, h => by
    have := row_tok i l (tp_tok h i j)
    rw [List.foldl_cons, List.length_cons, show k + (l.length + 1) = k + 1 + l.length by omega]
    exact this
theorem turnTo_succ (next : List (List Int)) (t : Nat) : turnTo next (t + 1) = turnRow next (turnTo next t) t := by simp [turnTo, List.range_succ]
theorem nx_len (hW : WayOK next) (i : Nat) : (next.getD i []).length ≤ 3 := by
  by_cases hi : i < next.length
  · have : next.getD i [] = next[i] := by simp [List.getD, hi]
    rw [this]; exact hW.thin _ (List.getElem_mem hi)
  · have : next.getD i [] = [] := by simp [List.getD, hi]
    rw [this]; exact Nat.zero_le _
theorem nx_in (hW : WayOK next) (i : Nat) : ∀ j ∈ next.getD i [], 0 ≤ j ∧ j < (next.length : Int) := by
  by_cases hi : i < next.length
  · have : next.getD i [] = next[i] := by simp [List.getD, hi]
    rw [this]; exact hW.good _ (List.getElem_mem hi)
  · have : next.getD i [] = [] := by simp [List.getD, hi]
    rw [this]; exact fun j hj => by cases hj
theorem turnTo_tok (hW : WayOK next) : ∀ t : Nat, TOK next.length (3 * t) (turnTo next t)
  | 0 => ⟨by simp [turnTo], fun l hl => by simp [turnTo] at hl; simp [hl.2]⟩
  | t + 1 => by
    rw [turnTo_succ]
    have h := row_tok (t : Int) (next.getD t []) (turnTo_tok hW t)
    have h3 := nx_len hW t
    exact ⟨h.len, fun l hl => by have := h.thin l hl; omega⟩
theorem tp_get {T : List (List Int)} {i j : Int} (h0 : 0 ≤ j) (h1 : j < (T.length : Int)) (k : Nat) : (tp i T j).getD k [] = if k = j.toNat then T.getD k [] ++ [i] else T.getD k [] := by
  unfold tp
  rw [getD_upd (by omega)]
  by_cases h : k = j.toNat
  · rw [if_pos h, if_pos h, h]
  · rw [if_neg h, if_neg h]
theorem row_mem (i : Int) : ∀ (l : List Int) (T : List (List Int)), (∀ j ∈ l, 0 ≤ j ∧ j < (T.length : Int)) → ∀ (k : Nat) (x : Int), x ∈ (l.foldl (tp i) T).getD k [] ↔ x ∈ T.getD k [] ∨ (x = i ∧ (k : Int) ∈ l)
  | [], T, _, k, x => by simp
  | j :: l, T, h, k, x => by
    obtain ⟨h0, h1⟩ := h j (by simp)
    have hl : (tp i T j).length = T.length := by simp [tp]
    rw [List.foldl_cons, row_mem i l (tp i T j) (fun y hy => by rw [hl]; exact h y (by simp [hy])) k x, tp_get h0 h1]
    by_cases hk : k = j.toNat
    · have : (k : Int) = j := by omega
      rw [if_pos hk, List.mem_append, List.mem_singleton, this]
      constructor
      · rintro ((h2 | h2) | h2)
        · exact .inl h2
        · exact .inr ⟨h2, by simp⟩
        · exact .inr ⟨h2.1, by simp⟩
      · rintro (h2 | h2)
        · exact .inl (.inl h2)
        · exact .inl (.inr h2.1)
    · have : ¬ (k : Int) = j := by omega
      rw [if_neg hk]
      simp [this]
theorem turnTo_mem (hW : WayOK next) : ∀ (t : Nat) (k : Nat) (x : Int), x ∈ (turnTo next t).getD k [] ↔ 0 ≤ x ∧ x < (t : Int) ∧ (k : Int) ∈ next.getD x.toNat []
  | 0, k, x => by
    have : (turnTo next 0).getD k [] = [] := by
      by_cases hk : k < next.length <;> simp [turnTo, List.getD, hk]
    rw [this]
    constructor
    · intro h; cases h
    · intro h; omega
  | t + 1, k, x => by
    have hlen := (turnTo_tok hW t).len
    rw [turnTo_succ, turnRow, row_mem (t : Int) _ _ (fun j hj => by rw [hlen]; exact nx_in hW t j hj), turnTo_mem hW t k x]
    constructor
    · rintro (⟨h1, h2, h3⟩ | ⟨rfl, h⟩)
      · exact ⟨h1, by omega, h3⟩
      · exact ⟨by omega, by omega, by simpa using h⟩
    · rintro ⟨h1, h2, h3⟩
      by_cases hx : x < (t : Int)
      · exact .inl ⟨h1, hx, h3⟩
      · have : x = (t : Int) := by omega
        subst this
        exact .inr ⟨rfl, by simpa using h3⟩

theorem fturn_l2 {t : Int} (h0 : 0 ≤ t) (ht : t < (next.length : Int)) (h8 : next.length ≤ 8) {g0 : List (List Int) → Int → Option (List (List Int) × Unit)} : ∀ (rest don : List Int) (T : List (List Int)) (k fu : Nat), next.getD t.toNat [] = don ++ rest → TOK next.length k T → (don ++ rest).length ≤ 3 → k + rest.length ≤ 40 → (∀ j ∈ rest, 0 ≤ j ∧ j < (next.length : Int)) → rest.length < fu →
    fact_Turn_l2 nf next t g0 fu T (don.length : Int) = g0 (rest.foldl (tp t) T) (t + 1)
  | _, _, _, _, 0, _, _, _, _, _, h => by omega
  | [], don, T, k, fu + 1, hd, hT, _, _, _, _ => by
    rw [fact_Turn_l2, fact_Turn_b2, hd, wrap_nn (x := t + 1) (by omega) (by omega)]
    simp
  | j :: rest, don, T, k, fu + 1, hd, hT, h3, hk, hj, hf => by
    have ih := fturn_l2 h0 ht h8 (g0 := g0) rest (don ++ [j]) (tp t T j) (k + 1) fu (by rw [List.append_assoc]; exact hd) (tp_tok hT t j) (by rw [List.append_assoc]; exact h3) (by simp only [List.length_cons] at hk; omega) (fun y hy => hj y (by simp [hy])) (by simp only [List.length_cons] at hf; omega)
    obtain ⟨j0, j1⟩ := hj j (by simp)
    have hlt : (don.length : Int) < ((don ++ j :: rest).length : Int) := by simp; omega
    have hg : (don ++ j :: rest).getD ((don.length : Int)).toNat 0 = j := by simp [List.getD]
    have hb : Nat.ble ((T.getD j.toNat []).length + 1) lim = true := by
      have hq := hT.get j.toNat
      have hk' : k + (rest.length + 1) ≤ 40 := hk
      generalize (T.getD j.toNat []).length = q at hq ⊢
      exact ble_ok (by omega)
    have hjl : j < (T.length : Int) := by rw [hT.len]; exact j1
    rw [fact_Turn_l2, fact_Turn_b2, hd, hg, inb_ok (by omega) hlt, inb_ok j0 hjl, wrap_nn (x := (don.length : Int) + 1) (by omega) (by simp only [List.length_append, List.length_cons] at h3; omega)]
    simp only [hlt, decide_true, cond_true, List.isEmpty_cons, Bool.not_false, List.length_cons, List.length_nil, Nat.zero_add, hb, Bool.and_self, List.nil_append]
    rw [List.foldl_cons, ← ih]
    simp [tp]
theorem fturn_F (hW : WayOK next) (hn : 100 ≤ nf) : fact_Turn_f nf next = some (turnL next, ()) := by
  have h8 := hW.few
  simp only [fact_Turn_f, fact_Turn_p]
  have h1 : ((next.length : Int) ≤ ((lim : Nat) : Int)) := by unfold lim; omega
  simp only [Int.natCast_nonneg, Int.le_refl, h1, decide_true, Bool.and_self, cond_true, Int.toNat_natCast]
  obtain ⟨fu', T, hT, e⟩ := loop_inv (n := (next.length : Int)) (F := fun fu t (T : List (List Int)) => fact_Turn_l0 nf next fu T t) (fun t T => T = turnTo next t.toNat) (fun fu t T h0 ht hI => by
    subst hI
    refine ⟨_, ?_, rfl⟩
    have hk := turnTo_tok hW t.toNat
    have h3 := nx_len hW t.toNat
    rw [fact_Turn_l0, fact_Turn_b0, inb_ok h0 ht]
    simp only [ht, decide_true, cond_true]
    have := fturn_l2 (nf := nf) h0 ht h8 (g0 := fun out t13 => fact_Turn_l0 nf next fu out t13) (next.getD t.toNat []) [] (turnTo next t.toNat) (3 * t.toNat) nf rfl hk (by simpa using h3) (by omega) (nx_in hW _) (by omega)
    rw [show (([] : List Int).length : Int) = 0 from rfl] at this
    rw [this, show (t + 1).toNat = t.toNat + 1 by omega, turnTo_succ, turnRow, show ((t.toNat : Nat) : Int) = t by omega]) nf 0 (List.replicate next.length []) (by omega) (by omega) (by omega) rfl
  rw [e, fact_Turn_l0, fact_Turn_b0, hT, Int.toNat_natCast]
  simp only [Int.lt_irrefl, decide_false, cond_false]
  rfl
end Go.Proofs.Ytoglkjmdloppcaa
