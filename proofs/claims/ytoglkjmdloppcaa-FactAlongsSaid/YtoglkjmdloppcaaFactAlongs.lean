/- What is so along a path. -/
import Derived.Test.YtoglkjmdloppcaaFact
import Derived.Test.YtoglkjmdloppcaaAbLaw
namespace Go.Proofs.Ytoglkjmdloppcaa
open Go Go.Ab S

variable {nf : Nat} {next : List (List Int)}

theorem findex_F (l : List Int) (x : Int) (hl : l.length ≤ 100) (hf : l.length < nf) : ∃ i, slices_Index_f nf l x = some (i, ()) ∧ (0 ≤ i ↔ x ∈ l) := by
  have key := loop_first (n := (l.length : Int)) (F := fun fu t => slices_Index_l0 nf l x fu t) (hit := fun i => some (i, ())) (miss := some (-1, ())) (fun t => decide (x = l.getD t.toNat 0)) (fun fu t h0 ht => by
    rw [slices_Index_l0, slices_Index_b0, inb_ok h0 ht, wrap_nn (x := t + 1) (by omega) (by omega)]
    simp only [ht, decide_true, cond_true]
    by_cases h : x = l.getD t.toNat 0
    · rw [← h, decide_eq_true rfl, beq_self_eq_true]
    · rw [decide_eq_false h, beq_f h]) (fun fu => by
    rw [slices_Index_l0, slices_Index_b0]
    simp only [Int.lt_irrefl, decide_false, cond_false]) nf 0 (by omega) (by omega) (by omega)
  simp only [slices_Index_f, slices_Index_p]
  rw [key, show ((l.length : Int) - 0).toNat = l.length by omega]
  cases hq : findFrom (fun t => decide (x = l.getD t.toNat 0)) l.length 0 with
  | none =>
    have := findFrom_none hq
    refine ⟨-1, rfl, by omega, fun hx => ?_⟩
    obtain ⟨i, hi, rfl⟩ := List.mem_iff_getElem.1 hx
    have h1 := this i (by omega) (by omega)
    rw [Int.toNat_natCast] at h1
    simp [List.getD, hi] at h1
  | some i =>
    obtain ⟨a, b, c⟩ := findFrom_some hq
    rw [decide_eq_true_eq] at c
    exact ⟨i, rfl, fun _ => c ▸ getD_mem a (by omega), fun _ => a⟩
theorem fcontains2_F (l : List Int) (x : Int) (hl : l.length ≤ 100) (hf : l.length < nf) : slices_Contains_f nf l x = some (decide (x ∈ l), ()) := by
  obtain ⟨i, h1, h2⟩ := findex_F l x hl hf
  simp only [slices_Contains_f, slices_Contains_p, h1, Option.bind_some, ge_iff_le]
  rw [decide_eq_decide.2 h2]

/-! a path -/
def at' (path : List Int) (k : Int) : Int := path.getD k.toNat 0
def inn (n : Int) (x : Int) : Bool := decide (0 ≤ x) && decide (x < n)
def edge (nx : List (List Int)) (path : List Int) (k : Int) : Bool := decide (at' path k ∈ nx.getD (at' path (k - 1)).toNat [])
def goodK (nx : List (List Int)) (n : Int) (path : List Int) (k : Int) : Bool := inn n (at' path k) && (decide (k ≤ 0) || edge nx path k)
def along (law : LawT) (path : List Int) : Nat → Int
  | 0 => law.2.2.2.2.1
  | 1 => law.2.2.2.2.1
  | k + 2 => bhW law (at' path (k : Int)) (along law path (k + 1))

theorem along_l0 {law : LawT} (hl : lawC next law = 0) {nx : List (List Int)} (hx : TOK next.length 24 nx) {path : List Int} (hp : path.length ≤ maxLen) (hf : path.length + 200 < nf) :
    fact_Along_l0 nf law path nf nx law law.2.2.2.2.1 0 = some (if chk (goodK nx next.length path) path.length 0 = true then (along law path path.length, 0, ()) else (0, 5, ())) := by
  obtain ⟨hW, l1, l2, _⟩ := lawC_ok hl
  have hm : (path.length : Int) ≤ 9223372036854775807 := by simp [maxLen] at hp; omega
  obtain ⟨k1, k2⟩ := loop_exit (n := (path.length : Int)) (F := fun fu t (q : List (List Int) × LawT × Int) => fact_Along_l0 nf law path fu q.1 q.2.1 q.2.2 t) (no := some (0, 5, ())) (goodK nx next.length path)
    (fun t q => q.1 = nx ∧ q.2.1 = law ∧ q.2.2 = along law path t.toNat ∧ (0 < t → 0 ≤ at' path (t - 1) ∧ at' path (t - 1) < (next.length : Int))) (fun fu t q h0 ht hI hg => by
      obtain ⟨a, b, s⟩ := q
      obtain ⟨i1, i2, i3, i4⟩ := hI
      simp only at i1 i2 i3
      subst i1 i2 i3
      unfold goodK inn at hg
      simp only [Bool.and_eq_true, Bool.or_eq_true, decide_eq_true_eq] at hg
      obtain ⟨⟨g0, g1⟩, g2⟩ := hg
      have hw : IntKind.i64.wrap (t + 1) = t + 1 := wrap_nn (by omega) (by omega)
      refine ⟨(a, b, along b path (t + 1).toNat), ?_, rfl, rfl, rfl, fun _ => ?_⟩
      · have g0' : ¬ path.getD t.toNat 0 < 0 := by unfold at' at g0; omega
        have g1' : ¬ path.getD t.toNat 0 ≥ (a.length : Int) := by rw [hx.len]; unfold at' at g1; omega
        rw [fact_Along_l0, fact_Along_b0, inb_ok h0 ht]
        simp only [ht, decide_true, cond_true, g0', g1', decide_false, cond_false, hw]
        by_cases ht0 : t > 0
        · have hw1 : IntKind.i64.wrap (t - 1) = t - 1 := wrap_nn (by omega) (by omega)
          obtain ⟨j0, j1⟩ := i4 ht0
          have hj : path.getD (t - 1).toNat 0 = at' path (t - 1) := rfl
          have hk : path.getD t.toNat 0 = at' path t := rfl
          have he : edge a path t = true := g2.resolve_left (by omega)
          have hthin := hx.get (at' path (t - 1)).toNat
          simp only [ht0, decide_true, cond_true, hw1, inb_ok (by omega : 0 ≤ t - 1) (by omega : t - 1 < (path.length : Int)), hj, hk, inb_ok j0 (by rw [hx.len]; exact j1 : at' path (t - 1) < (a.length : Int))]
          rw [fcontains2_F _ _ (by omega) (by omega), Option.bind_some]
          unfold edge at he
          rw [he, Bool.not_true, cond_false, fbehind_F l1 l2 j0 j1, Option.bind_some]
          have : (t + 1).toNat = (t - 1).toNat + 2 := by omega
          rw [this, along, show (((t - 1).toNat : Nat) : Int) = t - 1 by omega, show (t - 1).toNat + 1 = t.toNat by omega]
        · have : t = 0 := by omega
          subst this
          simp [along]
      · rw [show t + 1 - 1 = t by omega]; exact ⟨g0, g1⟩) (fun fu t q h0 ht hI hg => by
      obtain ⟨a, b, s⟩ := q
      obtain ⟨i1, i2, i3, i4⟩ := hI
      simp only at i1 i2 i3
      subst i1 i2 i3
      have hw1 : t > 0 → IntKind.i64.wrap (t - 1) = t - 1 := fun h => wrap_nn (by omega) (by omega)
      rw [fact_Along_l0, fact_Along_b0, inb_ok h0 ht]
      simp only [ht, decide_true, cond_true]
      have hk : path.getD t.toNat 0 = at' path t := rfl
      rw [hk, hx.len]
      by_cases g0 : at' path t < 0
      · simp only [g0, decide_true, cond_true]
      · by_cases g1 : at' path t ≥ (next.length : Int)
        · simp only [g0, g1, decide_true, decide_false, cond_true, cond_false]
        · simp only [g0, g1, decide_false, cond_false]
          unfold goodK inn at hg
          have e0 : 0 ≤ at' path t := by omega
          have e1 : at' path t < (next.length : Int) := by omega
          simp only [e0, e1, decide_true, Bool.and_self, Bool.true_and, Bool.or_eq_false_iff, decide_eq_false_iff_not] at hg
          have ht0 : t > 0 := by omega
          obtain ⟨j0, j1⟩ := i4 ht0
          have hj : path.getD (t - 1).toNat 0 = at' path (t - 1) := rfl
          have hthin := hx.get (at' path (t - 1)).toNat
          simp only [ht0, decide_true, cond_true, hw1 ht0, inb_ok (by omega : 0 ≤ t - 1) (by omega : t - 1 < (path.length : Int)), hj, inb_ok j0 j1]
          rw [fcontains2_F _ _ (by omega) (by omega), Option.bind_some]
          have he := hg.2
          unfold edge at he
          rw [he]; rfl) nf 0 (nx, law, law.2.2.2.2.1) (by omega) (by omega) (by omega) ⟨rfl, rfl, rfl, fun h => by omega⟩
  rw [show ((path.length : Int) - 0).toNat = path.length by omega] at k1 k2
  cases hc : chk (goodK nx next.length path) path.length 0 with
  | false => simpa using k2 hc
  | true =>
    obtain ⟨fu', q, ⟨q1, q2, q3, _⟩, e⟩ := k1 hc
    simp only at e
    rw [e, fact_Along_l0, fact_Along_b0, q3, Int.toNat_natCast]
    simp

/-- what the law asks of a path -/
theorem lawl2_F {law : LawT} (hl : lawC next law = 0) {path : List Int} (hp : path.length ≤ maxLen) (hf : path.length + 200 < nf) (h1 : 1 ≤ path.length) (hin : ∀ k : Int, 0 ≤ k → k < (path.length : Int) → 0 ≤ at' path k ∧ at' path k < (next.length : Int)) {r : Int × Int × Unit} :
    law_FactAlongs_l2 nf law path r nf law law.2.2.2.2.1 1 = some (if r.2.1 = 0 then decide (r.1 = along law path path.length) else false, ()) := by
  obtain ⟨hW, l1, l2, _⟩ := lawC_ok hl
  have hm : (path.length : Int) ≤ 9223372036854775807 := by simp [maxLen] at hp; omega
  obtain ⟨fu', q, ⟨q1, q2⟩, e⟩ := loop_inv (n := (path.length : Int) - 1) (F := fun fu t (q : LawT × Int) => law_FactAlongs_l2 nf law path r fu q.1 q.2 (t + 1)) (fun t q => q.1 = law ∧ q.2 = along law path (t + 1).toNat) (fun fu t q h0 ht hI => by
    obtain ⟨a, s⟩ := q
    obtain ⟨i1, i2⟩ := hI
    simp only at i1 i2
    subst i1 i2
    obtain ⟨j0, j1⟩ := hin t h0 (by omega)
    have hw : IntKind.i64.wrap (t + 1 + 1) = t + 1 + 1 := wrap_nn (by omega) (by omega)
    have hw1 : IntKind.i64.wrap (t + 1 - 1) = t := by rw [wrap_nn (by omega) (by omega)]; omega
    have hj : path.getD t.toNat 0 = at' path t := rfl
    refine ⟨(a, along a path (t + 1 + 1).toNat), ?_, rfl, rfl⟩
    simp only
    rw [law_FactAlongs_l2, law_FactAlongs_b2, hw1, inb_ok h0 (by omega : t < (path.length : Int)), hj, inb_ok j0 (by omega : at' path t < (a.2.2.2.1.length : Int)), inb_ok j0 (by omega : at' path t < (a.2.2.1.length : Int)), hw]
    simp only [show t + 1 < (path.length : Int) by omega, decide_true, cond_true]
    rw [show (t + 1 + 1).toNat = t.toNat + 2 by omega, along, show ((t.toNat : Nat) : Int) = t by omega, show (t + 1).toNat = t.toNat + 1 by omega]
    rfl) nf 0 (law, law.2.2.2.2.1) (by omega) (by omega) (by omega) ⟨rfl, rfl⟩
  have e' : law_FactAlongs_l2 nf law path r nf law law.2.2.2.2.1 1 = law_FactAlongs_l2 nf law path r (fu' + 1) q.1 q.2 ((path.length : Int) - 1 + 1) := e
  rw [e', law_FactAlongs_l2, law_FactAlongs_b2, q2, show (path.length : Int) - 1 + 1 = (path.length : Int) by omega, Int.toNat_natCast]
  simp only [Int.lt_irrefl, decide_false, cond_false]
  by_cases h0 : r.2.1 = 0
  · rw [h0, if_pos rfl, beq_self_eq_true, cond_true]
    by_cases h2 : r.1 = along law path path.length
    · rw [h2, decide_eq_true rfl, beq_self_eq_true]
    · rw [decide_eq_false h2, beq_f h2]
  · rw [if_neg h0, beq_f h0, cond_false]

def lawE (next : List (List Int)) (back : Bool) (path : List Int) (k : Int) : Bool := match back with
  | true => decide (at' path (k - 1) ∈ next.getD (at' path k).toNat [])
  | false => decide (at' path k ∈ next.getD (at' path (k - 1)).toNat [])

theorem lawl0_F {law : LawT} (hl : lawC next law = 0) {path : List Int} (hp : path.length ≤ maxLen) (hf : path.length + 200 < nf) (h1 : 1 ≤ path.length) (hin : ∀ k : Int, 0 ≤ k → k < (path.length : Int) → 0 ≤ at' path k ∧ at' path k < (next.length : Int)) {r : Int × Int × Unit} :
    law_FactAlongs_l0 nf next law path r nf law 0 1 = some (if chk (fun k => lawE next law.1 path (k + 1)) (path.length - 1) 0 = true then (if r.2.1 = 0 then decide (r.1 = along law path path.length) else false) else (if r.2.1 = 5 then decide (r.1 = 0) else false), ()) := by
  obtain ⟨hW, l1, l2, _⟩ := lawC_ok hl
  have hm : (path.length : Int) ≤ 9223372036854775807 := by simp [maxLen] at hp; omega
  have hbad : ∀ (fu : Nat) (k : Int), law_FactAlongs_l0 nf next law path r (fu + 1) law 5 k = some (if r.2.1 = 5 then decide (r.1 = 0) else false, ()) := by
    intro fu k
    rw [law_FactAlongs_l0, law_FactAlongs_b0]
    have h5 : ((5 : Int) != 0) = true := rfl
    simp only [h5, cond_true]
    have : (bif r.2.1 == 5 then some ((r.1 == 0, ()) : Bool × Unit) else some (false, ())) = some (if r.2.1 = 5 then decide (r.1 = 0) else false, ()) := by
      by_cases h0 : r.2.1 = 5
      · rw [h0, if_pos rfl, beq_self_eq_true, cond_true]
        by_cases h2 : r.1 = 0
        · rw [h2]; rfl
        · rw [decide_eq_false h2, beq_f h2]
      · rw [if_neg h0, beq_f h0, cond_false]
    rw [this]
    cases decide (k < (path.length : Int)) <;> rfl
  have step : ∀ (fu : Nat) (t : Int), 0 ≤ t → t < (path.length : Int) - 1 → law_FactAlongs_l0 nf next law path r (fu + 1) law 0 (t + 1) = law_FactAlongs_l0 nf next law path r fu law (if lawE next law.1 path (t + 1) = true then 0 else 5) (t + 1 + 1) := by
    intro fu t h0 ht
    obtain ⟨j0, j1⟩ := hin t h0 (by omega)
    obtain ⟨k0, k1⟩ := hin (t + 1) (by omega) (by omega)
    have hw : IntKind.i64.wrap (t + 1 + 1) = t + 1 + 1 := wrap_nn (by omega) (by omega)
    have hw1 : IntKind.i64.wrap (t + 1 - 1) = t := by rw [wrap_nn (by omega) (by omega)]; omega
    have hj : path.getD t.toNat 0 = at' path t := rfl
    have hk : path.getD (t + 1).toNat 0 = at' path (t + 1) := rfl
    have n1 := nx_len hW (at' path t).toNat
    have n2 := nx_len hW (at' path (t + 1)).toNat
    have hm3 : (3 : Nat) ≤ maxLen := by decide
    rw [law_FactAlongs_l0, law_FactAlongs_b0, hw1, inb_ok h0 (by omega : t < (path.length : Int)), hj, inb_ok j0 j1, inb_ok (by omega : 0 ≤ t + 1) (by omega : t + 1 < (path.length : Int)), hk, inb_ok k0 k1, hw]
    simp only [show t + 1 < (path.length : Int) by omega, decide_true, cond_true, bne_self_eq_false, cond_false]
    rw [fact_has_F _ _ (by omega) (by omega), fact_has_F _ _ (by omega) (by omega)]
    simp only [Option.bind_some]
    unfold lawE
    rw [show t + 1 - 1 = t by omega]
    cases law.1 with
    | true =>
      simp only [cond_true]
      by_cases h : at' path t ∈ next.getD (at' path (t + 1)).toNat []
      · rw [decide_eq_true h, Bool.not_true, cond_false, if_pos rfl]
      · rw [decide_eq_false h, Bool.not_false, cond_true, if_neg (by simp)]
    | false =>
      simp only [cond_false]
      by_cases h : at' path (t + 1) ∈ next.getD (at' path t).toNat []
      · rw [decide_eq_true h, Bool.not_true, cond_false, if_pos rfl]
      · rw [decide_eq_false h, Bool.not_false, cond_true, if_neg (by simp)]
  have main : ∀ (fu : Nat) (t : Int), 0 ≤ t → t ≤ (path.length : Int) - 1 → (path.length : Int) + 2 < t + fu → law_FactAlongs_l0 nf next law path r fu law 0 (t + 1) = some (if chk (fun k => lawE next law.1 path (k + 1)) ((path.length : Int) - 1 - t).toNat t = true then (if r.2.1 = 0 then decide (r.1 = along law path path.length) else false) else (if r.2.1 = 5 then decide (r.1 = 0) else false), ()) := by
    intro fu
    induction fu with
    | zero => intro t h0 ht hf; omega
    | succ fu ih =>
      intro t h0 ht hf'
      by_cases hlt : t < (path.length : Int) - 1
      · rw [step fu t h0 hlt, show ((path.length : Int) - 1 - t).toNat = ((path.length : Int) - 1 - (t + 1)).toNat + 1 by omega, chk]
        cases hE : lawE next law.1 path (t + 1) with
        | true =>
          rw [if_pos rfl, Bool.true_and]
          exact ih (t + 1) (by omega) (by omega) (by omega)
        | false =>
          rw [if_neg (by simp), Bool.false_and, if_neg (by simp)]
          obtain ⟨fu2, rfl⟩ : ∃ k, fu = k + 1 := ⟨fu - 1, by omega⟩
          exact hbad _ _
      · have : t = (path.length : Int) - 1 := by omega
        subst this
        rw [show ((path.length : Int) - 1 - ((path.length : Int) - 1)).toNat = 0 by omega, law_FactAlongs_l0, law_FactAlongs_b0]
        have hnl : ¬ ((path.length : Int) - 1 + 1 < (path.length : Int)) := by omega
        simp only [hnl, decide_false, cond_false, bne_self_eq_false, chk, if_true]
        exact lawl2_F hl hp hf h1 hin
  have := main nf 0 (by omega) (by omega) (by omega)
  rw [show (0 : Int) + 1 = 1 from rfl, show ((path.length : Int) - 1 - 0).toNat = path.length - 1 by omega] at this
  exact this

theorem inside_at {n : Int} {path : List Int} : inside n path = true ↔ ∀ k : Int, 0 ≤ k → k < (path.length : Int) → 0 ≤ at' path k ∧ at' path k < n := by
  unfold inside
  rw [List.all_eq_true]
  constructor
  · intro h k k0 k1
    have := h (path.getD k.toNat 0) (getD_mem (d := 0) k0 k1)
    simp only [Bool.and_eq_true, decide_eq_true_eq] at this
    exact this
  · intro h x hx
    obtain ⟨i, hi, rfl⟩ := List.mem_iff_getElem.1 hx
    have := h i (by omega) (by omega)
    unfold at' at this
    rw [Int.toNat_natCast] at this
    have e : path.getD i 0 = path[i] := by simp [List.getD, hi]
    rw [e] at this
    simpa using this

theorem factAlongs_aux {law : LawT} {path : List Int} (hp : path.length ≤ maxLen) (hn : path.length + 300 ≤ nf) : law_FactAlongs_f nf next law path = some (true, ()) := by
  simp only [law_FactAlongs_f, law_FactAlongs_p, fact_Along_f, fact_Along_p]
  rw [fwrong_F (by omega) law, lawCheck_F (by omega) law]
  simp only [Option.bind_some]
  have hbad : ∀ (fu : Nat) (x : Int) (r : Int × Int × Unit), x ≠ 0 → law_FactAlongs_l0 nf next law path r (fu + 1) law x 1 = bif r.2.1 == x then some (r.1 == 0, ()) else some (false, ()) := by
    intro fu x r hx
    rw [law_FactAlongs_l0, law_FactAlongs_b0]
    simp only [bne_t hx, cond_true]
    cases decide ((1 : Int) < (path.length : Int)) <;> rfl
  obtain ⟨nf', hnf⟩ : ∃ k, nf = k + 1 := ⟨nf - 1, by omega⟩
  by_cases hl : lawC next law = 0
  · obtain ⟨hW, l1, l2, _⟩ := lawC_ok hl
    have h8 := hW.few
    rw [hl]
    simp only [bne_self_eq_false, cond_false, beq_self_eq_true, cond_true]
    rw [fturn_F hW (by omega), Option.bind_some, inside_F _ _ hp (by omega)]
    simp only [Option.bind_some]
    by_cases h0 : path.length = 0
    · have : ((path.length : Int) == 0) = true := by simp [h0]
      simp only [this, cond_true]
      have e : (bif law.1 then some ((0, 5, ()) : Int × Int × Unit) else some (0, 5, ())) = some (0, 5, ()) := by cases law.1 <;> rfl
      rw [e, Option.bind_some]
      have := hbad nf' 5 (0, 5, ()) (by decide)
      rw [← hnf] at this
      rw [this]; rfl
    · have h0' : ((path.length : Int) == 0) = false := beq_f (by omega)
      simp only [h0', cond_false]
      have tk : ∀ nx, (nx = turnL next ∨ nx = next) → TOK next.length 24 nx := by
        rintro nx (rfl | rfl)
        · have := turnTo_tok hW next.length
          exact ⟨this.len, fun l hl => by have := this.thin l hl; omega⟩
        · exact ⟨rfl, fun l hl => by have := hW.thin l hl; omega⟩
      have e : (bif law.1 then fact_Along_l0 nf law path nf (turnL next) law law.2.2.2.2.1 0 else fact_Along_l0 nf law path nf next law law.2.2.2.2.1 0) = some (if chk (goodK (bif law.1 then turnL next else next) next.length path) path.length 0 = true then (along law path path.length, 0, ()) else (0, 5, ())) := by
        cases law.1 with
        | true => exact along_l0 hl (tk _ (.inl rfl)) hp (by omega)
        | false => exact along_l0 hl (tk _ (.inr rfl)) hp (by omega)
      rw [e, Option.bind_some]
      cases hi : inside next.length path with
      | false =>
        have hc : chk (goodK (bif law.1 then turnL next else next) next.length path) path.length 0 = false := by
          cases hc : chk (goodK (bif law.1 then turnL next else next) next.length path) path.length 0 with
          | false => rfl
          | true =>
            exfalso
            have : inside next.length path = true := inside_at.2 fun k k0 k1 => by
              have := chk_iff.1 hc k k0 (by omega)
              unfold goodK inn at this
              simp only [Bool.and_eq_true, decide_eq_true_eq] at this
              exact this.1
            rw [hi] at this; cases this
        rw [hc]
        simp only [Bool.not_false, cond_true]
        have := hbad nf' 5 (0, 5, ()) (by decide)
        rw [← hnf] at this
        rw [if_neg (by simp), this]; rfl
      | true =>
        have hin := inside_at.1 hi
        simp only [Bool.not_true, cond_false]
        rw [lawl0_F hl hp (by omega) (by omega) hin]
        have hiff : chk (goodK (bif law.1 then turnL next else next) next.length path) path.length 0 = chk (fun k => lawE next law.1 path (k + 1)) (path.length - 1) 0 := by
          rw [Bool.eq_iff_iff, chk_iff, chk_iff]
          have hedge : ∀ k : Int, 0 < k → k < (path.length : Int) → edge (bif law.1 then turnL next else next) path k = lawE next law.1 path k := by
            intro k k0 k1
            obtain ⟨a0, a1⟩ := hin k (by omega) k1
            obtain ⟨b0, b1⟩ := hin (k - 1) (by omega) (by omega)
            unfold edge lawE
            cases law.1 with
            | false => rfl
            | true =>
              refine decide_eq_decide.2 ?_
              simp only [cond_true]
              rw [turnL, turnTo_mem hW]
              rw [show (((at' path (k - 1)).toNat : Nat) : Int) = at' path (k - 1) by omega]
              exact ⟨fun h => h.2.2, fun h => ⟨a0, a1, h⟩⟩
          constructor
          · intro h k k0 k1
            have := h (k + 1) (by omega) (by omega)
            unfold goodK at this
            simp only [Bool.and_eq_true, Bool.or_eq_true, decide_eq_true_eq] at this
            have he := this.2.resolve_left (by omega)
            rw [hedge (k + 1) (by omega) (by omega)] at he
            exact he
          · intro h k k0 k1
            obtain ⟨a0, a1⟩ := hin k k0 (by omega)
            unfold goodK inn
            simp only [Bool.and_eq_true, Bool.or_eq_true, decide_eq_true_eq]
            refine ⟨⟨a0, a1⟩, ?_⟩
            by_cases hk : k ≤ 0
            · exact .inl hk
            · have := h (k - 1) (by omega) (by omega)
              rw [show k - 1 + 1 = k by omega] at this
              rw [hedge k (by omega) (by omega)]
              exact .inr this
        rw [hiff]
        cases chk (fun k => lawE next law.1 path (k + 1)) (path.length - 1) 0 <;> simp
  · simp only [bne_t hl, cond_true, Option.bind_some, beq_f hl, cond_false]
    have := hbad nf' (lawC next law) (0, lawC next law, ()) hl
    rw [← hnf] at this
    rw [this]; simp

theorem factAlongs_law (x : denPs (lawPs [.sl (.sl (.int .i64)), .pair (.bool) (.pair (.bool) (.pair (.sl (.int .u32)) (.pair (.sl (.int .u32)) (.pair (.int .u32) (.unit))))), .sl (.int .i64)])) (h : wfPs [.sl (.sl (.int .i64)), .pair (.bool) (.pair (.bool) (.pair (.sl (.int .u32)) (.pair (.sl (.int .u32)) (.pair (.int .u32) (.unit))))), .sl (.int .i64)] x) : ∃ n, law_FactAlongs_F n x = some (true, ()) := by
  obtain ⟨next, law, path, _⟩ := x
  obtain ⟨_, _, ⟨h3, _⟩, _⟩ := h
  exact ⟨_, factAlongs_aux h3 (Nat.le_refl _)⟩
end Go.Proofs.Ytoglkjmdloppcaa
