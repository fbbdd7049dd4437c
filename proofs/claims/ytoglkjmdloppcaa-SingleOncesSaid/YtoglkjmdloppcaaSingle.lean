/- Programs in single static assignment form: what is wrong with one. -/
import Derived.Test.YtoglkjmdloppcaaSNext
namespace Go.Proofs.Ytoglkjmdloppcaa
open Go Go.Ab S

variable {nf : Nat}
abbrev Jn := Int × List Int × Unit
abbrev Sg := List Jn × List Step6 × Int × Int × Int × List Int × Unit
abbrev S0 : Sg := ([], [], 0, 0, 0, [], ())

/-- is it a register's number? -/
def rin (x : Int) : Bool := decide (0 ≤ x) && decide (x < 128)
def within (n : Int) (l : List Int) : Bool := l.all fun x => decide (0 ≤ x) && decide (x < n)
theorem within_cons (n x : Int) (l : List Int) : within n (x :: l) = ((decide (0 ≤ x) && decide (x < n)) && within n l) := rfl
theorem within_mem {n : Int} {l : List Int} (h : within n l = true) : ∀ x ∈ l, 0 ≤ x ∧ x < n := fun x hx => by
 have := List.all_eq_true.1 h x hx
 simpa using this

theorem sinside_F (n : Int) (l : List Int) (hl : l.length ≤ maxLen) (hf : l.length < nf) : ref_Inside_f nf n l = some (within n l, ()) := by
 have key : ∀ (fu : Nat) (t : Int), 0 ≤ t → t ≤ l.length → l.length < t + fu → ref_Inside_l0 nf n l fu t = some (within n (l.drop t.toNat), ()) := by
  intro fu
  induction fu with
  | zero => intro t h1 h2 h3; omega
  | succ fu ih =>
   intro t h1 h2 h3
   rw [ref_Inside_l0, ref_Inside_b0]
   by_cases ht : t < l.length
   ·rw [inb_ok h1 ht, wrap_step h1 ht hl, ih (t + 1) (by omega) (by omega) (by omega), drop_step l t 0 h1 ht, within_cons]
    simp only [ht, decide_true, cond_true]
    by_cases h4 : 0 ≤ l.getD t.toNat 0
    ·have h5 : ¬ l.getD t.toNat 0 < 0 := by omega
     by_cases h6 : l.getD t.toNat 0 < n
     ·have h7 : ¬ l.getD t.toNat 0 ≥ n := by omega
      simp only [h4, h5, h6, h7, decide_true, decide_false, cond_false, Bool.true_and]
     ·have h7 : l.getD t.toNat 0 ≥ n := by omega
      simp only [h5, h6, h7, decide_true, decide_false, cond_false, cond_true, Bool.and_false, Bool.false_and]
    ·have h5 : l.getD t.toNat 0 < 0 := by omega
     simp only [h4, h5, decide_true, decide_false, cond_true, Bool.false_and]
   ·simp [ht, List.drop_eq_nil_of_le (show l.length ≤ t.toNat by omega), within]
 rw [ref_Inside_f, ref_Inside_p, key nf 0 (by omega) (by omega) (by omega)]
 simp

theorem sbad_F (l : List Int) (hl : l.length ≤ maxLen) (hf : l.length < nf) : single_bad_f nf l = some (!within 128 l, ()) := by
 have key : ∀ (fu : Nat) (t : Int), 0 ≤ t → t ≤ l.length → l.length < t + fu → ∃ r : Int, slices_IndexFunc__single_bad_1_l0 nf l fu t = some (r, ()) ∧ (decide (r ≥ 0)) = !within 128 (l.drop t.toNat) := by
  intro fu
  induction fu with
  | zero => intro t h1 h2 h3; omega
  | succ fu ih =>
   intro t h1 h2 h3
   rw [slices_IndexFunc__single_bad_1_l0, slices_IndexFunc__single_bad_1_b0]
   by_cases ht : t < l.length
   ·simp only [ht, decide_true, cond_true, inb_ok h1 ht, wrap_step h1 ht hl, drop_step l t 0 h1 ht, within_cons, single_bad_1_f, single_bad_1_p]
    by_cases h4 : l.getD t.toNat 0 < 0
    ·refine ⟨t, ?_, ?_⟩
     ·simp only [h4, decide_true, cond_true, Option.bind_some]
     ·have : ¬ 0 ≤ l.getD t.toNat 0 := by omega
      simp only [this, decide_false, Bool.false_and, Bool.not_false, decide_eq_true_eq]; omega
    ·by_cases h5 : l.getD t.toNat 0 ≥ 128
     ·refine ⟨t, ?_, ?_⟩
      ·simp only [h4, h5, decide_true, decide_false, cond_true, cond_false, Option.bind_some]
      ·have : ¬ l.getD t.toNat 0 < 128 := by omega
       simp only [this, decide_false, Bool.false_and, Bool.and_false, Bool.not_false, decide_eq_true_eq]; omega
     ·obtain ⟨r, i1, i2⟩ := ih (t + 1) (by omega) (by omega) (by omega)
      refine ⟨r, ?_, ?_⟩
      ·simp only [h4, h5, decide_false, cond_false, Option.bind_some, i1]
      ·rw [i2]
       simp only [show 0 ≤ l.getD t.toNat 0 by omega, show l.getD t.toNat 0 < 128 by omega, decide_true, Bool.true_and]
   ·refine ⟨-1, by simp [ht], ?_⟩
    simp [List.drop_eq_nil_of_le (show l.length ≤ t.toNat by omega), within]
 obtain ⟨r, i1, i2⟩ := key nf 0 (by omega) (by omega) (by omega)
 simp only [single_bad_f, single_bad_p, slices_ContainsFunc__single_bad_1_f, slices_ContainsFunc__single_bad_1_p, slices_IndexFunc__single_bad_1_f, slices_IndexFunc__single_bad_1_p, i1, Option.bind_some, i2]
 simp

/-- what a step uses -/
def usesOf (s : Step6) : List Int := if s.1 = 1 then [] else if s.1 = 2 then [s.2.2.2.2.1] else [s.2.2.1, s.2.2.2.1]
theorem suses_F (s : Step6) : single_uses_f nf s = some (usesOf s, ()) := by
 simp only [single_uses_f, single_uses_p, usesOf]
 by_cases h1 : s.1 = 1
 ·simp [h1]
 ·by_cases h2 : s.1 = 2
  ·simp [h2]
  ·simp [beq_f h1, beq_f h2, h1, h2]

def stpCode (s : Step6) : Int := if s.1 < 1 ∨ s.1 > 6 then 6 else if s.1 = 1 ∧ ¬ (0 ≤ s.2.2.2.2.1 ∧ s.2.2.2.2.1 ≤ 255) then 4 else if (within 128 [s.2.1] && within 128 (usesOf s)) = true then 0 else 2
def stpsGo : List Step6 → Int
 | [] => 0
 | s :: r => if stpCode s = 0 then stpsGo r else stpCode s
def jnCode (m : Int) (j : Jn) : Int := if (j.2.1.length : Int) ≠ m then 3 else if (within 128 [j.1] && within 128 j.2.1) = true then 0 else 2
def jnsGo (m : Int) : List Jn → Int
 | [] => 0
 | j :: r => if jnCode m j = 0 then jnsGo m r else jnCode m j
def endCode (b : Sg) : Int := if b.2.2.1 < 128 ∧ within 128 b.2.2.2.2.2.1 = true then 0 else 2
def inCode (m : Int) (b : Sg) : Int := if jnsGo m b.1 = 0 then (if stpsGo b.2.1 = 0 then endCode b else stpsGo b.2.1) else jnsGo m b.1

/-- what a block's lists ask of the fuel -/
structure SFit (nf : Nat) (b : Sg) : Prop where
 j0 : b.1.length ≤ maxLen
 j1 : b.1.length < nf
 s0 : b.2.1.length ≤ maxLen
 s1 : b.2.1.length < nf
 o0 : b.2.2.2.2.2.1.length ≤ maxLen
 o1 : b.2.2.2.2.2.1.length < nf
 f0 : ∀ j ∈ b.1, j.2.1.length ≤ maxLen
 f1 : ∀ j ∈ b.1, j.2.1.length < nf

theorem sin_l2 {b : Sg} (h : SFit nf b) (hn : 10 ≤ nf) (ht0 : -1 ≤ b.2.2.1) : ∀ (fu : Nat) (t : Int), 0 ≤ t → t ≤ b.2.1.length → b.2.1.length < t + fu →
  single_inside_l2 nf b b fu b t = some (if stpsGo (b.2.1.drop t.toNat) = 0 then endCode b else stpsGo (b.2.1.drop t.toNat), ()) := by
 intro fu
 induction fu with
 | zero => intro t h1 h2 h3; omega
 | succ fu ih =>
  intro t h1 h2 h3
  rw [single_inside_l2, single_inside_b2]
  by_cases ht : t < b.2.1.length
  ·simp only [ht, decide_true, cond_true, inb_ok h1 ht, wrap_step h1 ht h.s0, ih (t + 1) (by omega) (by omega) (by omega), drop_step b.2.1 t (0, 0, 0, 0, 0, ()) h1 ht, stpsGo, stpCode, suses_F, Option.bind_some]
   generalize b.2.1.getD t.toNat (0, 0, 0, 0, 0, ()) = s
   obtain ⟨op, to, x, y, k, u⟩ := s
   simp only [sbad_F (nf := nf) [to] (show (1 : Nat) ≤ maxLen by decide) (show 1 < nf by omega), Option.bind_some]
   have hu : (usesOf (op, to, x, y, k, u)).length ≤ 2 := by unfold usesOf; split; simp; split <;> simp
   rw [sbad_F (nf := nf) (usesOf (op, to, x, y, k, u)) (Nat.le_trans hu (by decide)) (by omega)]
   simp only [Option.bind_some]
   by_cases o1 : op < 1
   ·simp [o1]
   ·by_cases o2 : op > 6
    ·simp [o1, o2]
    ·by_cases o3 : op = 1
     ·subst o3
      by_cases k0 : k < 0
      ·have : ¬ 0 ≤ k := by omega
       simp [k0, this]
      ·by_cases k1 : k > 255
       ·have : ¬ k ≤ 255 := by omega
        simp [k0, k1, this]
       ·have e1 : 0 ≤ k := by omega
        have e2 : k ≤ 255 := by omega
        cases within 128 [to] <;> cases within 128 (usesOf (1, to, x, y, k, u)) <;> simp [k0, k1, e1, e2]
     ·cases within 128 [to] <;> cases within 128 (usesOf (op, to, x, y, k, u)) <;> simp [o1, o2, o3, beq_f o3]
  ·simp only [ht, decide_false, cond_false, List.drop_eq_nil_of_le (show b.2.1.length ≤ t.toNat by omega), stpsGo, if_true, endCode, sbad_F _ h.o0 h.o1, sbad_F (nf := nf) [b.2.2.1] (show (1 : Nat) ≤ maxLen by decide) (show 1 < nf by omega), Option.bind_some]
   by_cases t0 : b.2.2.1 ≥ 0
   ·by_cases t1 : b.2.2.1 < 128
    ·have : within 128 [b.2.2.1] = true := by simp [within, t0, t1]
     rw [this]
     cases within 128 b.2.2.2.2.2.1 <;> simp [t0, t1]
    ·have : within 128 [b.2.2.1] = false := by simp [within, t1]
     rw [this]
     simp [t0, t1]
   ·have t1 : b.2.2.1 < 128 := by omega
    cases within 128 b.2.2.2.2.2.1 <;> simp [t0, t1]

theorem sin_l0 {b : Sg} (h : SFit nf b) (hn : 10 ≤ nf) (ht0 : -1 ≤ b.2.2.1) (m : Int) : ∀ (fu : Nat) (t : Int), 0 ≤ t → t ≤ b.1.length → b.1.length < t + fu →
  single_inside_l0 nf b m fu b t = some (if jnsGo m (b.1.drop t.toNat) = 0 then (if stpsGo b.2.1 = 0 then endCode b else stpsGo b.2.1) else jnsGo m (b.1.drop t.toNat), ()) := by
 intro fu
 induction fu with
 | zero => intro t h1 h2 h3; omega
 | succ fu ih =>
  intro t h1 h2 h3
  rw [single_inside_l0, single_inside_b0]
  by_cases ht : t < b.1.length
  ·have hj := getD_mem (d := ((0 : Int), ([] : List Int), ())) h1 ht
   have f0 := h.f0 _ hj
   have f1 := h.f1 _ hj
   simp only [ht, decide_true, cond_true, inb_ok h1 ht, wrap_step h1 ht h.j0, ih (t + 1) (by omega) (by omega) (by omega), drop_step b.1 t (0, [], ()) h1 ht, jnsGo, jnCode]
   generalize b.1.getD t.toNat (0, [], ()) = j at f0 f1
   obtain ⟨to, fs, u⟩ := j
   simp only [sbad_F (nf := nf) [to] (show (1 : Nat) ≤ maxLen by decide) (show 1 < nf by omega), sbad_F (nf := nf) fs f0 f1, Option.bind_some]
   by_cases hm : (fs.length : Int) = m
   ·cases within 128 [to] <;> cases within 128 fs <;> simp [hm]
   ·simp [bne_t hm, hm]
  ·simp only [ht, decide_false, cond_false, List.drop_eq_nil_of_le (show b.1.length ≤ t.toNat by omega), jnsGo, if_true]
   have hs := h.s1
   have := sin_l2 h hn ht0 nf 0 (by omega) (by omega) (by omega)
   simpa using this
theorem sin_F {b : Sg} (h : SFit nf b) (hn : 10 ≤ nf) (ht0 : -1 ≤ b.2.2.1) (m : Int) : single_inside_f nf b m = some (inCode m b, ()) := by
 have hs := h.j1
 have := sin_l0 h hn ht0 m nf 0 (by omega) (by omega) (by omega)
 simp only [single_inside_f, single_inside_p, this, inCode]
 simp

theorem rsc_l8 {l : List Sg} {b : Sg} {fr : List (List Int)} {t0 : Int} {g4 : List (List Int) → Int → Option (Int × Unit)} (h : SFit nf b) (hn : 10 ≤ nf) : ∀ (fu : Nat) (t : Int), 0 ≤ t → t ≤ b.2.1.length → b.2.1.length < t + fu →
  ref_SingleCheck_l8 nf l t0 b g4 fu fr b t = if stpsGo (b.2.1.drop t.toNat) = 0 then (if endCode b = 0 then g4 fr (IntKind.i64.wrap (t0 + 1)) else some (endCode b, ())) else some (stpsGo (b.2.1.drop t.toNat), ()) := by
 intro fu
 induction fu with
 | zero => intro t h1 h2 h3; omega
 | succ fu ih =>
  intro t h1 h2 h3
  rw [ref_SingleCheck_l8, ref_SingleCheck_b8]
  have w1 : ∀ x : Int, ref_Inside_f nf 128 [x] = some (within 128 [x], ()) := fun x => sinside_F 128 [x] (show (1 : Nat) ≤ maxLen by decide) (show 1 < nf by omega)
  have w2 : ∀ x y : Int, ref_Inside_f nf 128 [x, y] = some (within 128 [x, y], ()) := fun x y => sinside_F 128 [x, y] (show (2 : Nat) ≤ maxLen by decide) (show 2 < nf by omega)
  by_cases ht : t < b.2.1.length
  ·simp only [ht, decide_true, cond_true, inb_ok h1 ht, wrap_step h1 ht h.s0, ih (t + 1) (by omega) (by omega) (by omega), drop_step b.2.1 t (0, 0, 0, 0, 0, ()) h1 ht, stpsGo, stpCode, w1, w2, Option.bind_some, ref_Value_f, ref_Value_p]
   generalize b.2.1.getD t.toNat (0, 0, 0, 0, 0, ()) = s
   obtain ⟨op, to, x, y, k, u⟩ := s
   simp only [usesOf]
   by_cases o1 : op < 1
   ·simp [o1]
   ·by_cases o2 : op > 6
    ·simp [o1, o2]
    ·by_cases o3 : op = 1
     ·subst o3
      by_cases k0 : 0 ≤ k
      ·by_cases k1 : k ≤ 255
       ·cases hw : within 128 [to] <;> simp [k0, k1, within]
       ·simp [k0, k1]
      ·simp [k0]
     ·by_cases o4 : op = 2
      ·subst o4
       cases hw : within 128 [to] <;> cases hw2 : within 128 [k] <;> simp [hw2]
      ·have o5 : op ≥ 3 := by omega
       cases hw : within 128 [to] <;> cases hw2 : within 128 [x, y] <;> simp [o1, o2, o3, o4, o5, hw2, beq_f o3, beq_f o4]
  ·simp only [ht, decide_false, cond_false, List.drop_eq_nil_of_le (show b.2.1.length ≤ t.toNat by omega), stpsGo, if_true, endCode, sinside_F (nf := nf) 128 _ h.o0 h.o1, Option.bind_some]
   by_cases t1 : b.2.2.1 < 128
   ·have t2 : ¬ b.2.2.1 ≥ 128 := by omega
    by_cases hw : within 128 b.2.2.2.2.2.1 = true
    ·simp [t1, t2, hw]
    ·simp [t1, t2, hw]
   ·have : b.2.2.1 ≥ 128 := by omega
    simp [t1, this]

theorem rsc_l6 {l : List Sg} {fr : List (List Int)} {t0 : Int} {g4 : List (List Int) → Int → Option (Int × Unit)} (h : SFit nf (l.getD t0.toNat S0)) (hn : 10 ≤ nf) (hfr : inb t0 fr.length = true) :
  ∀ (fu : Nat) (t : Int), 0 ≤ t → t ≤ (l.getD t0.toNat S0).1.length → (l.getD t0.toNat S0).1.length < t + fu →
  ref_SingleCheck_l6 nf l t0 g4 fu fr (l.getD t0.toNat S0) t = if jnsGo (fr.getD t0.toNat []).length ((l.getD t0.toNat S0).1.drop t.toNat) = 0 then
   (if stpsGo (l.getD t0.toNat S0).2.1 = 0 then (if endCode (l.getD t0.toNat S0) = 0 then g4 fr (IntKind.i64.wrap (t0 + 1)) else some (endCode (l.getD t0.toNat S0), ())) else some (stpsGo (l.getD t0.toNat S0).2.1, ()))
   else some (jnsGo (fr.getD t0.toNat []).length ((l.getD t0.toNat S0).1.drop t.toNat), ()) := by
 intro fu
 induction fu with
 | zero => intro t h1 h2 h3; omega
 | succ fu ih =>
  intro t h1 h2 h3
  rw [ref_SingleCheck_l6, ref_SingleCheck_b6]
  have w1 : ∀ x : Int, ref_Inside_f nf 128 [x] = some (within 128 [x], ()) := fun x => sinside_F 128 [x] (show (1 : Nat) ≤ maxLen by decide) (show 1 < nf by omega)
  by_cases ht : t < (l.getD t0.toNat S0).1.length
  ·have hj := getD_mem (d := ((0 : Int), ([] : List Int), ())) h1 ht
   have f0 := h.f0 _ hj
   have f1 := h.f1 _ hj
   simp only [ht, decide_true, cond_true, inb_ok h1 ht, wrap_step h1 ht h.j0, ih (t + 1) (by omega) (by omega) (by omega), drop_step _ t (0, [], ()) h1 ht, jnsGo, jnCode, hfr, w1]
   generalize (l.getD t0.toNat S0).1.getD t.toNat (0, [], ()) = j at f0 f1
   obtain ⟨to, fs, u⟩ := j
   simp only [sinside_F (nf := nf) 128 fs f0 f1, Option.bind_some]
   by_cases hm : (fs.length : Int) = ((fr.getD t0.toNat []).length : Int)
   ·rw [hm]
    cases within 128 [to] <;> cases within 128 fs <;> simp
   ·rw [bne_t hm, if_pos hm]
    simp
  ·have hs := h.s1
   have := rsc_l8 (l := l) (fr := fr) (t0 := t0) (g4 := g4) h hn nf 0 (by omega) (by omega) (by omega)
   simp only [ht, decide_false, cond_false, List.drop_eq_nil_of_le (show (l.getD t0.toNat S0).1.length ≤ t.toNat by omega), jnsGo, if_true]
   simpa using this

/-- the blocks from t on -/
def sgGo (l : List Sg) (fr : List (List Int)) : Nat → Int → Int
 | 0, _ => 0
 | k + 1, t => if inCode (fr.getD t.toNat []).length (l.getD t.toNat S0) = 0 then sgGo l fr k (t + 1) else inCode (fr.getD t.toNat []).length (l.getD t.toNat S0)

theorem rsc_l4 {l : List Sg} {fr : List (List Int)} (hf : ∀ b ∈ l, SFit nf b) (hl : l.length ≤ 8) (hn : 10 ≤ nf) (hfr : fr.length = l.length) : ∀ (fu : Nat) (t : Int), 0 ≤ t → t ≤ l.length → l.length < t + fu →
  ref_SingleCheck_l4 nf l fu fr t = some (sgGo l fr (l.length - t.toNat) t, ()) := by
 intro fu
 induction fu with
 | zero => intro t h1 h2 h3; omega
 | succ fu ih =>
  intro t h1 h2 h3
  rw [ref_SingleCheck_l4, ref_SingleCheck_b4]
  by_cases ht : t < l.length
  ·have h := hf _ (getD_mem (d := S0) h1 ht)
   have hs := h.j1
   have := rsc_l6 (l := l) (fr := fr) (t0 := t) (g4 := fun from' t117 => ref_SingleCheck_l4 nf l fu from' t117) h hn (inb_ok h1 (by omega)) nf 0 (by omega) (by omega) (by omega)
   simp only [ht, decide_true, cond_true, inb_ok h1 ht]
   refine Eq.trans this ?_
   rw [wrap_step h1 ht (Nat.le_trans hl (by decide)), ih (t + 1) (by omega) (by omega) (by omega), show l.length - t.toNat = (l.length - (t + 1).toNat) + 1 by omega]
   simp only [sgGo, inCode, Int.toNat_zero, List.drop_zero]
   by_cases c1 : jnsGo ((fr.getD t.toNat []).length : Int) (l.getD t.toNat S0).1 = 0
   ·by_cases c2 : stpsGo (l.getD t.toNat S0).2.1 = 0
    ·by_cases c3 : endCode (l.getD t.toNat S0) = 0
     ·simp only [c1, c2, c3, if_true]
     ·simp only [c1, c2, c3, if_true, if_false]
    ·simp only [c1, c2, if_true, if_false]
   ·simp only [c1, if_false]
  ·simp only [ht, decide_false, cond_false, show l.length - t.toNat = 0 by omega, sgGo]

theorem sc_l2 {l : List Sg} {fr : List (List Int)} (hf : ∀ b ∈ l, SFit nf b) (ht0 : ∀ b ∈ l, -1 ≤ b.2.2.1) (hl : l.length ≤ 8) (hn : 10 ≤ nf) (hfr : fr.length = l.length) : ∀ (fu : Nat) (t : Int), 0 ≤ t → t ≤ l.length → l.length < t + fu →
  single_Check_l2 nf l l fu l fr t = some (sgGo l fr (l.length - t.toNat) t, ()) := by
 intro fu
 induction fu with
 | zero => intro t h1 h2 h3; omega
 | succ fu ih =>
  intro t h1 h2 h3
  rw [single_Check_l2, single_Check_b2]
  by_cases ht : t < l.length
  ·have hm := getD_mem (d := S0) h1 ht
   have h := hf _ hm
   simp only [ht, decide_true, cond_true, inb_ok h1 ht, inb_ok (t := t) (n := fr.length) h1 (by omega), sin_F h hn (ht0 _ hm), Option.bind_some, wrap_step h1 ht (Nat.le_trans hl (by decide)), ih (t + 1) (by omega) (by omega) (by omega)]
   rw [show l.length - t.toNat = (l.length - (t + 1).toNat) + 1 by omega]
   simp only [sgGo]
   by_cases c1 : inCode ((fr.getD t.toNat []).length : Int) (l.getD t.toNat S0) = 0
   ·rw [if_pos c1, c1]; rfl
   ·rw [if_neg c1, bne_t c1]; rfl
  ·simp only [ht, decide_false, cond_false, show l.length - t.toNat = 0 by omega, sgGo]

/-- the block with nothing in it -/
def bareOf (b : Sg) : Blk := ([], b.2.2.1, b.2.2.2.1, b.2.2.2.2.1, ())
theorem bare_F {l : List Sg} (hl : l.length ≤ 8) (hn : 10 ≤ nf) : single_bare_f nf l = some (l.map bareOf, ()) ∧ ref_Bare_f nf l = some (l.map bareOf, ()) := by
 have hm : l.length ≤ maxLen := Nat.le_trans hl (by decide)
 constructor
 ·simp only [single_bare_f, single_bare_p]
  have key := loop_inv (n := l.length) (F := fun fu t (q : List Blk) => single_bare_l0 nf l fu q t)
   (fun t q => q = (l.take t.toNat).map bareOf) ?_ nf 0 [] (Int.le_refl _) (by omega) (by omega) (by simp)
  ·obtain ⟨fu', q, h1, h5⟩ := key
   rw [Int.toNat_natCast, List.take_length] at h1
   subst h1
   rw [h5, single_bare_l0, single_bare_b0]
   simp only [Int.lt_irrefl, decide_false, cond_false]
  ·rintro fu t q ht0 ht1 rfl
   refine ⟨_, ?_, rfl⟩
   have hbl := ble_ok (n := ((l.take t.toNat).map bareOf).length + 1) (by rw [List.length_map]; have := List.length_take_le t.toNat l; omega)
   have e1 : (l.take (t + 1).toNat).map bareOf = (l.take t.toNat).map bareOf ++ [bareOf (l.getD t.toNat S0)] := by
    rw [show (t + 1).toNat = t.toNat + 1 by omega, List.take_succ_eq_append_getElem (by omega), List.map_append, getD_nat _ _ _ ht0 ht1]; rfl
   rw [e1]
   generalize (l.take t.toNat).map bareOf = q at hbl ⊢
   show single_bare_l0 nf l (fu + 1) q t = _
   rw [single_bare_l0, single_bare_b0]
   simp only [ht1, decide_true, cond_true, inb_ok ht0 ht1, wrap_step ht0 ht1 hm, List.length_cons, List.length_nil, Nat.zero_add, hbl]
   rfl
 ·simp only [ref_Bare_f, ref_Bare_p]
  have key := loop_inv (n := l.length) (F := fun fu t (q : List Blk) => ref_Bare_l0 nf l fu q t)
   (fun t q => q = (l.take t.toNat).map bareOf) ?_ nf 0 [] (Int.le_refl _) (by omega) (by omega) (by simp)
  ·obtain ⟨fu', q, h1, h5⟩ := key
   rw [Int.toNat_natCast, List.take_length] at h1
   subst h1
   rw [h5, ref_Bare_l0, ref_Bare_b0]
   simp only [Int.lt_irrefl, decide_false, cond_false]
  ·rintro fu t q ht0 ht1 rfl
   refine ⟨_, ?_, rfl⟩
   have hbl := ble_ok (n := ((l.take t.toNat).map bareOf).length + 1) (by rw [List.length_map]; have := List.length_take_le t.toNat l; omega)
   have e1 : (l.take (t + 1).toNat).map bareOf = (l.take t.toNat).map bareOf ++ [bareOf (l.getD t.toNat S0)] := by
    rw [show (t + 1).toNat = t.toNat + 1 by omega, List.take_succ_eq_append_getElem (by omega), List.map_append, getD_nat _ _ _ ht0 ht1]; rfl
   rw [e1]
   generalize (l.take t.toNat).map bareOf = q at hbl ⊢
   show ref_Bare_l0 nf l (fu + 1) q t = _
   rw [ref_Bare_l0, ref_Bare_b0]
   simp only [ht1, decide_true, cond_true, inb_ok ht0 ht1, wrap_step ht0 ht1 hm, List.length_cons, List.length_nil, Nat.zero_add, hbl]
   rfl

/-- do a block's ends lie in the program? -/
def okEnds (vars n : Int) (b : Sg) : Bool := decide (-1 ≤ b.2.2.1) && (decide ((b.2.2.2.2.2.1.length : Int) = vars) && ((decide (0 ≤ b.2.2.2.1) && decide (b.2.2.2.1 < n)) || (decide (b.2.2.1 = -1) && decide (b.2.2.2.1 = -1))) && (decide (b.2.2.1 = -1) || (decide (0 ≤ b.2.2.2.2.1) && decide (b.2.2.2.2.1 < n))))

/-- from where one comes, of the whole program -/
def sFroms (l : List Sg) : List (List Int) := fromsOf ((l.map bareOf).map nextOf)
theorem nx_ok {vars : Int} {l : List Sg} (hl : l.length ≤ 8) (h : l.all (okEnds vars l.length) = true) : NxOK ((l.map bareOf).map nextOf) := by
 refine ⟨by simpa using hl, fun x hx => ?_⟩
 obtain ⟨b, hb, rfl⟩ := List.mem_map.1 hx
 obtain ⟨c, hc, rfl⟩ := List.mem_map.1 hb
 have h1 := List.all_eq_true.1 h c hc
 simp only [okEnds, Bool.and_eq_true, Bool.or_eq_true, decide_eq_true_eq] at h1
 obtain ⟨js, ss, ts, ya, no, os, u⟩ := c
 simp only at h1
 simp only [List.length_map]
 by_cases c1 : ya ≥ 0
 ·by_cases c2 : ts ≥ 0 ∧ no ≠ ya
  ·have e : nextOf (bareOf (js, ss, ts, ya, no, os, u)) = [ya, no] := by simp [nextOf, bareOf, c1, c2]
   rw [e]
   have c3 : ya ≠ no := fun h => c2.2 h.symm
   refine ⟨by simp [c3], by simp, fun y hy => ?_⟩
   have : y = ya ∨ y = no := by simpa using hy
   omega
  ·have e : nextOf (bareOf (js, ss, ts, ya, no, os, u)) = [ya] := by unfold nextOf bareOf; simp only; rw [show (if ts ≥ 0 ∧ no ≠ ya then [no] else []) = [] from if_neg c2]; simp [c1]
   rw [e]
   refine ⟨by simp, by simp, fun y hy => ?_⟩
   have : y = ya := by simpa using hy
   omega
 ·by_cases c2 : ts ≥ 0 ∧ no ≠ ya
  ·omega
  ·have e : nextOf (bareOf (js, ss, ts, ya, no, os, u)) = [] := by unfold nextOf bareOf; simp only; rw [show (if ts ≥ 0 ∧ no ≠ ya then [no] else []) = [] from if_neg c2]; simp [c1]
   rw [e]
   exact ⟨by simp, by simp, fun y hy => by simp at hy⟩

theorem froms_F {vars : Int} {l : List Sg} (h1 : 1 ≤ l.length) (hl : l.length ≤ 8) (hn : 140 ≤ nf) (h : l.all (okEnds vars l.length) = true) :
  (∃ p nx, single_bare_f nf l = some (p, ()) ∧ block_Next_f nf p = some (nx, ()) ∧ single_From_f nf nx = some (sFroms l, ())) ∧
  (∃ p nx, ref_Bare_f nf l = some (p, ()) ∧ ref_Nexts_f nf p = some (nx, ()) ∧ ref_Froms_f nf nx = some (sFroms l, ())) := by
 obtain ⟨b1, b2⟩ := bare_F (nf := nf) hl (by omega)
 have hnx := nx_ok hl h
 obtain ⟨f1, f2⟩ := from_F (nf := nf) hnx (by simpa using h1) hn
 refine ⟨⟨_, _, b1, next_F (by simpa using hl) (by omega), f1⟩, ⟨_, _, b2, nexts_F (by simpa using hl) (by omega) fun b hb => ?_, f2⟩⟩
 obtain ⟨c, hc, rfl⟩ := List.mem_map.1 hb
 have h1 := List.all_eq_true.1 h c hc
 simp only [okEnds, Bool.and_eq_true, Bool.or_eq_true, decide_eq_true_eq] at h1
 simp only [bareOf]
 omega

/-- how many steps, how many joins -/
def sumW : List Sg → Int → Int → Int × Int
 | [], a, b => (a, b)
 | x :: r, a, b => sumW r (IntKind.i64.wrap (a + (x.2.1.length : Int))) (IntKind.i64.wrap (b + (x.1.length : Int)))
def largeB (vars : Int) (l : List Sg) : Bool := decide (vars < 1) || decide (vars > 6) || decide ((l.length : Int) < 1) || decide ((l.length : Int) > 8) || decide ((sumW l 0 0).1 > 20) || decide ((sumW l 0 0).2 > 64)
def sCode (vars : Int) (l : List Sg) : Int := if largeB vars l = true then 1 else if l.all (okEnds vars l.length) = true then sgGo l (sFroms l) l.length 0 else 3

theorem sums_l0 {vars : Int} {l : List Sg} (hl : l.length ≤ maxLen) : ∀ (fu : Nat) (t a b : Int), 0 ≤ t → t ≤ l.length → l.length < t + fu →
  single_large_l0 nf vars l fu a b t = some (decide (vars < 1) || decide (vars > 6) || decide ((l.length : Int) < 1) || decide ((l.length : Int) > 8) || decide ((sumW (l.drop t.toNat) a b).1 > 20) || decide ((sumW (l.drop t.toNat) a b).2 > 64), ()) ∧
  ref_SingleCheck_l0 nf vars l fu a b t = if (decide (vars < 1) || decide (vars > 6) || decide ((l.length : Int) < 1) || decide ((l.length : Int) > 8) || decide ((sumW (l.drop t.toNat) a b).1 > 20) || decide ((sumW (l.drop t.toNat) a b).2 > 64)) = true then some (1, ()) else ref_SingleCheck_l2 nf vars l nf 0 := by
 intro fu
 induction fu with
 | zero => intro t a b h1 h2 h3; omega
 | succ fu ih =>
  intro t a b h1 h2 h3
  rw [single_large_l0, single_large_b0, ref_SingleCheck_l0, ref_SingleCheck_b0]
  by_cases ht : t < l.length
  ·obtain ⟨i1, i2⟩ := ih (t + 1) (IntKind.i64.wrap (a + ((l.getD t.toNat S0).2.1.length : Int))) (IntKind.i64.wrap (b + ((l.getD t.toNat S0).1.length : Int))) (by omega) (by omega) (by omega)
   simp only [ht, decide_true, cond_true, inb_ok h1 ht, wrap_step h1 ht hl, drop_step l t S0 h1 ht, sumW]
   exact ⟨i1, i2⟩
  ·have hnil : l.drop t.toNat = [] := List.drop_eq_nil_of_le (by omega)
   simp only [ht, decide_false, cond_false, hnil, sumW]
   by_cases c1 : vars < 1
   ·simp [c1]
   ·by_cases c2 : vars > 6
    ·simp [c1, c2]
    ·by_cases c3 : (l.length : Int) < 1
     ·simp only [c1, c2, c3, decide_true, decide_false, cond_true, cond_false, Bool.or_true, Bool.true_or, if_true, and_self]
     ·by_cases c4 : (l.length : Int) > 8
      ·simp only [c1, c2, c3, c4, decide_true, decide_false, cond_true, cond_false, Bool.or_true, Bool.true_or, if_true, and_self]
      ·by_cases c5 : a > 20
       ·simp only [c1, c2, c3, c4, c5, decide_true, decide_false, cond_true, cond_false, Bool.or_true, Bool.true_or, if_true, and_self]
       ·by_cases c6 : b > 64
        ·simp only [c1, c2, c3, c4, c5, c6, decide_true, decide_false, cond_true, cond_false, Bool.or_true, if_true, and_self]
        ·simp only [c1, c2, c3, c4, c5, c6, decide_false, cond_false, Bool.or_false, Bool.false_eq_true, if_false, and_self]

theorem check1_F (i : Int) (l : List Sg) : single_Check_1_f nf i l = some (decide (0 ≤ i) && decide (i < l.length), ()) := by
 simp only [single_Check_1_f, single_Check_1_p]
 by_cases h : 0 ≤ i <;> simp [h]

theorem sc_l0 {vars : Int} {l : List Sg} (hl : l.length ≤ 8) (h1' : 1 ≤ l.length) (hn : 140 ≤ nf) (hf : ∀ b ∈ l, SFit nf b) : ∀ (fu : Nat) (t : Int), 0 ≤ t → t ≤ l.length → l.length < t + fu → (∀ b ∈ l.take t.toNat, okEnds vars l.length b = true) →
  single_Check_l0 nf vars l fu l t = some (if l.all (okEnds vars l.length) = true then sgGo l (sFroms l) l.length 0 else 3, ()) ∧
  ref_SingleCheck_l2 nf vars l fu t = some (if l.all (okEnds vars l.length) = true then sgGo l (sFroms l) l.length 0 else 3, ()) := by
 have hm : l.length ≤ maxLen := Nat.le_trans hl (by decide)
 intro fu
 induction fu with
 | zero => intro t h1 h2 h3; omega
 | succ fu ih =>
  intro t h1 h2 h3 hI
  rw [single_Check_l0, single_Check_b0, ref_SingleCheck_l2, ref_SingleCheck_b2]
  have w1 : ∀ n x : Int, ref_Inside_f nf n [x] = some (within n [x], ()) := fun n x => sinside_F n [x] (show (1 : Nat) ≤ maxLen by decide) (show 1 < nf by omega)
  have w2 : ∀ n x y : Int, ref_Inside_f nf n [x, y] = some (within n [x, y], ()) := fun n x y => sinside_F n [x, y] (show (2 : Nat) ≤ maxLen by decide) (show 2 < nf by omega)
  by_cases ht : t < l.length
  ·simp only [ht, decide_true, cond_true, inb_ok h1 ht, check1_F, w1, w2, Option.bind_some, wrap_step h1 ht hm]
   have hmem := getD_mem (d := S0) h1 ht
   have bad : okEnds vars l.length (l.getD t.toNat S0) = false → l.all (okEnds vars l.length) = false := fun hb => by
    cases ha : l.all (okEnds vars l.length) with
    | false => rfl
    | true => rw [List.all_eq_true.1 ha _ hmem] at hb; cases hb
   have good : okEnds vars l.length (l.getD t.toNat S0) = true → _ := fun hb => ih (t + 1) (by omega) (by omega) (by omega) (fun b hb' => by
    rw [show (t + 1).toNat = t.toNat + 1 by omega, List.take_succ_eq_append_getElem (by omega), ← getD_nat _ t S0 h1 ht] at hb'
    rcases List.mem_append.1 hb' with h4 | h4
    ·exact hI b h4
    ·rw [List.mem_singleton.1 h4]; exact hb)
   generalize hsg : l.getD t.toNat S0 = b at bad good
   obtain ⟨js, ss, ts, ya, no, os, u⟩ := b
   simp only [okEnds] at bad good
   simp only [within, List.all_cons, List.all_nil, Bool.and_true]
   by_cases c1 : ts < -1
   ·have := bad (by simp [show ¬ -1 ≤ ts by omega])
    simp only [c1, decide_true, cond_true, this, Bool.false_eq_true, if_false, and_self]
   ·by_cases c2 : (os.length : Int) = vars
    ·have e2 : ((os.length : Int) != vars) = false := by simp [c2]
     by_cases c3 : ts = -1
     ·have c3' : ¬ ts ≥ 0 := by omega
      by_cases c4 : 0 ≤ ya ∧ ya < l.length
      ·by_cases c5 : ya = -1
       ·omega
       ·obtain ⟨i1, i2⟩ := good (by simp [c2, c3, c4])
        simp only [e2, c3, c4, decide_true, decide_false, cond_true, cond_false, Bool.and_true, Bool.not_true, beq_self_eq_true, Int.reduceGE, bne_t c5, i1, i2, and_self, Int.reduceLT]
      ·by_cases c5 : ya = -1
       ·obtain ⟨i1, i2⟩ := good (by simp [c2, c3, c5])
        have e6 : (decide (0 ≤ ya) && decide (ya < (l.length : Int))) = false := by simp [c5]
        simp only [e2, c3, c5, decide_false, cond_true, cond_false, Bool.false_and, Bool.not_false, beq_self_eq_true, bne_self_eq_false, Int.reduceGE, i1, i2, and_self, Int.reduceLT, Int.reduceNeg, Int.reduceLE]
       ·have e6 : (decide (0 ≤ ya) && decide (ya < (l.length : Int))) = false := by
         rw [Bool.and_eq_false_iff]
         by_cases h0 : 0 ≤ ya
         ·right; simp; omega
         ·left; simp; omega
        have := bad (by simp [c5, e6])
        simp only [e2, e6, c3, decide_false, cond_true, cond_false, Bool.not_false, beq_self_eq_true, bne_t c5, this, Bool.false_eq_true, if_false, and_self, Int.reduceLT, Int.reduceNeg]
     ·have c3' : ts ≥ 0 := by omega
      have c3'' : ¬ ts = -1 := c3
      by_cases c4 : 0 ≤ ya ∧ ya < l.length
      ·by_cases c6 : 0 ≤ no ∧ no < l.length
       ·obtain ⟨i1, i2⟩ := good (by simp [c2, c4, c6]; omega)
        simp only [c1, e2, c3', c4, c6, decide_true, decide_false, cond_true, cond_false, Bool.and_true, Bool.not_true, beq_f c3'', i1, i2, and_self]
       ·have e7 : (decide (0 ≤ no) && decide (no < (l.length : Int))) = false := by
         rw [Bool.and_eq_false_iff]
         by_cases h0 : 0 ≤ no
         ·right; simp; omega
         ·left; simp; omega
        have := bad (by simp [c3'', e7])
        simp only [c1, e2, c3', c4, e7, decide_true, decide_false, cond_true, cond_false, Bool.and_true, Bool.and_false, Bool.not_true, Bool.not_false, beq_f c3'', this, Bool.false_eq_true, if_false, and_self]
      ·have e6 : (decide (0 ≤ ya) && decide (ya < (l.length : Int))) = false := by
        rw [Bool.and_eq_false_iff]
        by_cases h0 : 0 ≤ ya
        ·right; simp; omega
        ·left; simp; omega
       have := bad (by simp [c3'', e6])
       by_cases c5 : ya = -1
       ·simp only [c1, e2, c3', decide_true, decide_false, cond_true, cond_false, Bool.false_and, Bool.not_false, beq_f c3'', c5, bne_self_eq_false, this, Bool.false_eq_true, if_false, and_self, Int.reduceNeg, Int.reduceLE]
       ·simp only [c1, e2, c3', e6, decide_true, decide_false, cond_true, cond_false, Bool.false_and, Bool.not_false, beq_f c3'', bne_t c5, this, Bool.false_eq_true, if_false, and_self]
    ·have e2 := bne_t c2
     have := bad (by simp [c2])
     have c1' : ¬ ts < -1 := c1
     simp only [c1, e2, decide_false, cond_true, cond_false, this, Bool.false_eq_true, if_false, and_true]
     cases (decide (0 ≤ ya) && decide (ya < (l.length : Int))) <;> cases (decide (0 ≤ no) && decide (no < (l.length : Int))) <;> cases decide (ts ≥ 0) <;> cases (ya != -1) <;> rfl
  ·have hall : l.all (okEnds vars l.length) = true := by
    rw [List.take_of_length_le (by omega)] at hI
    exact List.all_eq_true.2 hI
   obtain ⟨⟨p, nx, a1, a2, a3⟩, ⟨p', nx', b1, b2, b3⟩⟩ := froms_F (nf := nf) h1' hl hn hall
   have hfl : (sFroms l).length = l.length := by simp [sFroms, fromsOf_len]
   have htest : ∀ b ∈ l, -1 ≤ b.2.2.1 := fun b hb => by
    have := List.all_eq_true.1 hall b hb
    simp only [okEnds, Bool.and_eq_true, decide_eq_true_eq] at this
    exact this.1
   have r1 := sc_l2 (nf := nf) (fr := sFroms l) hf htest hl (by omega) hfl nf 0 (by omega) (by omega) (by omega)
   have r2 := rsc_l4 (nf := nf) (fr := sFroms l) hf hl (by omega) hfl nf 0 (by omega) (by omega) (by omega)
   simp only [ht, decide_false, cond_false, a1, a2, a3, b1, b2, b3, Option.bind_some, hall, if_true]
   exact ⟨by simpa using r1, by simpa using r2⟩

theorem scheck_F {vars : Int} {l : List Sg} (hl : l.length ≤ maxLen) (hn : l.length + 140 ≤ nf) (hf : ∀ b ∈ l, SFit nf b) : single_Check_f nf vars l = some (sCode vars l, ()) ∧ ref_SingleCheck_f nf vars l = some (sCode vars l, ()) := by
 obtain ⟨s1, s2⟩ := sums_l0 (nf := nf) (vars := vars) hl nf 0 0 0 (by omega) (by omega) (by omega)
 simp only [single_Check_f, single_Check_p, single_large_f, single_large_p, ref_SingleCheck_f, ref_SingleCheck_p]
 have s1' : single_large_l0 nf vars l nf 0 0 0 = some (largeB vars l, ()) := s1
 have s2' : ref_SingleCheck_l0 nf vars l nf 0 0 0 = if largeB vars l = true then some (1, ()) else ref_SingleCheck_l2 nf vars l nf 0 := s2
 rw [s1', s2']
 simp only [Option.bind_some, sCode]
 by_cases hb : largeB vars l = true
 ·rw [if_pos hb, if_pos hb, hb]; exact ⟨rfl, rfl⟩
 ·have hb' := hb
  simp only [largeB, Bool.or_eq_true, decide_eq_true_eq, not_or] at hb'
  rw [if_neg hb, if_neg hb, Bool.eq_false_iff.2 hb, cond_false]
  exact sc_l0 (by omega) (by omega) (by omega) hf nf 0 (by omega) (by omega) (by omega) (by simp)

/-- a bound for all lists -/
def sfuel : List Sg → Nat
 | [] => 500
 | b :: r => sfuel r + (b.1.length + b.2.1.length + b.2.2.2.2.2.1.length + (b.1.map fun j => j.2.1.length).sum + 1)
theorem sum_mem {l : List Nat} {x : Nat} (h : x ∈ l) : x ≤ l.sum := by
 induction l with
 | nil => cases h
 | cons y r ih =>
  rw [List.sum_cons]
  rcases List.mem_cons.1 h with rfl | h
  ·omega
  ·have := ih h; omega
theorem sfuel_ok : ∀ (l : List Sg), l.length + 500 ≤ sfuel l ∧ ∀ b ∈ l, b.1.length < sfuel l ∧ b.2.1.length < sfuel l ∧ b.2.2.2.2.2.1.length < sfuel l ∧ ∀ j ∈ b.1, j.2.1.length < sfuel l
 | [] => ⟨by simp [sfuel], fun b hb => by cases hb⟩
 | c :: r => by
  obtain ⟨h1, h2⟩ := sfuel_ok r
  refine ⟨by simp only [sfuel, List.length_cons]; omega, fun b hb => ?_⟩
  simp only [sfuel]
  rcases List.mem_cons.1 hb with rfl | hb
  ·refine ⟨by omega, by omega, by omega, fun j hj => ?_⟩
   have := sum_mem (List.mem_map_of_mem (f := fun j : Jn => j.2.1.length) hj)
   omega
  ·obtain ⟨g1, g2, g3, g4⟩ := h2 b hb
   exact ⟨by omega, by omega, by omega, fun j hj => by have := g4 j hj; omega⟩
end Go.Proofs.Ytoglkjmdloppcaa
