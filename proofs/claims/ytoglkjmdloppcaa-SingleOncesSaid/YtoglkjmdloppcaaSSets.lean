/- Where each name is set: the program's map, and the document's lists. -/
import Derived.Test.YtoglkjmdloppcaaSBok
import Derived.Test.YtoglkjmdloppcaaSRules
import Derived.Test.YtoglkjmdloppcaaMaps
namespace Go.Proofs.Ytoglkjmdloppcaa
open Go Go.Ab S

variable {nf : Nat} {vars : Int} {l : List Sg}

abbrev Put := Int × Int × Int
abbrev AtM := List (Int × Int × Int × Unit)
abbrev gA (m : AtM) (n : Int) : Option (Int × Int × Unit) := getM (.int .i64) (.pair (.int .i64) (.pair (.int .i64) .unit)) m n
abbrev iA (m : AtM) (n : Int) (v : Int × Int × Unit) : AtM := insM (.int .i64) (.pair (.int .i64) (.pair (.int .i64) .unit)) m n v
theorem gA_ins (m : AtM) (y : Int) (v : Int × Int × Unit) (z : Int) : gA (iA m y v) z = if y = z then some v else gA m z := by
 by_cases h : y = z
 ·subst h; rw [if_pos rfl]; exact getM_ins_same (k := .int .i64) (e := .pair (.int .i64) (.pair (.int .i64) .unit)) rfl m y v
 ·rw [if_neg h]; exact getM_ins_ne (k := .int .i64) (e := .pair (.int .i64) (.pair (.int .i64) .unit)) rfl m v h
def putS (q : AtM × Bool) (p : Put) : AtM × Bool := (iA q.1 p.1 (p.2.1, p.2.2, ()), q.2 && !(gA q.1 p.1).isSome)
theorem put1_F (n i k : Int) (q : AtM × Bool) : single_sets_1_f nf n i k q.1 q.2 = some (some (putS q (n, i, k)).1, some (putS q (n, i, k)).2, ()) := by
 simp only [single_sets_1_f, single_sets_1_p, putS]
 cases q.2 <;> rfl

/-! all puts, in order -/
def jnPuts (i : Int) (js : List Jn) : List Put := js.map fun j => (j.1, i, -1)
def stPuts (i : Int) : List Step6 → Int → List Put
 | [], _ => []
 | s :: r, k => (s.2.1, i, k) :: stPuts i r (k + 1)
def blkPuts (i : Int) (b : Sg) : List Put := jnPuts i b.1 ++ stPuts i b.2.1 0
def allPuts : List Sg → Int → List Put
 | [], _ => []
 | b :: r, i => blkPuts i b ++ allPuts r (i + 1)

/-- what is so of the map -/
structure AtOK (vars : Int) (P : List Put) (q : AtM × Bool) : Prop where
 ok : q.2 = true ↔ (P.map Prod.fst).Nodup ∧ ∀ p ∈ P, ¬ (0 ≤ p.1 ∧ p.1 < vars)
 at' : q.2 = true → ∀ n a b, gA q.1 n = some (a, b, ()) ↔ (n, a, b) ∈ P ∨ ((0 ≤ n ∧ n < vars) ∧ a = -1 ∧ b = 0)
theorem AtOK.put {P : List Put} {q : AtM × Bool} (h : AtOK vars P q) (p : Put) : AtOK vars (P ++ [p]) (putS q p) := by
 have hnone : q.2 = true → (gA q.1 p.1 = none ↔ p.1 ∉ P.map Prod.fst ∧ ¬ (0 ≤ p.1 ∧ p.1 < vars)) := fun hq => by
  have ha := h.at' hq p.1
  constructor
  ·intro hn
   refine ⟨fun hm => ?_, fun hv => ?_⟩
   ·obtain ⟨e, he, h2⟩ := List.mem_map.1 hm
    have := (ha e.2.1 e.2.2).2 (.inl (by rw [← h2]; exact he))
    rw [hn] at this; cases this
   ·have := (ha (-1) 0).2 (.inr ⟨hv, rfl, rfl⟩)
    rw [hn] at this; cases this
  ·rintro ⟨h1, h2⟩
   cases hg : gA q.1 p.1 with
   | none => rfl
   | some v =>
    obtain ⟨a, b, u⟩ := v
    rcases (ha a b).1 hg with h3 | h3
    ·exact absurd (List.mem_map_of_mem (f := Prod.fst) h3) h1
    ·exact absurd h3.1 h2
 have hok : (putS q p).2 = true ↔ q.2 = true ∧ gA q.1 p.1 = none := by
  simp only [putS, Bool.and_eq_true, Bool.not_eq_true']
  cases gA q.1 p.1 <;> simp
 constructor
 ·rw [hok]
  constructor
  ·rintro ⟨h1, h2⟩
   obtain ⟨a, b⟩ := h.ok.1 h1
   obtain ⟨c, d⟩ := (hnone h1).1 h2
   refine ⟨?_, fun x hx => ?_⟩
   ·rw [List.map_append]
    refine List.nodup_append.2 ⟨a, by simp, fun x hx y hy e => ?_⟩
    rw [List.map_cons, List.map_nil, List.mem_singleton] at hy
    subst hy e
    exact c hx
   ·rcases List.mem_append.1 hx with hx | hx
    ·exact b x hx
    ·rw [List.mem_singleton] at hx; rw [hx]; exact d
  ·rintro ⟨h1, h2⟩
   rw [List.map_append] at h1
   obtain ⟨a, _, c⟩ := List.nodup_append.1 h1
   have hq : q.2 = true := h.ok.2 ⟨a, fun x hx => h2 x (by simp [hx])⟩
   exact ⟨hq, (hnone hq).2 ⟨fun hm => c _ hm p.1 (by simp) rfl, h2 p (by simp)⟩⟩
 ·intro hq n a b
  obtain ⟨h1, h2⟩ := hok.1 hq
  obtain ⟨h3, h4⟩ := (hnone h1).1 h2
  have ha := h.at' h1 n a b
  show gA (iA q.1 p.1 (p.2.1, p.2.2, ())) n = some (a, b, ()) ↔ _
  rw [gA_ins, List.mem_append, List.mem_singleton]
  by_cases hn : p.1 = n
  ·rw [if_pos hn]
   constructor
   ·intro he
    cases he
    exact .inl (.inr (by rw [← hn]))
   ·rintro ((h5 | h5) | h5)
    ·exact absurd (List.mem_map_of_mem (f := Prod.fst) h5) (by rw [← hn]; exact h3)
    ·rw [← h5]
    ·exact absurd h5.1 (by rw [← hn]; exact h4)
  ·rw [if_neg hn, ha]
   constructor
   ·rintro (h5 | h5)
    ·exact .inl (.inl h5)
    ·exact .inr h5
   ·rintro ((h5 | h5) | h5)
    ·exact .inl h5
    ·exact absurd (congrArg Prod.fst h5).symm hn
    ·exact .inr h5
theorem AtOK.puts : ∀ (R P : List Put) (q : AtM × Bool), AtOK vars P q → AtOK vars (P ++ R) (R.foldl putS q)
 | [], P, q, h => by rw [List.append_nil]; exact h
 | p :: R, P, q, h => by
  have := AtOK.puts R (P ++ [p]) (putS q p) (h.put p)
  rw [List.append_assoc] at this
  exact this

/-! the program's walk -/
theorem sets_l6 {b b2 : Sg} {i : Int} (hm : b.2.1.length ≤ 1000) {g2 : AtM → Bool → Int → Option (AtM × Bool × Unit)} (hi : 0 ≤ i) (hi2 : i ≤ 1000) : ∀ (rest : List Step6) (don : List Step6) (q : AtM × Bool) (fu : Nat), b.2.1 = don ++ rest → rest.length < fu →
  single_sets_l6 nf l i b g2 fu q.1 q.2 b2 (don.length : Int) = g2 ((stPuts i rest don.length).foldl putS q).1 ((stPuts i rest don.length).foldl putS q).2 (i + 1)
 | _, _, _, 0, _, h => by omega
 | [], don, q, fu + 1, hb, _ => by
  rw [List.append_nil] at hb
  rw [single_sets_l6, single_sets_b6, hb, wrap_step (n := 2000) hi (by omega) (by decide)]
  simp only [Int.lt_irrefl, decide_false, cond_false]
  rfl
 | s :: rest, don, q, fu + 1, hb, hf => by
  have ih := sets_l6 (b2 := b2) hm (g2 := g2) hi hi2 rest (don ++ [s]) (putS q (s.2.1, i, (don.length : Int))) fu (by rw [List.append_assoc]; exact hb) (by simp only [List.length_cons] at hf; omega)
  have hlen : b.2.1.length = don.length + (rest.length + 1) := by rw [hb, List.length_append, List.length_cons]
  have hlt : (don.length : Int) < (b.2.1.length : Int) := by omega
  have hg : b.2.1.getD ((don.length : Int)).toNat (0, 0, 0, 0, 0, ()) = s := by rw [hb]; simp [List.getD]
  rw [single_sets_l6, single_sets_b6, inb_ok (by omega) hlt, hg, wrap_step (n := 2000) (t := (don.length : Int)) (by omega) (by omega) (by decide)]
  simp only [hlt, decide_true, cond_true]
  rw [put1_F]
  simp only [Option.bind_some]
  rw [List.length_append, List.length_singleton] at ih
  exact ih
theorem sets_l4 {b b2 : Sg} {i : Int} (hn : 2000 ≤ nf) (hb : l.getD i.toNat S0 = b) (hm : b.2.1.length ≤ 1000) (hj : b.1.length ≤ 1000) {g2 : AtM → Bool → Int → Option (AtM × Bool × Unit)} (hi : 0 ≤ i) (hi2 : i ≤ 1000) : ∀ (rest : List Jn) (don : List Jn) (q : AtM × Bool) (fu : Nat), b.1 = don ++ rest → rest.length < fu → b2 = b →
  single_sets_l4 nf l i g2 fu q.1 q.2 b2 (don.length : Int) = g2 ((jnPuts i rest ++ stPuts i b.2.1 0).foldl putS q).1 ((jnPuts i rest ++ stPuts i b.2.1 0).foldl putS q).2 (i + 1)
 | _, _, _, 0, _, h, _ => by omega
 | [], don, q, fu + 1, hd, _, he => by
  rw [List.append_nil] at hd
  have hB : l.getD i.toNat ([], [], 0, 0, 0, [], ()) = b := hb
  rw [single_sets_l4, single_sets_b4, hB, hd]
  simp only [Int.lt_irrefl, decide_false, cond_false]
  subst he
  exact sets_l6 (nf := nf) (l := l) (b := b2) (b2 := b2) hm (g2 := g2) hi hi2 b2.2.1 [] q nf rfl (by omega)
 | j :: rest, don, q, fu + 1, hd, hf, he => by
  have ih := sets_l4 hn hb hm hj (g2 := g2) hi hi2 rest (don ++ [j]) (putS q (j.1, i, -1)) fu (by rw [List.append_assoc]; exact hd) (by simp only [List.length_cons] at hf; omega) he
  have hB : l.getD i.toNat ([], [], 0, 0, 0, [], ()) = b := hb
  have hlen : b.1.length = don.length + (rest.length + 1) := by rw [hd, List.length_append, List.length_cons]
  have hlt : (don.length : Int) < (b.1.length : Int) := by omega
  have hg : b.1.getD ((don.length : Int)).toNat (0, [], ()) = j := by rw [hd]; simp [List.getD]
  rw [single_sets_l4, single_sets_b4, hB, inb_ok (by omega) hlt, hg, wrap_step (n := 2000) (t := (don.length : Int)) (by omega) (by omega) (by decide)]
  simp only [hlt, decide_true, cond_true]
  rw [put1_F]
  simp only [Option.bind_some]
  rw [List.length_append, List.length_singleton] at ih
  exact ih
theorem sets_l2 (hn : 2000 ≤ nf) (h8 : l.length ≤ 8) (hm : ∀ b ∈ l, b.2.1.length ≤ 1000 ∧ b.1.length ≤ 1000) : ∀ (rest don : List Sg) (q : AtM × Bool) (fu : Nat), l = don ++ rest → rest.length < fu →
  single_sets_l2 nf l fu q.1 q.2 (don.length : Int) = some (((allPuts rest don.length).foldl putS q).1, ((allPuts rest don.length).foldl putS q).2, ())
 | _, _, _, 0, _, h => by omega
 | [], don, q, fu + 1, hd, _ => by
  rw [List.append_nil] at hd
  rw [single_sets_l2, single_sets_b2, hd]
  simp only [Int.lt_irrefl, decide_false, cond_false]
  rfl
 | b :: rest, don, q, fu + 1, hd, hf => by
  have ih := sets_l2 hn h8 hm rest (don ++ [b]) ((blkPuts don.length b).foldl putS q) fu (by rw [List.append_assoc]; exact hd) (by simp only [List.length_cons] at hf; omega)
  have hlen : l.length = don.length + (rest.length + 1) := by rw [hd, List.length_append, List.length_cons]
  have hlt : (don.length : Int) < (l.length : Int) := by omega
  have hg : l.getD ((don.length : Int)).toNat S0 = b := by rw [hd]; simp [List.getD]
  have hG : l.getD ((don.length : Int)).toNat ([], [], 0, 0, 0, [], ()) = b := hg
  obtain ⟨m1, m2⟩ := hm b (by rw [hd]; simp)
  rw [single_sets_l2, single_sets_b2, inb_ok (by omega) hlt, hG]
  simp only [hlt, decide_true, cond_true]
  have h4 := sets_l4 (l := l) (b2 := b) hn hg m1 m2 (g2 := fun at'2 ok t28 => single_sets_l2 nf l fu at'2 ok t28) (by omega : (0 : Int) ≤ (don.length : Int)) (by omega) b.1 [] q nf rfl (by omega) rfl
  rw [List.length_append, List.length_singleton] at ih
  rw [show single_sets_l4 nf l (don.length : Int) (fun at'2 ok t28 => single_sets_l2 nf l fu at'2 ok t28) nf q.1 q.2 b 0 = _ from h4]
  have hfold : (allPuts (b :: rest) (don.length : Int)).foldl putS q = (allPuts rest ((don.length : Int) + 1)).foldl putS ((blkPuts don.length b).foldl putS q) := by
   show (blkPuts don.length b ++ allPuts rest ((don.length : Int) + 1)).foldl putS q = _
   rw [List.foldl_append]
  rw [hfold]
  exact ih
theorem sets_F (hv : 0 ≤ vars ∧ vars ≤ 6) (hn : 2000 ≤ nf) (h8 : l.length ≤ 8) (hm : ∀ b ∈ l, b.2.1.length ≤ 1000 ∧ b.1.length ≤ 1000) : ∃ q, single_sets_f nf vars l = some (q.1, q.2, ()) ∧ AtOK vars (allPuts l 0) q := by
 obtain ⟨fu', m, hm', e⟩ := loop_inv (n := vars) (F := fun fu t (m : AtM) => single_sets_l0 nf l vars fu m t) (fun t m => ∀ n, gA m n = if 0 ≤ n ∧ n < t then some (-1, 0, ()) else none) (fun fu t m t0 t1 hI => by
  refine ⟨iA m t (-1, 0, ()), ?_, fun n => ?_⟩
  ·rw [single_sets_l0, single_sets_b0, wrap_step (n := 2000) t0 (by omega) (by decide)]
   simp only [t1, decide_true, cond_true]
  ·rw [gA_ins, hI]
   by_cases hnt : t = n
   ·rw [if_pos hnt, if_pos (by omega)]
   ·rw [if_neg hnt]
    by_cases hc : 0 ≤ n ∧ n < t
    ·rw [if_pos hc, if_pos (by omega)]
    ·rw [if_neg hc, if_neg (by omega)]) nf 0 [] (by omega) hv.1 (by omega) (fun n => by rw [if_neg (by omega)]; simp [gA, getM])
 have h0 : AtOK vars [] (m, true) := by
  refine ⟨by simp, fun _ n a b => ?_⟩
  show gA m n = _ ↔ _
  rw [hm']
  by_cases hc : 0 ≤ n ∧ n < vars
  ·rw [if_pos hc]
   constructor
   ·intro h; cases h; exact .inr ⟨hc, rfl, rfl⟩
   ·rintro (h | ⟨_, rfl, rfl⟩)
    ·cases h
    ·rfl
  ·rw [if_neg hc]
   constructor
   ·intro h; cases h
   ·rintro (h | h)
    ·cases h
    ·exact absurd h.1 hc
 refine ⟨(allPuts l 0).foldl putS (m, true), ?_, h0.puts _ _ _⟩
 have hl := sets_l2 (nf := nf) hn h8 hm l [] (m, true) nf rfl (by omega)
 simp only [single_sets_f, single_sets_p]
 have e' : single_sets_l0 nf l vars nf [] 0 = single_sets_l0 nf l vars (fu' + 1) m vars := e
 rw [e', single_sets_l0, single_sets_b0]
 simp only [Int.lt_irrefl, decide_false, cond_false]
 exact hl
end Go.Proofs.Ytoglkjmdloppcaa
