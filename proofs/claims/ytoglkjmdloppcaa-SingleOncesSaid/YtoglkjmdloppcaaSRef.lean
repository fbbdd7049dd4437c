/- The document's lists of where a name is set, and whether it is set ahead of a place. -/
import Derived.Test.YtoglkjmdloppcaaSOnce
namespace Go.Proofs.Ytoglkjmdloppcaa
open Go Go.Ab S

variable {nf : Nat} {vars : Int} {l : List Sg} {next : List (List Int)}

/-! sizes -/
theorem sum_ok : ∀ (l : List Sg) (a b : Int), 0 ≤ a → 0 ≤ b → a + l.length * 140737488355328 ≤ 4611686018427387904 → b + l.length * 140737488355328 ≤ 4611686018427387904 → (∀ x ∈ l, x.2.1.length ≤ 140737488355328 ∧ x.1.length ≤ 140737488355328) →
  a ≤ (sumW l a b).1 ∧ b ≤ (sumW l a b).2 ∧ ∀ x ∈ l, (x.2.1.length : Int) ≤ (sumW l a b).1 ∧ (x.1.length : Int) ≤ (sumW l a b).2
 | [], a, b, _, _, _, _, _ => ⟨Int.le_refl _, Int.le_refl _, fun x hx => by cases hx⟩
 | x :: r, a, b, ha, hb, h1, h2, hx => by
  obtain ⟨x1, x2⟩ := hx x (by simp)
  rw [List.length_cons, show ((r.length + 1 : Nat) : Int) = (r.length : Int) + 1 by omega, Int.add_mul, Int.one_mul] at h1 h2
  have hw1 : IntKind.i64.wrap (a + (x.2.1.length : Int)) = a + (x.2.1.length : Int) := Go.IntWalk.i64_in _ ⟨by omega, by omega⟩
  have hw2 : IntKind.i64.wrap (b + (x.1.length : Int)) = b + (x.1.length : Int) := Go.IntWalk.i64_in _ ⟨by omega, by omega⟩
  obtain ⟨y1, y2, y3⟩ := sum_ok r (a + (x.2.1.length : Int)) (b + (x.1.length : Int)) (by omega) (by omega) (by omega) (by omega) fun y hy => hx y (by simp [hy])
  simp only [sumW, hw1, hw2]
  refine ⟨by omega, by omega, fun y hy => ?_⟩
  rcases List.mem_cons.1 hy with rfl | hy
  ·omega
  ·exact y3 y hy

/-! who is put where -/
theorem stPuts_mem {i : Int} : ∀ {rest : List Step6} {k : Int} {n a c : Int}, (n, a, c) ∈ stPuts i rest k ↔ a = i ∧ ∃ m : Nat, m < rest.length ∧ c = k + m ∧ (rest.getD m D5).2.1 = n
 | [], k, n, a, c => by simp [stPuts]
 | s :: r, k, n, a, c => by
  simp only [stPuts, List.mem_cons, Prod.mk.injEq]
  rw [stPuts_mem (rest := r)]
  constructor
  ·rintro (⟨rfl, rfl, rfl⟩ | ⟨rfl, m, h1, h2, h3⟩)
   ·exact ⟨rfl, 0, by simp, by simp, rfl⟩
   ·exact ⟨rfl, m + 1, by rw [List.length_cons]; omega, by omega, by simpa using h3⟩
  ·rintro ⟨rfl, m, h1, h2, h3⟩
   cases m with
   | zero => exact .inl ⟨h3.symm, rfl, by omega⟩
   | succ m => exact .inr ⟨rfl, m, by rw [List.length_cons] at h1; omega, by omega, by simpa using h3⟩
theorem blkPuts_mem {i : Int} {b : Sg} {n a c : Int} : (n, a, c) ∈ blkPuts i b ↔ a = i ∧ ((c = -1 ∧ ∃ j ∈ b.1, j.1 = n) ∨ ∃ m : Nat, m < b.2.1.length ∧ c = m ∧ (b.2.1.getD m D5).2.1 = n) := by
 unfold blkPuts jnPuts
 rw [List.mem_append, stPuts_mem, List.mem_map]
 constructor
 ·rintro (⟨j, hj, he⟩ | ⟨h1, m, h2, h3, h4⟩)
  ·cases he; exact ⟨rfl, .inl ⟨rfl, j, hj, rfl⟩⟩
  ·exact ⟨h1, .inr ⟨m, h2, by omega, h4⟩⟩
 ·rintro ⟨rfl, ⟨rfl, j, hj, rfl⟩ | ⟨m, h2, h3, h4⟩⟩
  ·exact .inl ⟨j, hj, rfl⟩
  ·exact .inr ⟨rfl, m, h2, by omega, h4⟩
theorem allPuts_mem : ∀ {l : List Sg} {i0 : Int} {p : Put}, p ∈ allPuts l i0 ↔ ∃ m : Nat, m < l.length ∧ p ∈ blkPuts (i0 + m) (l.getD m S0)
 | [], i0, p => by simp [allPuts]
 | b :: r, i0, p => by
  simp only [allPuts, List.mem_append]
  rw [allPuts_mem (l := r)]
  constructor
  ·rintro (h | ⟨m, h1, h2⟩)
   ·exact ⟨0, by simp, by simpa using h⟩
   ·exact ⟨m + 1, by rw [List.length_cons]; omega, by rw [show i0 + ((m + 1 : Nat) : Int) = i0 + 1 + m by omega]; simpa using h2⟩
  ·rintro ⟨m, h1, h2⟩
   cases m with
   | zero => exact .inl (by simpa using h2)
   | succ m => exact .inr ⟨m, by rw [List.length_cons] at h1; omega, by rw [show i0 + 1 + (m : Int) = i0 + ((m + 1 : Nat) : Int) by omega]; simpa using h2⟩
theorem all_mem {n a c : Int} : (n, a, c) ∈ allPuts l 0 ↔ (0 ≤ a ∧ a < (l.length : Int)) ∧ ((c = -1 ∧ ∃ j ∈ (l.getD a.toNat S0).1, j.1 = n) ∨ ∃ m : Nat, m < (l.getD a.toNat S0).2.1.length ∧ c = m ∧ ((l.getD a.toNat S0).2.1.getD m D5).2.1 = n) := by
 rw [allPuts_mem]
 constructor
 ·rintro ⟨m, h1, h2⟩
  rw [blkPuts_mem] at h2
  obtain ⟨rfl, h3⟩ := h2
  rw [show (0 + (m : Int)).toNat = m by omega]
  exact ⟨by omega, h3⟩
 ·rintro ⟨⟨h1, h2⟩, h3⟩
  refine ⟨a.toNat, by omega, ?_⟩
  rw [blkPuts_mem]
  exact ⟨by omega, h3⟩

/-! the document's list for a block -/
def cntOf (b : Sg) (n : Int) (k : Nat) : Nat := b.1.countP (fun j => decide (j.1 = n)) + (b.2.1.take k).countP (fun s => decide (s.2.1 = n))
theorem cp_succ {α : Type} {L : List α} {d : α} {p : α → Bool} {t : Int} (h0 : 0 ≤ t) (h1 : t < (L.length : Int)) : (L.take (t + 1).toNat).countP p = (L.take t.toNat).countP p + (if p (L.getD t.toNat d) = true then 1 else 0) := by
 rw [show (t + 1).toNat = t.toNat + 1 by omega, List.take_succ_eq_append_getElem (by omega), List.countP_append, getD_nat L t d h0 h1]
 simp [List.countP_cons]
theorem setsOf_F {b : Sg} {n : Int} {k : Nat} (hn : 4000 ≤ nf) (h1 : b.1.length ≤ 1000) (h2 : b.2.1.length ≤ 1000) (hk : k ≤ b.2.1.length) : ∃ L, ref_setsOf_f nf b n k = some (L, ()) ∧ L.length = cntOf b n k := by
 simp only [ref_setsOf_f, ref_setsOf_p]
 obtain ⟨fu', s, ⟨s1, s2⟩, e⟩ := loop_inv (n := (b.1.length : Int)) (F := fun fu t (s : Sg × List Int) => ref_setsOf_l0 nf b n k fu s.1 s.2 t) (fun t s => s.1 = b ∧ s.2.length = (b.1.take t.toNat).countP (fun j => decide (j.1 = n))) (fun fu t s t0 t1 hI => by
  obtain ⟨b2, L⟩ := s
  obtain ⟨i1, i2⟩ := hI
  simp only at i1 i2
  subst i1
  have hw : IntKind.i64.wrap (t + 1) = t + 1 := wrap_step (n := 2000) t0 (by omega) (by decide)
  have hle : (b2.1.take t.toNat).countP (fun j => decide (j.1 = n)) ≤ 1000 := Nat.le_trans List.countP_le_length (by rw [List.length_take]; omega)
  have hb : Nat.ble (L.length + 1) lim = true := ble_ok (by omega)
  have hc := cp_succ (d := J0) (p := fun j : Jn => decide (j.1 = n)) t0 t1
  have hJ : b2.1.getD t.toNat (0, [], ()) = b2.1.getD t.toNat J0 := rfl
  by_cases he : (b2.1.getD t.toNat J0).1 = n
  ·refine ⟨(b2, L ++ [-1]), ?_, rfl, ?_⟩
   ·simp only
    rw [ref_setsOf_l0, ref_setsOf_b0, inb_ok t0 t1, hJ, he, hw]
    simp only [t1, decide_true, cond_true, beq_self_eq_true, bimp, List.length_cons, List.length_nil, Nat.zero_add, hb, Bool.not_false, Bool.true_or, Bool.and_self]
   ·rw [hc, List.length_append, List.length_singleton, i2, if_pos (by rw [decide_eq_true he])]
  ·refine ⟨(b2, L), ?_, rfl, ?_⟩
   ·simp only
    rw [ref_setsOf_l0, ref_setsOf_b0, inb_ok t0 t1, hJ, beq_f he, hw]
    simp only [t1, decide_true, cond_true, cond_false]
   ·rw [hc, i2, if_neg (by rw [decide_eq_false he]; simp)]; rfl) nf 0 (b, []) (by omega) (by omega) (by omega) ⟨rfl, by simp⟩
 obtain ⟨b2, L0⟩ := s
 simp only at s1 s2 e
 subst s1
 rw [Int.toNat_natCast, List.take_length] at s2
 obtain ⟨fu2, s, ⟨s3, s4⟩, e2⟩ := loop_inv (n := (k : Int)) (F := fun fu t (s : Sg × List Int) => ref_setsOf_l2 nf b2 n k fu s.1 s.2 t) (fun t s => s.1 = b2 ∧ s.2.length = L0.length + (b2.2.1.take t.toNat).countP (fun s => decide (s.2.1 = n))) (fun fu t s t0 t1 hI => by
  obtain ⟨b3, L⟩ := s
  obtain ⟨i1, i2⟩ := hI
  simp only at i1 i2
  subst i1
  have ht : t < (b3.2.1.length : Int) := by omega
  have hw : IntKind.i64.wrap (t + 1) = t + 1 := wrap_step (n := 2000) t0 (by omega) (by decide)
  have hle : (b3.2.1.take t.toNat).countP (fun s => decide (s.2.1 = n)) ≤ 1000 := Nat.le_trans List.countP_le_length (by rw [List.length_take]; omega)
  have hle2 : L0.length ≤ 1000 := by rw [s2]; exact Nat.le_trans List.countP_le_length (by omega)
  have hb : Nat.ble (L.length + 1) lim = true := ble_ok (by omega)
  have hc := cp_succ (d := D5) (p := fun s : Step6 => decide (s.2.1 = n)) t0 ht
  have hJ : b3.2.1.getD t.toNat (0, 0, 0, 0, 0, ()) = b3.2.1.getD t.toNat D5 := rfl
  by_cases he : (b3.2.1.getD t.toNat D5).2.1 = n
  ·refine ⟨(b3, L ++ [t]), ?_, rfl, ?_⟩
   ·simp only
    rw [ref_setsOf_l2, ref_setsOf_b2, inb_ok t0 ht, hJ, he, hw]
    simp only [t1, decide_true, cond_true, beq_self_eq_true, bimp, List.length_cons, List.length_nil, Nat.zero_add, hb, Bool.not_false, Bool.true_or, Bool.and_self]
   ·rw [hc, List.length_append, List.length_singleton, i2, if_pos (by rw [decide_eq_true he])]; omega
  ·refine ⟨(b3, L), ?_, rfl, ?_⟩
   ·simp only
    rw [ref_setsOf_l2, ref_setsOf_b2, inb_ok t0 ht, hJ, beq_f he, hw]
    simp only [t1, decide_true, cond_true, cond_false]
   ·rw [hc, i2, if_neg (by rw [decide_eq_false he]; simp)]; rfl) nf 0 (b2, L0) (by omega) (by omega) (by omega) ⟨rfl, by simp⟩
 obtain ⟨b3, L⟩ := s
 simp only at s3 s4 e2
 subst s3
 refine ⟨L, ?_, by rw [s4, s2, Int.toNat_natCast]; rfl⟩
 rw [e, ref_setsOf_l0, ref_setsOf_b0]
 simp only [Int.lt_irrefl, decide_false, cond_false]
 rw [e2, ref_setsOf_l2, ref_setsOf_b2]
 simp only [Int.lt_irrefl, decide_false, cond_false]
theorem cnt_pos {i : Nat} (hi : i < l.length) {n : Int} {k : Nat} (hk : k ≤ (l.getD i S0).2.1.length) : 0 < cntOf (l.getD i S0) n k ↔ ∃ c, (n, (i : Int), c) ∈ allPuts l 0 ∧ c < (k : Int) := by
 unfold cntOf
 constructor
 ·intro h
  by_cases hj : 0 < (l.getD i S0).1.countP (fun j => decide (j.1 = n))
  ·obtain ⟨j, h1, h2⟩ := List.countP_pos_iff.1 hj
   exact ⟨-1, all_mem.2 ⟨by omega, .inl ⟨rfl, j, by rw [Int.toNat_natCast]; exact h1, by simpa using h2⟩⟩, by omega⟩
  ·have h3 : 0 < ((l.getD i S0).2.1.take k).countP (fun s => decide (s.2.1 = n)) := by omega
   obtain ⟨s, h1, h2⟩ := List.countP_pos_iff.1 h3
   obtain ⟨m, hm, rfl⟩ := List.mem_iff_getElem.1 h1
   rw [List.length_take] at hm
   refine ⟨m, all_mem.2 ⟨by omega, .inr ⟨m, by rw [Int.toNat_natCast]; omega, rfl, ?_⟩⟩, by omega⟩
   rw [Int.toNat_natCast]
   rw [decide_eq_true_eq, List.getElem_take] at h2
   have e2 : (l.getD i S0).2.1.getD m D5 = (l.getD i S0).2.1[m]'(by omega) := by rw [List.getD_eq_getElem?_getD, List.getElem?_eq_getElem (by omega), Option.getD_some]
   rw [e2]; exact h2
 ·rintro ⟨c, h1, h2⟩
  obtain ⟨_, h3⟩ := all_mem.1 h1
  rw [Int.toNat_natCast] at h3
  rcases h3 with ⟨_, j, h4, h5⟩ | ⟨m, h4, h5, h6⟩
  ·have : 0 < (l.getD i S0).1.countP (fun j => decide (j.1 = n)) := List.countP_pos_iff.2 ⟨j, h4, by simpa using h5⟩
   omega
  ·have : 0 < ((l.getD i S0).2.1.take k).countP (fun s => decide (s.2.1 = n)) := by
    refine List.countP_pos_iff.2 ⟨(l.getD i S0).2.1[m], ?_, ?_⟩
    ·rw [List.mem_take_iff_getElem]
     exact ⟨m, by omega, rfl⟩
    ·have e2 : (l.getD i S0).2.1.getD m D5 = (l.getD i S0).2.1[m] := by rw [List.getD_eq_getElem?_getD, List.getElem?_eq_getElem (by omega), Option.getD_some]
     rw [← e2, h6]; simp
   omega
end Go.Proofs.Ytoglkjmdloppcaa
