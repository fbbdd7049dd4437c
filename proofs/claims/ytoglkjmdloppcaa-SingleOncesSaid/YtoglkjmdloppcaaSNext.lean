/- Where one may go from each block, and come from. -/
import Derived.Test.YtoglkjmdloppcaaFn1
import Derived.Test.YtoglkjmdloppcaaLib
namespace Go.Proofs.Ytoglkjmdloppcaa
open Go Go.Ab S

variable {nf : Nat}
abbrev Step6 := Int × Int × Int × Int × Int × Unit
abbrev Blk := List Step6 × Int × Int × Int × Unit
abbrev B0 : Blk := ([], 0, 0, 0, ())
variable {p : List Blk}
/-- where one may go from a block -/
def nextOf (b : Blk) : List Int := (if b.2.2.1 ≥ 0 then [b.2.2.1] else []) ++ (if b.2.1 ≥ 0 ∧ b.2.2.2.1 ≠ b.2.2.1 then [b.2.2.2.1] else [])

theorem next_F (h8 : p.length ≤ 8) (hn : 12 ≤ nf) : block_Next_f nf p = some (p.map nextOf, ()) := by
 have hm : p.length ≤ maxLen := Nat.le_trans h8 (by decide)
 have c : (decide (0 ≤ (List.length p : Int)) && decide ((List.length p : Int) ≤ (List.length p : Int)) && decide ((List.length p : Int) ≤ ((lim : Nat) : Int))) = true := by
  rw [decide_eq_true (show (0 : Int) ≤ (List.length p : Int) by omega), decide_eq_true (Int.le_refl _), decide_eq_true (show (List.length p : Int) ≤ ((lim : Nat) : Int) by show (List.length p : Int) ≤ ((4294967296 : Nat) : Int); omega)]; rfl
 simp only [block_Next_f, block_Next_p]
 rw [c, cond_true, Int.toNat_natCast]
 have key := loop_inv (n := p.length) (F := fun fu t (q : List (List Int)) => block_Next_l0 nf p fu q t)
  (fun t q => q.length = p.length ∧ (∀ i : Int, 0 ≤ i → i < t → q.getD i.toNat [] = nextOf (p.getD i.toNat B0)) ∧ ∀ i : Int, t ≤ i → q.getD i.toNat [] = [])
  ?_ nf 0 (List.replicate p.length []) (Int.le_refl _) (by omega) (by omega) ⟨by simp, fun i a b => by omega, fun i a => by rw [List.getD_eq_getElem?_getD, List.getElem?_replicate]; split <;> rfl⟩
 ·obtain ⟨fu', q, ⟨h1, h2, _⟩, h5⟩ := key
  have : q = p.map nextOf := by
   refine List.ext_getElem (by simp [h1]) fun i hi1 hi2 => ?_
   have := h2 i (by omega) (by omega)
   rw [Int.toNat_natCast] at this
   simp only [List.getD_eq_getElem?_getD] at this
   rw [List.getElem?_eq_getElem hi1, List.getElem?_eq_getElem (by omega)] at this
   simpa using this
  rw [h5, block_Next_l0, block_Next_b0]
  simp only [Int.lt_irrefl, decide_false, cond_false, this]
 ·rintro fu t q ht0 ht1 ⟨h1, h2, h3⟩
  have hq := h3 t (Int.le_refl _)
  have hi : inb t q.length = true := inb_ok ht0 (by omega)
  have hw := wrap_step ht0 ht1 hm
  have hset : ∀ (l : List Int) (i : Int), 0 ≤ i → (q.set t.toNat l).getD i.toNat [] = if i = t then l else q.getD i.toNat [] := fun l i a => by
   rw [getD_upd (by omega)]
   by_cases hit : i = t
   ·subst hit; simp
   ·rw [if_neg (by omega), if_neg hit]
  have hb1 := ble_ok (n := 0 + 1) (by omega)
  have hb2 := ble_ok (n := 1 + 1) (by omega)
  refine ⟨q.set t.toNat (nextOf (p.getD t.toNat B0)), ?_, by simp [h1], fun i a b => ?_, fun i a => ?_⟩
  ·have e : ∀ fu, block_Next_l0 nf p (fu + 1) q t = block_Next_b0 nf p (block_Next_l0 nf p fu) q t := fun _ => rfl
   rw [e]
   unfold block_Next_b0
   have hnil : q.set t.toNat [] = q := by
    have : q[t.toNat]'(by omega) = [] := by rw [List.getD_eq_getElem?_getD, List.getElem?_eq_getElem (show t.toNat < q.length by omega)] at hq; exact hq
    rw [← this]; exact List.set_getElem_self _
   have hg1 : ∀ l : List Int, (q.set t.toNat l).getD t.toNat [] = l := fun l => by rw [hset l t ht0, if_pos rfl]
   generalize p.getD t.toNat ([], 0, 0, 0, ()) = b
   obtain ⟨code, ts, th, el, u⟩ := b
   simp only [ht1, inb_ok ht0 ht1, hi, hw, hq, hg1, List.length_set, decide_true, cond_true, List.nil_append, List.isEmpty_cons, List.length_nil, List.length_cons, Bool.not_false, Bool.true_and, hb1, hb2, nextOf, List.set_set]
   by_cases c1 : th ≥ 0
   ·by_cases c2 : ts ≥ 0
    ·by_cases c3 : el = th
     ·subst c3; simp [c1, c2]
     ·simp [c1, c2, c3, bne_t c3]
    ·simp [c1, c2]
   ·by_cases c2 : ts ≥ 0
    ·by_cases c3 : el = th
     ·subst c3; simp [c1, c2, hnil]
     ·simp [c1, c2, c3, bne_t c3]
    ·simp [c1, c2, hnil]
  ·rw [hset _ i a]
   by_cases hit : i = t
   ·subst hit; rw [if_pos rfl]
   ·rw [if_neg hit]; exact h2 i a (by omega)
  ·rw [hset _ i (by omega), if_neg (by omega)]
   exact h3 i (by omega)

theorem nexts_F (h8 : p.length ≤ 8) (hn : 12 ≤ nf) (hp : ∀ b ∈ p, -1 ≤ b.2.1 ∧ (0 ≤ b.2.2.1 ∨ b.2.2.1 = -1)) : ref_Nexts_f nf p = some (p.map nextOf, ()) := by
 have hm : p.length ≤ maxLen := Nat.le_trans h8 (by decide)
 simp only [ref_Nexts_f, ref_Nexts_p]
 have key := loop_inv (n := p.length) (F := fun fu t (q : List (List Int)) => ref_Nexts_l0 nf p fu q t)
  (fun t q => q = (p.take t.toNat).map nextOf) ?_ nf 0 [] (Int.le_refl _) (by omega) (by omega) (by simp)
 ·obtain ⟨fu', q, h1, h5⟩ := key
  rw [Int.toNat_natCast, List.take_length] at h1
  subst h1
  rw [h5, ref_Nexts_l0, ref_Nexts_b0]
  simp only [Int.lt_irrefl, decide_false, cond_false]
 ·rintro fu t q ht0 ht1 rfl
  refine ⟨_, ?_, rfl⟩
  have hw := wrap_step ht0 ht1 hm
  have hb := hp _ (getD_mem (l := p) (t := t) (d := B0) ht0 ht1)
  have e1 : (p.take (t + 1).toNat).map nextOf = (p.take t.toNat).map nextOf ++ [nextOf (p.getD t.toNat B0)] := by
   rw [show (t + 1).toNat = t.toNat + 1 by omega, List.take_succ_eq_append_getElem (by omega), List.map_append, getD_nat _ _ _ ht0 ht1]; rfl
  have hbl := ble_ok (n := ((p.take t.toNat).map nextOf).length + 1) (by rw [List.length_map]; have := List.length_take_le t.toNat p; omega)
  have hle : leM (Ty.int .i64).sl 0 (Md.bor false false) (Md.bor false false) = true := rfl
  rw [e1]
  generalize (p.take t.toNat).map nextOf = q at hbl ⊢
  have e : ∀ fu, ref_Nexts_l0 nf p (fu + 1) q t = ref_Nexts_b0 nf p (ref_Nexts_l0 nf p fu) q t := fun _ => rfl
  rw [e]
  unfold ref_Nexts_b0
  revert hb
  generalize p.getD t.toNat ([], 0, 0, 0, ()) = b
  obtain ⟨code, ts, th, el, u⟩ := b
  intro hb
  simp only at hb
  simp only [ht1, inb_ok ht0 ht1, hw, hle, decide_true, cond_true, List.nil_append, List.length_nil, List.length_cons, Bool.not_false, Bool.true_and, hbl, nextOf, Nat.zero_add]
  by_cases c1 : th = -1
  ·subst c1
   by_cases c2 : ts = -1
   ·subst c2; simp
   ·have c2' : ts ≥ 0 := by omega
    by_cases c3 : el = -1
    ·subst c3; simp [c2']
    ·rw [bne_t c2, bne_t (fun h => c3 h.symm)]; simp [c2', c3]
  ·have c1' : th ≥ 0 := by omega
   rw [bne_t c1]
   by_cases c2 : ts = -1
   ·subst c2; simp [c1']
   ·have c2' : ts ≥ 0 := by omega
    rw [bne_t c2]
    by_cases c3 : el = th
    ·subst c3; simp [c1', c2']
    ·rw [bne_t (fun h => c3 h.symm)]; simp [c1', c2', c3]


/-- from where one comes to j, from the first k blocks -/
def frm (nx : List (List Int)) (j : Int) : Nat → List Int
 | 0 => []
 | k + 1 => frm nx j k ++ (if j ∈ nx.getD k [] then [(k : Int)] else [])
theorem frm_mem {nx : List (List Int)} {j x : Int} : ∀ {k : Nat}, x ∈ frm nx j k → 0 ≤ x ∧ x < k
 | 0, h => by simp [frm] at h
 | k + 1, h => by
  simp only [frm, List.mem_append] at h
  rcases h with h | h
  ·have := frm_mem h; omega
  ·split at h
   ·simp only [List.mem_singleton] at h; omega
   ·simp at h
theorem frm_len {nx : List (List Int)} {j : Int} : ∀ k : Nat, (frm nx j k).length ≤ k
 | 0 => by simp [frm]
 | k + 1 => by
  have := frm_len (nx := nx) (j := j) k
  simp only [frm, List.length_append]
  split <;> simp <;> omega
theorem frm_nodup {nx : List (List Int)} {j : Int} : ∀ k : Nat, (frm nx j k).Nodup
 | 0 => by simp [frm]
 | k + 1 => by
  simp only [frm]
  rw [List.nodup_append]
  refine ⟨frm_nodup k, by split <;> simp, fun a ha b hb h => ?_⟩
  subst h
  have := frm_mem ha
  split at hb
  ·simp only [List.mem_singleton] at hb; omega
  ·simp at hb
theorem frm_in {nx : List (List Int)} {j : Int} {i : Nat} (h : j ∈ nx.getD i []) : ∀ k : Nat, i < k → (i : Int) ∈ frm nx j k
 | k + 1, hk => by
  simp only [frm, List.mem_append]
  by_cases hi : i = k
  ·subst hi; right; rw [if_pos h]; simp
  ·left; exact frm_in h k (by omega)

def turned (nx : List (List Int)) : List (List Int) := (List.range nx.length).map fun (j : Nat) => frm nx (j : Int) nx.length

/-- next blocks that are in order -/
structure NxOK (nx : List (List Int)) : Prop where
 few : nx.length ≤ 8
 ok : ∀ x ∈ nx, x.Nodup ∧ x.length ≤ 2 ∧ ∀ y ∈ x, 0 ≤ y ∧ y < nx.length
theorem NxOK.get {nx : List (List Int)} (h : NxOK nx) {t : Int} (h0 : 0 ≤ t) (h1 : t < nx.length) : (nx.getD t.toNat []).Nodup ∧ (nx.getD t.toNat []).length ≤ 2 ∧ ∀ y ∈ nx.getD t.toNat [], 0 ≤ y ∧ y < nx.length := h.ok _ (getD_mem (d := []) h0 h1)

theorem turn_ble {xs : List Int} {y : Int} {n : Nat} (h : xs.length ≤ n) (hn : n ≤ 100) : (!List.isEmpty [y] && Nat.ble (xs.length + [y].length) lim) = true := by
 rw [ble_ok (by simp; omega)]; rfl
theorem ll_set {q : List (List Int)} {x : List Int} {i : Int} (hi : 0 ≤ i) (hq : i < q.length) {j : Int} (hj : 0 ≤ j) : (q.set i.toNat x).getD j.toNat [] = if j = i then x else q.getD j.toNat [] := by
 rw [getD_upd (by omega)]
 by_cases h : j = i
 ·subst h; simp
 ·rw [if_neg (by omega), if_neg h]

theorem turned_eq {nx : List (List Int)} {q : List (List Int)} (h1 : q.length = nx.length) (h2 : ∀ j : Int, 0 ≤ j → j < nx.length → q.getD j.toNat [] = frm nx j nx.length) : q = turned nx := by
 refine List.ext_getElem (by simp [turned, h1]) fun i hi1 hi2 => ?_
 have := h2 i (by omega) (by omega)
 rw [Int.toNat_natCast, List.getD_eq_getElem?_getD, List.getElem?_eq_getElem hi1, Option.getD_some] at this
 rw [this]
 simp [turned]

theorem turn_F {nx : List (List Int)} (h : NxOK nx) (hn : 40 ≤ nf) : fact_Turn_f nf nx = some (turned nx, ()) := by
 have hfew := h.few
 have c : (decide (0 ≤ (List.length nx : Int)) && decide ((List.length nx : Int) ≤ (List.length nx : Int)) && decide ((List.length nx : Int) ≤ ((lim : Nat) : Int))) = true := by
  rw [decide_eq_true (show (0 : Int) ≤ (List.length nx : Int) by omega), decide_eq_true (Int.le_refl _), decide_eq_true (show (List.length nx : Int) ≤ ((lim : Nat) : Int) by show (List.length nx : Int) ≤ ((4294967296 : Nat) : Int); omega)]; rfl
 simp only [fact_Turn_f, fact_Turn_p]
 rw [c, cond_true, Int.toNat_natCast]
 have key := loop_inv (n := nx.length) (F := fun fu t (q : List (List Int)) => fact_Turn_l0 nf nx fu q t)
  (fun t q => q.length = nx.length ∧ ∀ j : Int, 0 ≤ j → j < nx.length → q.getD j.toNat [] = frm nx j t.toNat)
  ?_ nf 0 (List.replicate nx.length []) (Int.le_refl _) (by omega) (by omega) ⟨by simp, fun i a _ => by rw [List.getD_eq_getElem?_getD, List.getElem?_replicate]; split <;> rfl⟩
 ·obtain ⟨fu', q, ⟨h1, h2⟩, h5⟩ := key
  rw [Int.toNat_natCast] at h2
  refine h5.trans ?_
  rw [fact_Turn_l0, fact_Turn_b0, turned_eq h1 h2]
  simp
 ·rintro fu t q ht0 ht1 ⟨h1, h2⟩
  obtain ⟨g1, g2, g3⟩ := h.get ht0 ht1
  have htm : ((t.toNat : Nat) : Int) = t := by omega
  have hnx : nx.getD t.toNat [] = nx.getD t.toNat [] := rfl
  have key := loop_inv (n := ((nx.getD t.toNat []).length : Int)) (F := fun fu2 k (q : List (List Int)) => fact_Turn_l2 nf nx t (fun out t13 => fact_Turn_l0 nf nx fu out t13) fu2 q k)
   (fun k q => q.length = nx.length ∧ ∀ j : Int, 0 ≤ j → j < nx.length → q.getD j.toNat [] = frm nx j t.toNat ++ (if j ∈ (nx.getD t.toNat []).take k.toNat then [t] else []))
   ?_ nf 0 q (Int.le_refl _) (by omega) (by omega) ⟨h1, fun j a b => by rw [h2 j a b]; simp⟩
  ·obtain ⟨fu2, q2, ⟨k1, k2⟩, k3⟩ := key
   refine ⟨q2, ?_, k1, fun j a b => ?_⟩
   ·show fact_Turn_l0 nf nx (fu + 1) q t = _
    rw [fact_Turn_l0, fact_Turn_b0]
    simp only [ht1, decide_true, cond_true, inb_ok ht0 ht1]
    refine Eq.trans k3 ?_
    rw [fact_Turn_l2, fact_Turn_b2]
    simp [wrap_step ht0 ht1 (Nat.le_trans hfew (by decide))]
   ·rw [k2 j a b, show (t + 1).toNat = t.toNat + 1 by omega]
    simp only [Int.toNat_natCast, List.take_length, frm, htm]
  ·rintro fu2 k q2 hk0 hk1 ⟨k1, k2⟩
   have hy := g3 _ (getD_mem (d := 0) hk0 hk1)
   have hq := k2 _ hy.1 hy.2
   have hnot : (nx.getD t.toNat []).getD k.toNat 0 ∉ (nx.getD t.toNat []).take k.toNat := by
    intro hm
    have e := List.take_append_drop k.toNat (nx.getD t.toNat [])
    rw [drop_step _ k 0 hk0 hk1] at e
    rw [← e, List.nodup_append] at g1
    exact g1.2.2 _ hm _ (List.mem_cons_self ..) rfl
   rw [if_neg hnot, List.append_nil] at hq
   have hlen := frm_len (nx := nx) (j := (nx.getD t.toNat []).getD k.toNat 0) t.toNat
   refine ⟨q2.set ((nx.getD t.toNat []).getD k.toNat 0).toNat (frm nx ((nx.getD t.toNat []).getD k.toNat 0) t.toNat ++ [t]), ?_, by simp [k1], fun j a b => ?_⟩
   ·show fact_Turn_l2 nf nx t (fun out t13 => fact_Turn_l0 nf nx fu out t13) (fu2 + 1) q2 k = _
    rw [fact_Turn_l2, fact_Turn_b2]
    have hin := inb_ok (t := (nx.getD t.toNat []).getD k.toNat 0) (n := q2.length) hy.1 (by rw [k1]; exact hy.2)
    simp only [hk1, decide_true, cond_true, inb_ok hk0 hk1, hin, turn_ble (y := t) (show (frm nx ((nx.getD t.toNat []).getD k.toNat 0) t.toNat).length ≤ 8 by omega) (show (8 : Nat) ≤ 100 by decide), List.nil_append, hq, wrap_step hk0 hk1 (Nat.le_trans g2 (by decide))]
   ·rw [ll_set hy.1 (by rw [k1]; exact hy.2) a, show (k + 1).toNat = k.toNat + 1 by omega, List.take_succ_eq_append_getElem (by omega), ← getD_nat _ k 0 hk0 hk1]
    by_cases hj : j = (nx.getD t.toNat []).getD k.toNat 0
    ·rw [if_pos hj, hj]; simp
    ·rw [if_neg hj, k2 j a b]
     simp only [List.mem_append, List.mem_singleton, hj, or_false]

theorem has_F {l : List Int} {x : Int} (hl : l.length ≤ 100) (hn : 140 ≤ nf) : ref_Has_f nf l x = some (decide (x ∈ l), ()) := by
 have key : ∀ (fu : Nat) (t : Int), 0 ≤ t → t ≤ l.length → l.length < t + fu → ref_Has_l0 nf l x fu t = some (decide (x ∈ l.drop t.toNat), ()) := by
  intro fu
  induction fu with
  | zero => intro t h1 h2 h3; omega
  | succ fu ih =>
   intro t h1 h2 h3
   rw [ref_Has_l0, ref_Has_b0]
   by_cases ht : t < l.length
   ·rw [inb_ok h1 ht, wrap_step h1 ht (Nat.le_trans hl (by decide)), ih (t + 1) (by omega) (by omega) (by omega), drop_step l t 0 h1 ht]
    by_cases he : x = l.getD t.toNat 0
    ·rw [← he]; simp [ht]
    ·rw [beq_f he]
     simp only [ht, decide_true, cond_true, cond_false, List.mem_cons, he, false_or]
   ·simp [ht, List.drop_eq_nil_of_le (show l.length ≤ t.toNat by omega)]
 rw [ref_Has_f, ref_Has_p, key nf 0 (by omega) (by omega) (by omega)]
 simp

theorem rturned_F {nx : List (List Int)} (h : NxOK nx) (hn : 140 ≤ nf) : ref_Turned_f nf nx = some (turned nx, ()) := by
 have hfew := h.few
 have c : (decide (0 ≤ (List.length nx : Int)) && decide ((List.length nx : Int) ≤ (List.length nx : Int)) && decide ((List.length nx : Int) ≤ ((lim : Nat) : Int))) = true := by
  rw [decide_eq_true (show (0 : Int) ≤ (List.length nx : Int) by omega), decide_eq_true (Int.le_refl _), decide_eq_true (show (List.length nx : Int) ≤ ((lim : Nat) : Int) by show (List.length nx : Int) ≤ ((4294967296 : Nat) : Int); omega)]; rfl
 simp only [ref_Turned_f, ref_Turned_p]
 rw [c, cond_true, Int.toNat_natCast]
 have key := loop_inv (n := nx.length) (F := fun fu t (q : List (List Int)) => ref_Turned_l0 nf nx fu q t)
  (fun t q => q.length = nx.length ∧ ∀ j : Int, 0 ≤ j → j < nx.length → q.getD j.toNat [] = if j < t then frm nx j nx.length else [])
  ?_ nf 0 (List.replicate nx.length []) (Int.le_refl _) (by omega) (by omega) ⟨by simp, fun i a _ => by
   rw [if_neg (by omega), List.getD_eq_getElem?_getD, List.getElem?_replicate]; split <;> rfl⟩
 ·obtain ⟨fu', q, ⟨h1, h2⟩, h5⟩ := key
  refine h5.trans ?_
  rw [ref_Turned_l0, ref_Turned_b0, turned_eq h1 fun j a b => by rw [h2 j a b, if_pos b]]
  simp
 ·rintro fu t q ht0 ht1 ⟨h1, h2⟩
  have key := loop_inv (n := (nx.length : Int)) (F := fun fu2 k (q : List (List Int)) => ref_Turned_l2 nf nx t (fun out j => ref_Turned_l0 nf nx fu out j) fu2 q k)
   (fun k q => q.length = nx.length ∧ ∀ j : Int, 0 ≤ j → j < nx.length → q.getD j.toNat [] = if j < t then frm nx j nx.length else if j = t then frm nx j k.toNat else [])
   ?_ nf 0 q (Int.le_refl _) (by omega) (by omega) ⟨h1, fun j a b => by
    rw [h2 j a b]
    by_cases hj : j = t
    ·rw [if_neg (by omega), if_neg (by omega), if_pos hj]; rfl
    ·rw [if_neg hj]⟩
  ·obtain ⟨fu2, q2, ⟨k1, k2⟩, k3⟩ := key
   refine ⟨q2, ?_, k1, fun j a b => ?_⟩
   ·show ref_Turned_l0 nf nx (fu + 1) q t = _
    rw [ref_Turned_l0, ref_Turned_b0]
    simp only [ht1, decide_true, cond_true]
    refine Eq.trans k3 ?_
    rw [ref_Turned_l2, ref_Turned_b2]
    simp [wrap_step ht0 ht1 (Nat.le_trans hfew (by decide))]
   ·rw [k2 j a b, Int.toNat_natCast]
    by_cases hj : j = t
    ·rw [if_neg (by omega), if_pos hj, if_pos (by omega)]
    ·rw [if_neg hj]
     by_cases hlt : j < t
     ·rw [if_pos hlt, if_pos (by omega)]
     ·rw [if_neg hlt, if_neg (by omega)]
  ·rintro fu2 k q2 hk0 hk1 ⟨k1, k2⟩
   obtain ⟨g1, g2, g3⟩ := h.get hk0 hk1
   have hq := k2 t ht0 ht1
   rw [if_neg (by omega), if_pos rfl] at hq
   have hkm : ((k.toNat : Nat) : Int) = k := by omega
   have hin := inb_ok (t := t) (n := q2.length) ht0 (by rw [k1]; exact ht1)
   have hlen := frm_len (nx := nx) (j := t) k.toNat
   have e : ∀ fu2, ref_Turned_l2 nf nx t (fun out j => ref_Turned_l0 nf nx fu out j) (fu2 + 1) q2 k = ref_Turned_b2 nf nx t (fun out j => ref_Turned_l0 nf nx fu out j) (ref_Turned_l2 nf nx t (fun out j => ref_Turned_l0 nf nx fu out j) fu2) q2 k := fun _ => rfl
   by_cases hm : t ∈ nx.getD k.toNat []
   ·refine ⟨q2.set t.toNat (frm nx t k.toNat ++ [k]), ?_, by simp [k1], fun j a b => ?_⟩
    ·show ref_Turned_l2 nf nx t (fun out j => ref_Turned_l0 nf nx fu out j) (fu2 + 1) q2 k = _
     rw [e, ref_Turned_b2, has_F (by omega) hn]
     simp only [hk1, decide_true, cond_true, inb_ok hk0 hk1, Option.bind_some, hm, hin, turn_ble (y := k) (show (frm nx t k.toNat).length ≤ 8 by omega) (show (8 : Nat) ≤ 100 by decide), List.nil_append, hq, wrap_step hk0 hk1 (Nat.le_trans hfew (by decide))]
    ·rw [ll_set ht0 (by rw [k1]; exact ht1) a, show (k + 1).toNat = k.toNat + 1 by omega]
     by_cases hj : j = t
     ·subst hj
      rw [if_pos rfl, if_neg (by omega), if_pos rfl]
      simp only [frm]
      rw [if_pos hm, hkm]
     ·rw [if_neg hj, k2 j a b, if_neg hj, if_neg hj]
   ·refine ⟨q2, ?_, k1, fun j a b => ?_⟩
    ·show ref_Turned_l2 nf nx t (fun out j => ref_Turned_l0 nf nx fu out j) (fu2 + 1) q2 k = _
     rw [e, ref_Turned_b2, has_F (by omega) hn]
     simp only [hk1, decide_true, cond_true, inb_ok hk0 hk1, Option.bind_some, hm, decide_false, cond_false, wrap_step hk0 hk1 (Nat.le_trans hfew (by decide))]
    ·rw [k2 j a b, show (k + 1).toNat = k.toNat + 1 by omega]
     by_cases hj : j = t
     ·subst hj
      rw [if_neg (Int.lt_irrefl _), if_neg (Int.lt_irrefl _), if_pos rfl, if_pos rfl]
      simp only [frm]
      rw [if_neg hm, List.append_nil]
     ·rw [if_neg hj, if_neg hj]

/-- from where one comes; the first block has the start ahead of all -/
def fromsOf (nx : List (List Int)) : List (List Int) := (turned nx).set 0 ([-1] ++ (turned nx).getD 0 [])
theorem turned_len (nx : List (List Int)) : (turned nx).length = nx.length := by simp [turned]
theorem turned_get {nx : List (List Int)} {j : Nat} (h : j < nx.length) : (turned nx).getD j [] = frm nx j nx.length := by
 simp [turned, List.getD_eq_getElem?_getD, h]
theorem from_ble {xs : List Int} (h : xs.length ≤ 100) : (bimp false (!List.isEmpty xs) && Nat.ble ([(-1 : Int)].length + xs.length) lim) = true := by
 rw [ble_ok (by simp; omega)]; rfl
theorem from_F {nx : List (List Int)} (h : NxOK nx) (h1 : 1 ≤ nx.length) (hn : 140 ≤ nf) : single_From_f nf nx = some (fromsOf nx, ()) ∧ ref_Froms_f nf nx = some (fromsOf nx, ()) := by
 have hfew := h.few
 have hin := inb_ok (t := 0) (n := (turned nx).length) (by omega) (by rw [turned_len]; omega)
 have hl : ((turned nx).getD 0 []).length ≤ 100 := by
  rw [turned_get (by omega)]
  have := frm_len (nx := nx) (j := ((0 : Nat) : Int)) nx.length
  omega
 constructor
 ·simp only [single_From_f, single_From_p, turn_F h (show 40 ≤ nf by omega), Option.bind_some, hin, cond_true, from_ble hl]
  rfl
 ·simp only [ref_Froms_f, ref_Froms_p, rturned_F h hn, Option.bind_some, hin, cond_true, from_ble hl]
  rfl
theorem fromsOf_len (nx : List (List Int)) : (fromsOf nx).length = nx.length := by simp [fromsOf, turned_len]
theorem fromsOf_get {nx : List (List Int)} {j : Nat} (h : j < nx.length) : (fromsOf nx).getD j [] = if j = 0 then -1 :: frm nx 0 nx.length else frm nx j nx.length := by
 unfold fromsOf
 rw [getD_upd (by rw [turned_len]; omega), turned_get h]
 split
 ·rw [turned_get (by omega)]; rfl
 ·rfl
theorem fromsOf_nodup {nx : List (List Int)} {j : Nat} (h : j < nx.length) : ((fromsOf nx).getD j []).Nodup := by
 rw [fromsOf_get h]
 split
 ·rw [List.nodup_cons]
  exact ⟨fun hm => by have := frm_mem hm; omega, frm_nodup _⟩
 ·exact frm_nodup _
theorem fromsOf_lens {nx : List (List Int)} {j : Nat} (h : j < nx.length) : ((fromsOf nx).getD j []).length ≤ nx.length + 1 := by
 rw [fromsOf_get h]
 split
 ·have := frm_len (nx := nx) (j := 0) nx.length
  simp; omega
 ·have := frm_len (nx := nx) (j := j) nx.length
  omega
end Go.Proofs.Ytoglkjmdloppcaa
