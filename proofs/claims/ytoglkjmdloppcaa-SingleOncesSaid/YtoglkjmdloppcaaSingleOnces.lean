/- single.Once answers as the document does. -/
import Derived.Test.YtoglkjmdloppcaaSRef2
import Derived.Test.YtoglkjmdloppcaaAbLaw
namespace Go.Proofs.Ytoglkjmdloppcaa
open Go Go.Ab S

variable {nf : Nat} {vars : Int} {l : List Sg} {next : List (List Int)} {r R : List Int} {fr : List (List Int)}

/-! how often a name is set -/
def totN (n : Int) (l : List Sg) : Nat := (l.map fun b => cntOf b n b.2.1.length).sum
theorem blk_count (n i : Int) (b : Sg) : ((blkPuts i b).map Prod.fst).count n = cntOf b n b.2.1.length := by
 unfold blkPuts jnPuts cntOf
 rw [List.map_append, List.count_append, List.take_length, List.map_map]
 have h1 : ∀ js : List Jn, (js.map (Prod.fst ∘ fun j : Jn => ((j.1, i, -1) : Put))).count n = js.countP fun j => decide (j.1 = n) := fun js => by
  induction js with
  | nil => rfl
  | cons j js ih =>
   rw [List.map_cons, List.count_cons, List.countP_cons, ih]
   simp
 have h2 : ∀ (st : List Step6) (k : Int), ((stPuts i st k).map Prod.fst).count n = st.countP fun s => decide (s.2.1 = n) := fun st => by
  induction st with
  | nil => intro k; rfl
  | cons s st ih =>
   intro k
   simp only [stPuts]
   rw [List.map_cons, List.count_cons, List.countP_cons, ih]
   simp
 rw [h1, h2]
theorem all_count (n : Int) : ∀ (l : List Sg) (i : Int), ((allPuts l i).map Prod.fst).count n = totN n l
 | [], i => rfl
 | b :: l, i => by
  simp only [allPuts]
  rw [List.map_append, List.count_append, blk_count, all_count n l]
  simp [totN]
theorem totN_succ {n : Int} {t : Nat} (ht : t < l.length) : totN n (l.take (t + 1)) = totN n (l.take t) + cntOf (l.getD t S0) n (l.getD t S0).2.1.length := by
 unfold totN
 rw [List.take_succ_eq_append_getElem ht, List.map_append, List.sum_append]
 have : l.getD t S0 = l[t] := by rw [List.getD_eq_getElem?_getD, List.getElem?_eq_getElem ht, Option.getD_some]
 rw [this]; simp
theorem cnt_le84 (hE : REnv nf next vars l) {n : Int} {t : Nat} (ht : t < l.length) : cntOf (l.getD t S0) n (l.getD t S0).2.1.length ≤ 84 := by
 have := hE.sz t ht
 unfold cntOf
 have h1 : (l.getD t S0).1.countP (fun j => decide (j.1 = n)) ≤ (l.getD t S0).1.length := List.countP_le_length
 have h2 : ((l.getD t S0).2.1.take (l.getD t S0).2.1.length).countP (fun s => decide (s.2.1 = n)) ≤ (l.getD t S0).2.1.length := Nat.le_trans List.countP_le_length (by rw [List.take_length]; exact Nat.le_refl _)
 omega
theorem r_l2 (hE : REnv nf next vars l) {n m0 : Int} (hm : 0 ≤ m0 ∧ m0 ≤ 1) (hn0 : 0 ≤ n) (hn1 : n ≤ 1000) {g0 : Int → List Sg → List (List Int) → List (List Int) → Int → Option (Bool × Unit)} :
  ref_OnceSet_l2 nf l n g0 nf vars l next fr m0 0 = if m0 + totN n l > 1 then no else g0 vars l next fr (n + 1) := by
 have h8 := hE.few
 have hfu := hE.fuel
 obtain ⟨fu', m, ⟨hm1, hm2⟩, e⟩ := loop_inv (n := (l.length : Int)) (F := fun fu t (m : Int) => ref_OnceSet_l2 nf l n g0 fu vars l next fr m t) (fun t m => m = m0 + totN n (l.take t.toNat) ∧ m ≤ 1 + 84 * t) (fun fu t m t0 t1 hI => by
  obtain ⟨i1, i2⟩ := hI
  have hsz := hE.sz t.toNat (by omega)
  obtain ⟨L, e1, e2⟩ := setsOf_F (nf := nf) (b := l.getD t.toNat S0) (n := n) (k := (l.getD t.toNat S0).2.1.length) hfu (by omega) (by omega) (Nat.le_refl _)
  have hG : l.getD t.toNat ([], [], 0, 0, 0, [], ()) = l.getD t.toNat S0 := rfl
  have hc := cnt_le84 hE (n := n) (t := t.toNat) (by omega)
  have hts := totN_succ (l := l) (n := n) (t := t.toNat) (by omega)
  refine ⟨m + (L.length : Int), ?_, ?_, ?_⟩
  ·have hwm : IntKind.i64.wrap (m + (L.length : Int)) = m + (L.length : Int) := Go.IntWalk.i64_in _ ⟨by omega, by omega⟩
   rw [ref_OnceSet_l2, ref_OnceSet_b2, inb_ok t0 t1, hG, e1, wrap_step (n := 2000) t0 (by omega) (by decide)]
   simp only [t1, decide_true, cond_true, Option.bind_some, hwm]
  ·rw [show (t + 1).toNat = t.toNat + 1 by omega, hts]; omega
  ·omega) nf 0 m0 (by omega) (by omega) (by omega) ⟨by simp [totN], by omega⟩
 rw [Int.toNat_natCast, List.take_length] at hm1
 rw [e, ref_OnceSet_l2, ref_OnceSet_b2, wrap_step (n := 2000) hn0 (by omega) (by decide), hm1]
 simp only [Int.lt_irrefl, decide_false, cond_false]
 by_cases h : m0 + (totN n l : Int) > 1
 ·rw [decide_eq_true h, if_pos h]; rfl
 ·rw [decide_eq_false h, if_neg h]; rfl

structure BEnv (nf : Nat) (next : List (List Int)) (vars : Int) (l : List Sg) (fr : List (List Int)) : Prop extends REnv nf next vars l where
 frl : fr.length = l.length
 bk : ∀ i : Int, 0 ≤ i → i < (l.length : Int) → BOK vars l.length (fr.getD i.toNat []).length (l.getD i.toNat S0)
 frx : ∀ i : Int, 0 ≤ i → i < (l.length : Int) → (∀ x ∈ fr.getD i.toNat [], -1 ≤ x ∧ x < (l.length : Int)) ∧ (fr.getD i.toNat []).length ≤ 100

theorem r_l6 (hB : BEnv nf next vars l fr) (hR : R = reach nf next 0 (-1)) (hr : ∀ f : Int, 0 ≤ f → f < (l.length : Int) → (r.getD f.toNat 0 = 0 ↔ f ∉ R)) {t61 : List Int} {t63 i : Int} {r5 : List Int × Unit} (hi : t61.getD t63.toNat 0 = i) (h0 : 0 ≤ i) (h1 : i < (l.length : Int)) (t0' : 0 ≤ t63) (t1' : t63 ≤ 1000) {g4 : H4} :
  ∃ o, (o = true ↔ CondB nf next vars (allPuts l 0) r (fr.getD i.toNat []) i (l.getD i.toNat S0)) ∧ ref_OnceSet_l6 nf l t61 t63 r5 l g4 nf vars l next fr (l.getD i.toNat S0) t61 0 = bif o then g4 vars l next fr t61 (t63 + 1) else no := by
 have hE := hB.toREnv
 have hfu := hE.fuel
 have hb := hB.bk i h0 h1
 obtain ⟨f1, f2⟩ := hB.frx i h0 h1
 obtain ⟨z1, z2⟩ := hE.sz i.toNat (by omega)
 have hv := hE.vs
 have houtl := hb.outl
 obtain ⟨o2, a2, e2⟩ := r_l10 (nf := nf) (r5 := r5) (fr := fr) hE hi h0 h1 t0' t1' rfl (by omega) (fun x hx => (hb.outs x hx).1) hb.stps (g4 := g4)
 have hG : l.getD (t61.getD t63.toNat 0).toNat ([], [], 0, 0, 0, [], ()) = l.getD i.toNat S0 := by rw [hi]
 obtain ⟨o, a, e⟩ := loop_ex (n := ((l.getD i.toNat S0).1.length : Int)) (F := fun fu t => ref_OnceSet_l6 nf l t61 t63 r5 l g4 fu vars l next fr (l.getD i.toNat S0) t61 t) (C := fun k => CondJ nf next vars (allPuts l 0) r (fr.getD i.toNat []) ((l.getD i.toNat S0).1.getD k.toNat J0)) (yes := bif o2 then g4 vars l next fr t61 (t63 + 1) else no) (no := no) (fun fu t t0 t1 => by
  obtain ⟨j1, _, _, j4⟩ := hb.jns _ (getD_mem (d := J0) t0 t1)
  obtain ⟨o, a, e⟩ := r_l8 (nf := nf) (r5 := r5) hE hR hr hi h0 t0 (by omega) (inb_ok h0 (by rw [hB.frl]; exact h1)) f1 (b2 := l.getD i.toNat S0) (j' := (l.getD i.toNat S0).1.getD t.toNat J0) rfl j1 (by omega) (fun x hx => (j4 x hx).1) (g6 := fun vars5 l'5 next4 from'4 b t612 t74 => ref_OnceSet_l6 nf l t61 t63 r5 l g4 fu vars5 l'5 next4 from'4 b t612 t74) (g4 := g4)
  refine ⟨o, a, ?_⟩
  rw [ref_OnceSet_l6, ref_OnceSet_b6, hG, inb_ok t0 t1]
  simp only [t1, decide_true, cond_true]
  exact e) (fun fu => by
  rw [ref_OnceSet_l6, ref_OnceSet_b6, hG]
  simp only [Int.lt_irrefl, decide_false, cond_false]
  exact e2) (fu := nf) (by omega) (by omega)
 refine ⟨o && o2, ?_, ?_⟩
 ·rw [Bool.and_eq_true, a, a2, all_at (C := fun j => CondJ nf next vars (allPuts l 0) r (fr.getD i.toNat []) j)]
  rfl
 ·have e' : ref_OnceSet_l6 nf l t61 t63 r5 l g4 nf vars l next fr (l.getD i.toNat S0) t61 0 = _ := e
  rw [e']
  cases o <;> cases o2 <;> rfl
theorem r_l4 (hB : BEnv nf next vars l fr) (hR : R = reach nf next 0 (-1)) (hr : ∀ f : Int, 0 ≤ f → f < (l.length : Int) → (r.getD f.toNat 0 = 0 ↔ f ∉ R)) (hRi : ∀ i ∈ R, 0 ≤ i ∧ i < (l.length : Int)) (hRl : R.length ≤ 8) :
  ∃ o, (o = true ↔ ∀ i ∈ R, CondB nf next vars (allPuts l 0) r (fr.getD i.toNat []) i (l.getD i.toNat S0)) ∧ ref_OnceSet_l4 nf l (R, ()) nf vars l next fr R 0 = some (o, ()) := by
 have hfu := hB.toREnv.fuel
 obtain ⟨o, a, e⟩ := loop_ex (n := (R.length : Int)) (F := fun fu t => ref_OnceSet_l4 nf l (R, ()) fu vars l next fr R t) (C := fun k => CondB nf next vars (allPuts l 0) r (fr.getD (R.getD k.toNat 0).toNat []) (R.getD k.toNat 0) (l.getD (R.getD k.toNat 0).toNat S0)) (yes := some (true, ())) (no := no) (fun fu t t0 t1 => by
  obtain ⟨i0, i1⟩ := hRi _ (getD_mem (d := 0) t0 t1)
  obtain ⟨o, a, e⟩ := r_l6 (nf := nf) (r5 := (R, ())) hB hR hr (t61 := R) (t63 := t) rfl i0 i1 t0 (by omega) (g4 := fun vars4 l'4 next3 from'3 t61 t63 => ref_OnceSet_l4 nf l (R, ()) fu vars4 l'4 next3 from'3 t61 t63)
  refine ⟨o, a, ?_⟩
  have hG : l.getD (R.getD t.toNat 0).toNat ([], [], 0, 0, 0, [], ()) = l.getD (R.getD t.toNat 0).toNat S0 := rfl
  rw [ref_OnceSet_l4, ref_OnceSet_b4, inb_ok t0 t1, inb_ok i0 i1, hG]
  simp only [t1, decide_true, cond_true]
  exact e) (fun fu => by
  rw [ref_OnceSet_l4, ref_OnceSet_b4]
  simp only [Int.lt_irrefl, decide_false, cond_false]) (fu := nf) (by omega) (by omega)
 refine ⟨o, by rw [a, all_at (C := fun i => CondB nf next vars (allPuts l 0) r (fr.getD i.toNat []) i (l.getD i.toNat S0))], ?_⟩
 have e' : ref_OnceSet_l4 nf l (R, ()) nf vars l next fr R 0 = _ := e
 rw [e']
 cases o <;> rfl
theorem r_l0 (hB : BEnv nf next vars l fr) (hR : R = reach nf next 0 (-1)) (hr : ∀ f : Int, 0 ≤ f → f < (l.length : Int) → (r.getD f.toNat 0 = 0 ↔ f ∉ R)) (hRi : ∀ i ∈ R, 0 ≤ i ∧ i < (l.length : Int)) (hRl : R.length ≤ 8) :
  ∃ o, (o = true ↔ (∀ n : Int, 0 ≤ n → n < 128 → (if n < vars then (1 : Int) else 0) + totN n l ≤ 1) ∧ ∀ i ∈ R, CondB nf next vars (allPuts l 0) r (fr.getD i.toNat []) i (l.getD i.toNat S0)) ∧ ref_OnceSet_l0 nf l nf vars l next fr 0 = some (o, ()) := by
 have hE := hB.toREnv
 have hfu := hE.fuel
 obtain ⟨o2, a2, e2⟩ := r_l4 hB hR hr hRi hRl
 obtain ⟨o, a, e⟩ := loop_ex (n := 128) (F := fun fu t => ref_OnceSet_l0 nf l fu vars l next fr t) (C := fun n => (if n < vars then (1 : Int) else 0) + totN n l ≤ 1) (yes := some (o2, ())) (no := no) (fun fu t t0 t1 => by
  refine ⟨decide ((if t < vars then (1 : Int) else 0) + totN t l ≤ 1), by rw [decide_eq_true_eq], ?_⟩
  have hl2 := fun m0 hm => r_l2 (fr := fr) hE (n := t) (m0 := m0) hm t0 (by omega) (g0 := fun vars2 l'2 next from' n' => ref_OnceSet_l0 nf l fu vars2 l'2 next from' n')
  rw [ref_OnceSet_l0, ref_OnceSet_b0]
  simp only [t1, decide_true, cond_true]
  by_cases hv : t < vars
  ·rw [decide_eq_true hv, cond_true, if_pos hv]
   rw [show ref_OnceSet_l2 nf l t (fun vars2 l'2 next from' n' => ref_OnceSet_l0 nf l fu vars2 l'2 next from' n') nf vars l next fr 1 0 = _ from hl2 1 (by omega)]
   by_cases hc : (1 : Int) + totN t l > 1
   ·rw [if_pos hc, decide_eq_false (by omega)]; rfl
   ·rw [if_neg hc, decide_eq_true (by omega)]; rfl
  ·rw [decide_eq_false hv, cond_false, if_neg hv]
   rw [show ref_OnceSet_l2 nf l t (fun vars2 l'2 next from' n' => ref_OnceSet_l0 nf l fu vars2 l'2 next from' n') nf vars l next fr 0 0 = _ from hl2 0 (by omega)]
   by_cases hc : (0 : Int) + totN t l > 1
   ·rw [if_pos hc, decide_eq_false (by omega)]; rfl
   ·rw [if_neg hc, decide_eq_true (by omega)]; rfl) (fun fu => by
  rw [ref_OnceSet_l0, ref_OnceSet_b0, reach_F hE.way (by omega) (zero_good hE.way), ← hR]
  simp only [Int.lt_irrefl, decide_false, cond_false, Option.bind_some]
  exact e2) (fu := nf) (by omega) (by omega)
 refine ⟨o && o2, by rw [Bool.and_eq_true, a, a2], ?_⟩
 have e' : ref_OnceSet_l0 nf l nf vars l next fr 0 = _ := e
 rw [e']
 cases o <;> cases o2 <;> rfl

theorem rz_iff (hW : WayOK next) (hn : 12 ≤ nf) (hr : RulesOK nf next r) {f : Int} (f0 : 0 ≤ f) (f1 : f < (next.length : Int)) : r.getD f.toNat 0 = 0 ↔ f ∉ reach nf next 0 (-1) := by
 obtain ⟨w1, w2⟩ := hr.2 f f0 f1
 rw [mem_reach hW hn (zero_good hW)]
 constructor
 ·intro h hc
  have := w2 f.toNat
  rw [h, bt_zero, show ((f.toNat : Nat) : Int) = f by omega] at this
  have h2 := (domB_iff hW hn).2 (dom_self hc)
  rw [h2] at this; cases this
 ·intro h
  refine bt_ext w1 W32_zero fun k _ => ?_
  rw [w2, bt_zero]
  cases hd : domB nf next k f with
  | false => rfl
  | true => exact absurd ((domB_iff hW hn).1 hd).2.1 h
theorem singleOnces_aux (hl : l.length ≤ maxLen) (hn : l.length + 100000000500 ≤ nf) (hf : ∀ b ∈ l, SFit nf b) (hz : ∀ b ∈ l, b.2.1.length ≤ 140737488355328 ∧ b.1.length ≤ 140737488355328) : law_SingleOnces_f nf vars l = some (true, ()) := by
 obtain ⟨c1, c2⟩ := scheck_F (vars := vars) hl (by omega) hf
 simp only [law_SingleOnces_f, law_SingleOnces_p, single_Once_f, single_Once_p, c1, c2, Option.bind_some]
 by_cases h1 : sCode vars l = 0
 ·obtain ⟨b1, b2, b3, b4, b5, b6⟩ := bok h1
  have hnx := nx_ok b4 b5
  obtain ⟨ba1, ba2⟩ := bare_F (nf := nf) b4 (by omega)
  obtain ⟨f1, f2⟩ := from_F (nf := nf) hnx (by simpa using b3) (by omega)
  have nf1 := next_F (nf := nf) (p := l.map bareOf) (by simpa using b4) (by omega)
  obtain ⟨_, p', nx', r1, r2, r3⟩ := froms_F (nf := nf) b3 b4 (by omega) b5
  have hp' : p' = l.map bareOf := by rw [ba2] at r1; injection r1 with h; injection h with h; exact h.symm
  have nf2 : ref_Nexts_f nf (l.map bareOf) = some ((l.map bareOf).map nextOf, ()) := nexts_F (by simpa using b4) (by omega) fun b hb => by
   obtain ⟨c, hc, rfl⟩ := List.mem_map.1 hb
   have h1 := List.all_eq_true.1 b5 c hc
   simp only [okEnds, Bool.and_eq_true, Bool.or_eq_true, decide_eq_true_eq] at h1
   simp only [bareOf]
   omega
  generalize hnext : (l.map bareOf).map nextOf = next at hnx f1 f2 nf1 nf2
  have hlen : next.length = l.length := by rw [← hnext]; simp
  have hfl : fromsOf next = sFroms l := by rw [← hnext]; rfl
  have hW : WayOK next := ⟨by omega, by omega, fun y hy => by have := (hnx.ok y hy).2.1; omega, fun y hy => (hnx.ok y hy).2.2⟩
  have hlarge : largeB vars l = false := by
   cases hb : largeB vars l with
   | false => rfl
   | true => unfold sCode at h1; rw [hb] at h1; cases h1
  simp only [largeB, Bool.or_eq_false_iff, decide_eq_false_iff_not] at hlarge
  obtain ⟨_, _, s3⟩ := sum_ok l 0 0 (by omega) (by omega) (by omega) (by omega) hz
  have hmem : ∀ i : Nat, i < l.length → l.getD i S0 ∈ l := fun i hi => by
   rw [show l.getD i S0 = l[i] by rw [List.getD_eq_getElem?_getD, List.getElem?_eq_getElem hi, Option.getD_some]]
   exact List.getElem_mem hi
  have hE : REnv nf next vars l := ⟨hW, hlen, ⟨b1, b2⟩, b4, by omega, fun i hi => by have := s3 _ (hmem i hi); omega⟩
  have hBE : BEnv nf next vars l (sFroms l) := ⟨hE, by rw [← hfl, fromsOf_len, hlen], b6, fun i i0 i1 => by
   rw [← hfl, fromsOf_get (by omega : i.toNat < next.length)]
   split
   ·refine ⟨fun x hx => ?_, ?_⟩
    ·rcases List.mem_cons.1 hx with rfl | hx
     ·omega
     ·have := frm_mem hx; omega
    ·have := frm_len (nx := next) (j := 0) next.length
     rw [List.length_cons]; omega
   ·refine ⟨fun x hx => ?_, ?_⟩
    ·have := frm_mem hx; omega
    ·have := frm_len (nx := next) (j := (i.toNat : Int)) next.length
     omega⟩
  obtain ⟨q, q1, q2⟩ := sets_F (nf := nf) (vars := vars) (l := l) (by omega) (by omega) b4 (fun b hb => by have := s3 b hb; omega)
  obtain ⟨r, r4, r5⟩ := rules_F (nf := nf) hW (by omega)
  have hS : SEnv nf next vars (allPuts l 0) q r l.length := ⟨q2, r4, hlen, b4, fun p hp => by
   obtain ⟨n, a, c⟩ := p
   exact (all_mem.1 hp).1⟩
  obtain ⟨o1, a1, e1⟩ := once_l0 (nf := nf) hS (by omega) (fr := sFroms l) hBE.frl (fun i i0 i1 => by
   obtain ⟨x1, x2⟩ := hBE.frx i i0 i1
   have hb := b6 i i0 i1
   have hs := hE.sz i.toNat (by omega)
   have := hb.outl
   exact ⟨x1, x2, fun j hj => (hb.jns j hj).1, by omega, by omega, by omega⟩)
  have hz' := zero_good hW
  have hnod := reach_nodes hW (nf := nf) (wo := -1) hz'
  obtain ⟨o2, a2, e2⟩ := r_l0 (nf := nf) hBE (R := reach nf next 0 (-1)) rfl (r := r) (fun f f0 f1 => rz_iff hW (by omega) r4 f0 (by rw [hlen]; exact f1)) (fun i hi => by have := hnod.good i hi; rw [hlen] at this; exact this) (by have := hnod.len; omega)
  have heq : o1 = o2 := by
   rw [Bool.eq_iff_iff, a1, a2, q2.ok]
   have hA : ((allPuts l 0).map Prod.fst).Nodup ∧ (∀ p ∈ allPuts l 0, ¬ (0 ≤ p.1 ∧ p.1 < vars)) ↔ ∀ n : Int, 0 ≤ n → n < 128 → (if n < vars then (1 : Int) else 0) + totN n l ≤ 1 := by
    constructor
    ·rintro ⟨h2, h3⟩ n n0 n1
     rw [← all_count n l 0]
     have hc := List.nodup_iff_count.1 h2 n
     by_cases hv : n < vars
     ·have : ((allPuts l 0).map Prod.fst).count n = 0 := List.count_eq_zero.2 fun hm => by
       obtain ⟨p, hp, rfl⟩ := List.mem_map.1 hm
       exact h3 p hp ⟨n0, hv⟩
      rw [if_pos hv, this]; omega
     ·rw [if_neg hv]; omega
    ·intro h2
     have hrng : ∀ p ∈ allPuts l 0, 0 ≤ p.1 ∧ p.1 < 128 := fun p hp => by
      obtain ⟨n, a, c⟩ := p
      obtain ⟨⟨x0, x1⟩, h4⟩ := all_mem.1 hp
      have hb := b6 a x0 x1
      rcases h4 with ⟨_, j, hj, rfl⟩ | ⟨m, m1, _, rfl⟩
      ·exact (hb.jns j hj).2.elim fun h _ => ⟨h, (hb.jns j hj).2.2.1⟩
      ·have hsm : (l.getD a.toNat S0).2.1.getD m D5 ∈ (l.getD a.toNat S0).2.1 := by
        have hg := getD_mem (l := (l.getD a.toNat S0).2.1) (t := (m : Int)) (d := D5) (by omega) (by omega)
        rwa [Int.toNat_natCast] at hg
       have := hb.stps _ hsm
       unfold stpCode at this
       split at this
       ·omega
       ·split at this
        ·omega
        ·split at this
         ·rename_i h7
          simp only [Bool.and_eq_true] at h7
          exact within_mem h7.1 _ (by simp)
         ·omega
     refine ⟨List.nodup_iff_count.2 fun n => ?_, fun p hp hv => ?_⟩
     ·by_cases hm : n ∈ (allPuts l 0).map Prod.fst
      ·obtain ⟨p, hp, rfl⟩ := List.mem_map.1 hm
       have h3 := h2 p.1 (hrng p hp).1 (hrng p hp).2
       rw [← all_count p.1 l 0] at h3
       split at h3 <;> omega
      ·rw [List.count_eq_zero.2 hm]; omega
     ·have h3 := h2 p.1 (hrng p hp).1 (hrng p hp).2
      rw [← all_count p.1 l 0, if_pos hv.2] at h3
      have := List.count_pos_iff.2 (List.mem_map_of_mem (f := Prod.fst) hp)
      omega
   rw [hA]
   refine and_congr_right fun _ => ⟨fun h i hi => ?_, fun h i i0 i1 => ?_⟩
   ·have hg := hnod.good i hi
    rw [hlen] at hg
    exact (h i hg.1 hg.2).resolve_left fun hh => (rz_iff hW (by omega) r4 hg.1 (by rw [hlen]; exact hg.2)).1 hh hi
   ·by_cases hm : i ∈ reach nf next 0 (-1)
    ·exact .inr (h i hm)
    ·exact .inl ((rz_iff hW (by omega) r4 i0 (by rw [hlen]; exact i1)).2 hm)
  have hos : ref_OnceSet_f nf vars l = some (o2, ()) := by
   simp only [ref_OnceSet_f, ref_OnceSet_p, ba2, Option.bind_some, nf2, f2, hfl]
   exact e2
  simp only [h1, bne_self_eq_false, cond_false, q1, Option.bind_some, ba1, nf1, r5, f1, hfl, e1, beq_self_eq_true, cond_true, hos, heq]
 ·simp only [bne_t h1, cond_true, Option.bind_some, beq_self_eq_true]
  rfl

/-- what the lists of a program are -/
theorem fit_of {l : List Sg} {n : Nat} (hn : sfuel l ≤ n) (h2 : ∀ i, i < l.length → wfD (.pair (.sl (.pair (.int .i64) (.pair (.sl (.int .i64)) .unit))) (.pair (.sl (.pair (.int .i64) (.pair (.int .i64) (.pair (.int .i64) (.pair (.int .i64) (.pair (.int .i64) .unit)))))) (.pair (.int .i64) (.pair (.int .i64) (.pair (.int .i64) (.pair (.sl (.int .i64)) .unit)))))) (List.getD l i (dflt (.pair (.sl (.pair (.int .i64) (.pair (.sl (.int .i64)) .unit))) (.pair (.sl (.pair (.int .i64) (.pair (.int .i64) (.pair (.int .i64) (.pair (.int .i64) (.pair (.int .i64) .unit)))))) (.pair (.int .i64) (.pair (.int .i64) (.pair (.int .i64) (.pair (.sl (.int .i64)) .unit))))))))) : ∀ b ∈ l, SFit n b := by
 intro b hb
 obtain ⟨k1, k2⟩ := sfuel_ok l
 obtain ⟨i, hi, rfl⟩ := List.mem_iff_getElem.1 hb
 have := h2 i hi
 have e : List.getD l i (dflt (.pair (.sl (.pair (.int .i64) (.pair (.sl (.int .i64)) .unit))) (.pair (.sl (.pair (.int .i64) (.pair (.int .i64) (.pair (.int .i64) (.pair (.int .i64) (.pair (.int .i64) .unit)))))) (.pair (.int .i64) (.pair (.int .i64) (.pair (.int .i64) (.pair (.sl (.int .i64)) .unit))))))) = l[i] := by simp [List.getD, hi]
 rw [e] at this
 obtain ⟨⟨w1, w2⟩, ⟨w3, _⟩, _, _, _, ⟨w4, _⟩, _⟩ := this
 obtain ⟨g1, g2, g3, g4⟩ := k2 _ hb
 refine ⟨w1, by omega, w3, by omega, w4, by omega, fun j hj => ?_, fun j hj => by have := g4 j hj; omega⟩
 obtain ⟨i', hi', rfl⟩ := List.mem_iff_getElem.1 hj
 have := w2 i' hi'
 have e : List.getD l[i].1 i' (dflt (.pair (.int .i64) (.pair (.sl (.int .i64)) .unit))) = l[i].1[i'] := by simp [List.getD, hi']
 rw [e] at this
 exact this.2.1.1

theorem singleOnces_law (x : denPs (lawPs [.int .i64, .sl (.pair (.sl (.pair (.int .i64) (.pair (.sl (.int .i64)) .unit))) (.pair (.sl (.pair (.int .i64) (.pair (.int .i64) (.pair (.int .i64) (.pair (.int .i64) (.pair (.int .i64) .unit)))))) (.pair (.int .i64) (.pair (.int .i64) (.pair (.int .i64) (.pair (.sl (.int .i64)) .unit))))))])) (h : wfPs [.int .i64, .sl (.pair (.sl (.pair (.int .i64) (.pair (.sl (.int .i64)) .unit))) (.pair (.sl (.pair (.int .i64) (.pair (.int .i64) (.pair (.int .i64) (.pair (.int .i64) (.pair (.int .i64) .unit)))))) (.pair (.int .i64) (.pair (.int .i64) (.pair (.int .i64) (.pair (.sl (.int .i64)) .unit))))))] x) (hz : szPs [.int .i64, .sl (.pair (.sl (.pair (.int .i64) (.pair (.sl (.int .i64)) .unit))) (.pair (.sl (.pair (.int .i64) (.pair (.int .i64) (.pair (.int .i64) (.pair (.int .i64) (.pair (.int .i64) .unit)))))) (.pair (.int .i64) (.pair (.int .i64) (.pair (.int .i64) (.pair (.sl (.int .i64)) .unit))))))] x) : ∃ n, law_SingleOnces_F n x = some (true, ()) := by
 obtain ⟨vars, l, _⟩ := x
 obtain ⟨_, ⟨h1, h2⟩, _⟩ := h
 obtain ⟨_, ⟨_, z2⟩, _⟩ := hz
 obtain ⟨k1, _⟩ := sfuel_ok l
 have k2 : l.length + 100000000500 ≤ sfuel l + 100000000500 := by omega
 have k3 : sfuel l ≤ sfuel l + 100000000500 := by omega
 refine ⟨sfuel l + 100000000500, singleOnces_aux (vars := vars) (l := l) h1 k2 (fit_of (l := l) k3 h2) fun b hb => ?_⟩
 obtain ⟨i, hi, rfl⟩ := List.mem_iff_getElem.1 hb
 have := z2 i hi
 have e : List.getD l i (dflt _) = l[i] := by simp [List.getD, hi]
 rw [e] at this
 exact ⟨Nat.le_trans this.2.1.1 (by decide), Nat.le_trans this.1.1 (by decide)⟩
end Go.Proofs.Ytoglkjmdloppcaa
