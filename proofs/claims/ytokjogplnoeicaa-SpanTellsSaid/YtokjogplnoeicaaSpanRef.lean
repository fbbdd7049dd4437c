/- Spans of variables: the document's rounds. -/
import Derived.Test.YtokjogplnoeicaaSpanWalk
namespace Go.Proofs.Ytokjogplnoeicaa
open Go Go.Ab S

variable {nf : Nat} {n : Int} {p : List Blk}

theorem isEmpty_ne {α : Type} {l : List α} (h : l ≠ []) : List.isEmpty l = false := by
  cases l with
  | nil => exact absurd rfl h
  | cons => rfl

theorem sput_F (hn1 : 1 ≤ n) (hn6 : n ≤ 6) (hn : 20 ≤ nf) {l v : List Sp} (hl : l = [] ∨ Row n l) (hv : Row n v) : ref_spanPut_f nf l v = some (joinR l v, ()) := by
  have hvl := hv.len
  simp only [ref_spanPut_f, ref_spanPut_p]
  by_cases hne : l = []
  · have hble : (0 + v.length).ble lim = true := ble_ok (by omega)
    subst hne
    simp only [List.isEmpty_nil, cond_true, List.length_nil, hble, bimp, Bool.not_false, Bool.true_or, Bool.true_and, List.nil_append]
    rfl
  · have hrow := hl.resolve_left hne
    have hll : l.length = v.length := by have := hrow.len; omega
    have hble : (0 + l.length).ble lim = true := ble_ok (by omega)
    rw [isEmpty_ne hne]
    simp only [cond_false, List.length_nil, hble, bimp, Bool.not_false, Bool.true_or, Bool.true_and, List.nil_append, cond_true]
    obtain ⟨fu', w, ⟨q2, q3⟩, e⟩ := loop_inv (n := (v.length : Int)) (F := fun fu t (w : List Sp) => ref_spanPut_l0 nf v fu w t)
      (fun t w => w.length = v.length ∧ ∀ k : Nat, k < v.length → w.getD k D0 = if (k : Int) < t then hull2 (l.getD k D0) (v.getD k D0) else l.getD k D0) (fun fu t w h0 ht hI => by
        obtain ⟨i2, i3⟩ := hI
        obtain ⟨t, rfl⟩ : ∃ k : Nat, t = (k : Int) := ⟨t.toNat, by omega⟩
        have hwt := i3 t (by omega)
        rw [if_neg (by omega)] at hwt
        have hwp := wrap_step h0 ht (Nat.le_trans (show v.length ≤ 6 by omega) (by decide))
        have hst : ref_spanPut_l0 nf v (fu + 1) w t = ref_spanPut_b0 nf v (ref_spanPut_l0 nf v fu) w t := rfl
        have hin2 : inb (t : Int) w.length = true := inb_ok h0 (by omega)
        have hwt' : w.getD t (0, 0, ()) = l.getD t D0 := hwt
        have hvt' : v.getD t (0, 0, ()) = v.getD t D0 := rfl
        have hset : ∀ x : Sp, (w.set t x).getD t (0, 0, ()) = x := fun x => by rw [getD_upd (by omega), if_pos rfl]
        unfold ref_spanPut_b0 at hst
        simp only [ht, decide_true, cond_true, inb_ok h0 ht, hin2, Int.toNat_natCast, hwt', hvt', hwp, List.length_set, hset, List.set_set] at hst
        refine ⟨w.set t (hull2 (l.getD t D0) (v.getD t D0)), ?_, by rw [List.length_set]; exact i2, fun k hk => ?_⟩
        · have hsame : w.set t (l.getD t D0) = w := by
            rw [← hwt, show w.getD t D0 = w[t]'(by omega) by simp [List.getD, show t < w.length by omega], List.set_getElem_self]
          unfold hull2
          rw [hst]
          by_cases c1 : (v.getD t D0).1 < (l.getD t D0).1
          · by_cases c2 : (v.getD t D0).2.1 > (l.getD t D0).2.1
            · simp only [c1, c2, decide_true, cond_true, if_true]
            · simp only [c1, c2, decide_true, decide_false, cond_true, cond_false, if_true, if_false]
          · by_cases c2 : (v.getD t D0).2.1 > (l.getD t D0).2.1
            · simp only [c1, c2, decide_true, decide_false, cond_true, cond_false, if_true, if_false]
            · simp only [c1, c2, decide_false, cond_false, if_false]
              rw [show ((l.getD t D0).1, (l.getD t D0).2.1, ()) = l.getD t D0 from rfl, hsame]
        · rw [getD_upd (by omega)]
          by_cases hkt : k = t
          · subst hkt; rw [if_pos rfl, if_pos (by omega)]
          · rw [if_neg hkt, i3 k hk]
            by_cases hlt : (k : Int) < t
            · rw [if_pos hlt, if_pos (by omega)]
            · rw [if_neg hlt, if_neg (by omega)]) nf 0 l (by omega) (by omega) (by omega) ⟨hll, fun k hk => by rw [if_neg (by omega)]⟩
    have hw : w = joinR l v := by
      refine List.ext_getElem (by rw [q2, joinR_len hne hll, hll]) fun k a b => ?_
      have h1 := q3 k (by omega)
      rw [if_pos (by omega), ← joinR_get hne hll (by omega)] at h1
      rw [show w.getD k D0 = w[k] by simp [List.getD, a], show (joinR l v).getD k D0 = (joinR l v)[k] by simp [List.getD, b]] at h1
      exact h1
    rw [show ref_spanPut_l0 nf v nf l 0 = _ from e, ref_spanPut_l0, ref_spanPut_b0, hw]
    simp only [Int.lt_irrefl, decide_false, cond_false]

theorem ssteps_F {m : Int} (hn6 : n ≤ 6) (hn : 300 ≤ nf) {b : Blk} (hb : blockCode n m b = 0) (hm : b.1.length ≤ maxLen) (hf : b.1.length < nf) {v : List Sp} (hv : Row n v) : ref_SpanSteps_f nf b.1 v = some (rowF b.1 v, ()) := by
  have hsc := stepsGo_all (blockCode_ok hb).1
  obtain ⟨fu', q, ⟨q1, q2⟩, e⟩ := loop_inv (n := (b.1.length : Int)) (F := fun fu t (q : List Sp) => ref_SpanSteps_l0 nf b.1 fu q t) (fun t q => q = rowF (b.1.take t.toNat) v ∧ Row n q) (fun fu t q h0 ht hI => by
    obtain ⟨i1, i2⟩ := hI
    have hs := getD_mem (d := ((0, 0, 0, 0, 0, ()) : Step6)) h0 ht
    have hc := hsc _ hs
    have hmk := mkS_is i2 hc
    refine ⟨q.set (b.1.getD t.toNat (0, 0, 0, 0, 0, ())).2.1.toNat (mkS (b.1.getD t.toNat (0, 0, 0, 0, 0, ())) q), ?_, ?_, i2.set _ hmk⟩
    · have hst : ref_SpanSteps_l0 nf b.1 (fu + 1) q t = ref_SpanSteps_b0 nf b.1 (ref_SpanSteps_l0 nf b.1 fu) q t := rfl
      rw [hst]
      unfold ref_SpanSteps_b0
      rw [inb_ok h0 ht, wrap_step h0 ht hm]
      generalize b.1.getD t.toNat (0, 0, 0, 0, 0, ()) = s at *
      obtain ⟨op, to, x, y, k, u⟩ := s
      obtain ⟨o1, o6, c1, c2, ⟨to0, to1⟩, c3⟩ := stepCode_ok hc
      simp only [ht, decide_true, cond_true, i2.inb to0 to1, mkS]
      by_cases e1 : op = 1
      · simp only [e1, show ((1 : Int) == 2) = false from rfl, cond_false, show decide ((1 : Int) ≥ 3) = false from rfl, if_true]
      · by_cases e2 : op = 2
        · obtain ⟨k0, k1⟩ := c2 e2
          simp only [e2, beq_self_eq_true, cond_true, i2.inb k0 k1, show decide ((2 : Int) ≥ 3) = false from rfl, cond_false, show ¬ ((2 : Int) = 1) by decide, if_false, if_true]
          rfl
        · obtain ⟨a0, a1, b0, b1⟩ := c3 (by omega)
          obtain ⟨o, d1, d2⟩ := spanDo_F (nf := nf) hn (op := op) (by omega) o6 (i2.get a0 a1) (i2.get b0 b1)
          have := hull_of (by omega) o6 (i2.get a0 a1) (i2.get b0 b1) d2
          have d1' : ref_SpanDo_f nf op (q.getD x.toNat (0, 0, ())) (q.getD y.toNat (0, 0, ())) = some (o, ()) := d1
          simp only [beq_f e2, cond_false, e1, e2, if_false, i2.inb a0 a1, i2.inb b0 b1, cond_true, d1', Option.bind_some, ← this, show decide (op ≥ 3) = true by rw [decide_eq_true_eq]; omega]
    · rw [rowF_take h0 ht, ← i1]) nf 0 v (by omega) (by omega) (by omega) ⟨by simp [rowF], hv⟩
  rw [Int.toNat_natCast, List.take_length] at q1
  have hble : (0 + v.length).ble lim = true := ble_ok (by have := hv.len; omega)
  simp only [ref_SpanSteps_f, ref_SpanSteps_p, List.length_nil, hble, bimp, Bool.not_false, Bool.true_or, Bool.true_and, cond_true, List.nil_append]
  rw [show ref_SpanSteps_l0 nf b.1 nf v 0 = _ from e, ref_SpanSteps_l0, ref_SpanSteps_b0, q1]
  simp only [Int.lt_irrefl, decide_false, cond_false]

theorem same_set {v : List Sp} {i : Nat} (hi : i < v.length) : v.set i (v.getD i D0) = v := by
  rw [show v.getD i D0 = v[i] by simp [List.getD, hi], List.set_getElem_self]

theorem sstep_F (hp : Made n p nf) (hn : 300 ≤ nf) {have' : List Sp} (hh : Row n have') {X : List (List Sp)} (hX : TabK n p.length X) :
    ∃ Y, TabK n p.length Y ∧ Takes p have' X Y ∧ (∀ Z, Takes p have' X Z → Lek Y Z) ∧ ref_SpanStep_f nf p have' X = some (X, Y, ()) := by
  have hp1 := hp.p1
  have hp8 := hp.p8
  obtain ⟨t1, t0, t2, t3⟩ := start_row hp hh
  have hlen0 : (List.replicate p.length ([] : List Sp)).length = p.length := by simp
  obtain ⟨u1, u2⟩ := updK_in (X := List.replicate p.length ([] : List Sp)) (j := 0) t1 hh hp.n1 (by omega) (by omega)
  have ht1 := updK_tab (j := 0) t1 hh
  rw [t0] at u1 u2 ht1
  obtain ⟨fu', q, ⟨q0, q1, q2, q3, q4⟩, e⟩ := loop_inv (n := (p.length : Int)) (F := fun fu t (q : List (List Sp) × List (List Sp)) => ref_SpanStep_l0 nf p fu q.1 q.2 t)
    (fun t q => q.1 = X ∧ TabK n p.length q.2 ∧ (row q.2 0 ≠ [] ∧ rle have' (row q.2 0)) ∧ (∀ Z, Takes p have' X Z → Lek q.2 Z) ∧
      ∀ i : Int, 0 ≤ i → i < t → row X i ≠ [] → ∀ r ∈ outs (p.getD i.toNat B0) (rowF (p.getD i.toNat B0).1 (row X i)), row q.2 r.1 ≠ [] ∧ rle r.2 (row q.2 r.1)) (fun fu t q h0 ht hI => by
      obtain ⟨i0, i1, i2, i3, i4⟩ := hI
      have hbm := getD_mem (d := B0) h0 ht
      have hb := hp.ok _ hbm
      obtain ⟨f1, f2⟩ := hp.fit _ hbm
      have hsc := stepsGo_all (blockCode_ok hb).1
      obtain ⟨_, b1, b2, b3, b4⟩ := blockCode_ok hb
      have hwp := wrap_step h0 ht (Nat.le_trans hp8 (by decide))
      have hlX := hX.len
      have hst : ref_SpanStep_l0 nf p (fu + 1) q.1 q.2 t = ref_SpanStep_b0 nf p (ref_SpanStep_l0 nf p fu) q.1 q.2 t := rfl
      have hin : inb t X.length = true := inb_ok h0 (by omega)
      have erow : X.getD t.toNat [] = row X t := rfl
      have eB : p.getD t.toNat ([], 0, 0, 0, ()) = p.getD t.toNat B0 := rfl
      unfold ref_SpanStep_b0 at hst
      rw [i0] at hst
      simp only [ht, decide_true, cond_true, inb_ok h0 ht, hin, erow, hwp] at hst
      by_cases hne : row X t = []
      · rw [hne, List.isEmpty_nil, cond_true] at hst
        refine ⟨(X, q.2), by rw [i0]; exact hst, rfl, i1, i2, i3, fun i a b hri => ?_⟩
        by_cases hit : i = t
        · subst hit; exact absurd hne hri
        · exact i4 i a (by omega) hri
      · have hrow := (hX.row t).resolve_left hne
        have hrf := rowF_row hsc hrow
        have hok := outs_ok hb hrf
        have hss := ssteps_F (nf := nf) hp.n6 hn hb f1 f2 hrow
        rw [eB, isEmpty_ne hne, cond_false, hss] at hst
        simp only [Option.bind_some] at hst
        have key : ∃ Y, Done n p.length q.2 Y (outs (p.getD t.toNat B0) (rowF (p.getD t.toNat B0).1 (row X t))) ∧ ref_SpanStep_l0 nf p (fu + 1) X q.2 t = ref_SpanStep_l0 nf p fu X Y (t + 1) := by
          -- a row is put
          have put : ∀ (N : List (List Sp)) (_ : TabK n p.length N) (v : List Sp) (_ : Row n v) (j : Int) (_ : 0 ≤ j ∧ j < (p.length : Nat)), inb j N.length = true ∧ ref_spanPut_f nf (N.getD j.toNat []) v = some (joinR (row N j) v, ()) ∧ List.isEmpty (joinR (row N j) v) = false ∧ N.set j.toNat (joinR (row N j) v) = updK N j v := fun N hN v hv j hj => by
            have hlN := hN.len
            obtain ⟨a1, _⟩ := updK_in hN hv hp.n1 hj.1 (by omega)
            rw [updK_row hj.1 (by omega) hj.1, if_pos rfl] at a1
            exact ⟨inb_ok hj.1 (by omega), sput_F hp.n1 hp.n6 (by omega) (hN.row j) hv, isEmpty_ne a1, rfl⟩
          unfold outs at hok ⊢
          by_cases c1 : (p.getD t.toNat B0).2.1 < 0
          · have c1' : (p.getD t.toNat B0).2.1 = -1 := by omega
            rw [if_pos c1] at hok ⊢
            rw [show ((p.getD t.toNat B0).2.1 == -1) = true by rw [c1']; rfl, cond_true] at hst
            by_cases c2 : (p.getD t.toNat B0).2.2.1 < 0
            · have c2' : (p.getD t.toNat B0).2.2.1 = -1 := by omega
              rw [if_pos c2]
              refine ⟨q.2, Done.nil i1, hst.trans ?_⟩
              rw [c2', bne_self_eq_false, cond_false]
            · rw [if_neg c2] at hok ⊢
              obtain ⟨hj, hv⟩ := hok (_, _) (List.mem_singleton.2 rfl)
              obtain ⟨p1, p2, p3, p4⟩ := put q.2 i1 _ hv _ hj
              refine ⟨_, Done.one i1 hp.n1 hj hv, hst.trans ?_⟩
              rw [bne_t (show ¬ (p.getD t.toNat B0).2.2.1 = -1 by omega), cond_true, p1, cond_true, p2]
              simp only [Option.bind_some, cond_true, p3, Bool.not_false, p4]
          · rw [if_neg c1] at hok ⊢
            have hti := hrf.inb (i := (p.getD t.toNat B0).2.1) (by omega) b2
            have hlt : (p.getD t.toNat B0).2.1.toNat < (rowF (p.getD t.toNat B0).1 (row X t)).length := by have := hrf.len; omega
            have iv := hrf.get (i := (p.getD t.toNat B0).2.1) (by omega) b2
            rw [beq_f (show ¬ (p.getD t.toNat B0).2.1 = -1 by omega), cond_false, hti, cond_true] at hst
            have eT : (rowF (p.getD t.toNat B0).1 (row X t)).getD (p.getD t.toNat B0).2.1.toNat (0, 0, ()) = (rowF (p.getD t.toNat B0).1 (row X t)).getD (p.getD t.toNat B0).2.1.toNat D0 := rfl
            rw [eT, show ((0, 0, ()) : Sp) = D0 from rfl] at hst
            obtain ⟨T, hT⟩ : ∃ T, T = (rowF (p.getD t.toNat B0).1 (row X t)).getD (p.getD t.toNat B0).2.1.toNat D0 := ⟨_, rfl⟩
            rw [← hT] at hst hok iv ⊢
            unfold isSp at iv
            by_cases c2 : 0 < T.2.1
            · rw [if_pos c2] at hok ⊢
              obtain ⟨hj, hv⟩ := hok (_, _) (List.mem_append_left _ (List.mem_singleton.2 rfl))
              have d1 := Done.one i1 hp.n1 hj hv
              obtain ⟨p1, p2, p3, p4⟩ := put q.2 i1 _ hv _ hj
              rw [show decide (T.2.1 > 0) = true by rw [decide_eq_true_eq]; omega, cond_true] at hst
              by_cases c3 : T.1 = 0
              · rw [if_pos c3] at hok ⊢
                have ev : ((1, T.2) : Sp) = (if 1 > T.1 then 1 else T.1, T.2.1, ()) := by rw [if_pos (by omega)]
                obtain ⟨hj2, hv2⟩ := hok (_, _) (List.mem_append_right _ (List.mem_singleton.2 rfl))
                obtain ⟨r1, r2, r3, r4⟩ := put _ d1.tab _ hv2 _ hj2
                refine ⟨_, d1.app (Done.one d1.tab hp.n1 hj2 hv2) (fun r hr => ?_), hst.trans ?_⟩
                · rw [List.mem_singleton] at hr; subst hr; exact hj.1
                · rw [show (T.1 == 0) = true by rw [c3]; rfl]
                  have rr : inb (p.getD t.toNat B0).2.2.2.1 (List.length q.2) = true := inb_ok hj2.1 (by have := i1.len; omega)
                  simp only [cond_true, ev, p1, p2, Option.bind_some, p3, Bool.not_false, p4, List.length_set, hti, List.set_set, rr, r2, r3, r4]
              · rw [if_neg c3, List.append_nil]
                have ev : (rowF (p.getD t.toNat B0).1 (row X t)).set (p.getD t.toNat B0).2.1.toNat (if 1 > T.1 then 1 else T.1, T.2.1, ()) = rowF (p.getD t.toNat B0).1 (row X t) := by
                  rw [if_neg (by omega), show ((T.1, T.2.1, ()) : Sp) = T from rfl, hT, same_set hlt]
                rw [ev] at p2 p3 p4 ⊢
                refine ⟨_, by rw [ev] at d1; exact d1, hst.trans ?_⟩
                rw [beq_f c3]
                simp only [cond_false, p1, cond_true, p2, Option.bind_some, p3, Bool.not_false, p4]
            · rw [if_neg c2] at hok ⊢
              rw [List.nil_append] at hok ⊢
              rw [show decide (T.2.1 > 0) = false by rw [decide_eq_false_iff_not]; omega, cond_false] at hst
              by_cases c3 : T.1 = 0
              · rw [if_pos c3] at hok ⊢
                obtain ⟨hj2, hv2⟩ := hok (_, _) (List.mem_singleton.2 rfl)
                obtain ⟨p1, p2, p3, p4⟩ := put q.2 i1 _ hv2 _ hj2
                refine ⟨_, Done.one i1 hp.n1 hj2 hv2, hst.trans ?_⟩
                rw [show (T.1 == 0) = true by rw [c3]; rfl]
                simp only [cond_true, p1, p2, Option.bind_some, p3, Bool.not_false, p4]
              · rw [if_neg c3]
                refine ⟨q.2, Done.nil i1, hst.trans ?_⟩
                rw [beq_f c3, cond_false]
        obtain ⟨Y, g1, g2⟩ := key
        obtain ⟨c0, d0⟩ := (g1.le 0 (by omega)).resolve_left i2.1
        refine ⟨(X, Y), by rw [i0]; exact g2, rfl, g1.tab, ⟨c0, i2.2.trans d0⟩, fun Z hZ => g1.lub Z (i3 Z hZ) (hZ.2 t h0 ht hne), fun i a b hri r hr => ?_⟩
        by_cases hit : i = t
        · subst hit; exact g1.in' r hr
        · obtain ⟨c, d⟩ := i4 i a (by omega) hri r hr
          have hbi := hp.ok _ (getD_mem (l := p) (t := i) (d := B0) a (by omega))
          have hjr := (outs_ok hbi (rowF_row (stepsGo_all (blockCode_ok hbi).1) ((hX.row i).resolve_left hri)) r hr).1
          obtain ⟨c2, d2⟩ := (g1.le _ hjr.1).resolve_left c
          exact ⟨c2, d.trans d2⟩) nf 0 (X, (List.replicate p.length ([] : List Sp)).set 0 have') (by omega) (by omega) (by have := hp.p8; omega) ⟨rfl, ht1, ⟨u1, u2⟩, fun Z hZ i i0 => by
      rw [t2 i i0]
      split
      · rename_i h; subst h; exact .inr hZ.1
      · exact .inl rfl, fun i a b => by omega⟩
  refine ⟨q.2, q1, ⟨q2, q4⟩, q3, ?_⟩
  have hlim : (p.length : Int) ≤ (lim : Int) := by have : lim = 4294967296 := rfl; omega
  have hput := sput_F (nf := nf) hp.n1 hp.n6 (by omega) (l := []) (.inl rfl) hh
  rw [show joinR [] have' = have' from rfl] at hput
  simp only [ref_SpanStep_f, ref_SpanStep_p, show (0 : Int) ≤ (p.length : Int) by omega, Int.le_refl, hlim, decide_true, Bool.and_self, cond_true, Int.toNat_natCast, hput, Option.bind_some, List.length_replicate, inb_ok (n := p.length) (t := 0) (by omega) (by omega), isEmpty_ne t3, Bool.not_false]
  rw [show ref_SpanStep_l0 nf p nf X ((List.replicate p.length ([] : List Sp)).set 0 have') 0 = _ from e, ref_SpanStep_l0, ref_SpanStep_b0, q0]
  simp only [Int.lt_irrefl, decide_false, cond_false]

theorem slists_F (hn : 20 ≤ nf) {a b : List Sp} (ha : a.length ≤ 6) : ref_SpanLists_f nf a b = some (decide (a = b), ()) := by
  simp only [ref_SpanLists_f, ref_SpanLists_p]
  by_cases hl : a.length = b.length
  · have key := loop_chk (n := (a.length : Int)) (F := fun fu t => ref_SpanLists_l0 nf a b fu t) (yes := some (true, ())) (no := some (false, ())) (fun t => decide (a.getD t.toNat D0 = b.getD t.toNat D0)) (fun fu t h0 ht => by
      rw [ref_SpanLists_l0, ref_SpanLists_b0, inb_ok h0 ht, inb_ok (n := b.length) h0 (by omega), wrap_step h0 ht (Nat.le_trans ha (by decide))]
      simp only [ht, decide_true, cond_true]
      show (bif !((a.getD t.toNat D0).1 == (b.getD t.toNat D0).1 && ((a.getD t.toNat D0).2.1 == (b.getD t.toNat D0).2.1 && true)) then _ else _) = _
      generalize a.getD t.toNat D0 = x
      generalize b.getD t.toNat D0 = y
      obtain ⟨x1, x2, _⟩ := x
      obtain ⟨y1, y2, _⟩ := y
      by_cases c1 : x1 = y1
      · by_cases c2 : x2 = y2
        · subst c1; subst c2; simp
        · simp [c1, c2, beq_f c2]
      · simp [c1, beq_f c1]) (fun fu => by
      rw [ref_SpanLists_l0, ref_SpanLists_b0]
      simp only [Int.lt_irrefl, decide_false, cond_false]) nf 0 (by omega) (by omega) (by omega)
    rw [hl, bne_self_eq_false, cond_false, key]
    have : chk (fun t => decide (a.getD t.toNat D0 = b.getD t.toNat D0)) ((a.length : Int) - 0).toNat 0 = decide (a = b) := by
      rw [Bool.eq_iff_iff, chk_iff, decide_eq_true_eq]
      constructor
      · intro h
        refine List.ext_getElem hl fun k c d => ?_
        have := of_decide_eq_true (h k (by omega) (by omega))
        rw [Int.toNat_natCast] at this
        simpa [List.getD, c, d] using this
      · intro h i _ _
        rw [h]; simp
    rw [this]
    cases decide (a = b) <;> rfl
  · rw [bne_t (show ¬ (a.length : Int) = (b.length : Int) by omega), cond_true, decide_eq_false (fun e => hl (by rw [e]))]

theorem row_short {m : Nat} (hn6 : n ≤ 6) {X : List (List Sp)} (hX : TabK n m X) (i : Int) : (row X i).length ≤ 6 := by
  rcases hX.row i with h | h
  · rw [h]; simp
  · have := h.len; omega

theorem tab_ext {m : Nat} {X Y : List (List Sp)} (hX : TabK n m X) (hY : TabK n m Y) (h : ∀ i : Int, 0 ≤ i → i < m → row X i = row Y i) : X = Y := by
  have h1 := hX.len
  have h2 := hY.len
  refine List.ext_getElem (by omega) fun k a b => ?_
  have := h k (by omega) (by omega)
  unfold row at this
  rw [Int.toNat_natCast] at this
  simpa [List.getD, a, b] using this

theorem spans_l2 (hp : Made n p nf) (hn : 300 ≤ nf) {have' : List Sp} {X Y : List (List Sp)} (hX : TabK n p.length X) (hY : TabK n p.length Y) (g0 : List (List Sp) → Option (List (List Sp) × Unit)) :
    ref_Spans_l2 nf p have' g0 nf X Y true 0 = if X = Y then some (X, ()) else g0 Y := by
  have hp8 := hp.p8
  have hlX := hX.len
  have hlY := hY.len
  obtain ⟨fu', q, ⟨q1, q2, q3⟩, e⟩ := loop_inv (n := (p.length : Int)) (F := fun fu t (q : List (List Sp) × List (List Sp) × Bool) => ref_Spans_l2 nf p have' g0 fu q.1 q.2.1 q.2.2 t)
    (fun t q => q.1 = X ∧ q.2.1 = Y ∧ (q.2.2 = true ↔ ∀ i : Int, 0 ≤ i → i < t → row X i = row Y i)) (fun fu t q h0 ht hI => by
      obtain ⟨i1, i2, i3⟩ := hI
      have hwp := wrap_step h0 ht (Nat.le_trans hp8 (by decide))
      have hst : ref_Spans_l2 nf p have' g0 (fu + 1) q.1 q.2.1 q.2.2 t = ref_Spans_b2 nf p have' g0 (ref_Spans_l2 nf p have' g0 fu) q.1 q.2.1 q.2.2 t := rfl
      have hsl : ref_SpanLists_f nf (X.getD t.toNat []) (Y.getD t.toNat []) = some (decide (row X t = row Y t), ()) := slists_F (by omega) (row_short hp.n6 hX t)
      unfold ref_Spans_b2 at hst
      rw [i1, i2] at hst
      simp only [ht, decide_true, cond_true, inb_ok (n := X.length) h0 (by omega), inb_ok (n := Y.length) h0 (by omega), hsl, Option.bind_some, hwp] at hst
      refine ⟨(X, Y, q.2.2 && decide (row X t = row Y t)), ?_, rfl, rfl, ?_⟩
      · rw [i1, i2, hst]
        cases q.2.2 <;> rfl
      · rw [Bool.and_eq_true, i3, decide_eq_true_eq]
        constructor
        · rintro ⟨a, b⟩ i i0 i1
          by_cases hit : i = t
          · subst hit; exact b
          · exact a i i0 (by omega)
        · intro h
          exact ⟨fun i a b => h i a (by omega), h t h0 (by omega)⟩) nf 0 (X, Y, true) (by omega) (by omega) (by omega) ⟨rfl, rfl, by simp; intro i a b; omega⟩
  rw [show ref_Spans_l2 nf p have' g0 nf X Y true 0 = _ from e, ref_Spans_l2, ref_Spans_b2, q1, q2]
  simp only [Int.lt_irrefl, decide_false, cond_false]
  by_cases hc : X = Y
  · rw [if_pos hc, q3.2 (fun i _ _ => by rw [hc]), cond_true]
  · rw [if_neg hc]
    cases hq : q.2.2 with
    | false => rfl
    | true => exact absurd (tab_ext hX hY fun i a b => q3.1 hq i a b) hc

theorem spans_l0 (hp : Made n p nf) (hn : 300 ≤ nf) {have' : List Sp} (hh : Row n have') : ∀ (fu : Nat) (X : List (List Sp)), TabK n p.length X → (∀ N, Takes p have' X N → Lek X N) → (∀ Z, TabK n p.length Z → Takes p have' Z Z → Lek X Z) → 12298 ≤ fu + rank X →
    ∃ R, Least n p have' R ∧ ref_Spans_l0 nf p have' fu X = some (R, ())
  | 0, X, hX, _, _, hfu => by
    have := rank_top hp.n6 hX.rows
    have := hX.len
    have := hp.p8
    omega
  | fu + 1, X, hX, hI, hL, hfu => by
    obtain ⟨Y, g1, g2, g3, g4⟩ := sstep_F hp hn hh hX
    have hst : ref_Spans_l0 nf p have' (fu + 1) X = if X = Y then some (X, ()) else ref_Spans_l0 nf p have' fu Y := by
      rw [ref_Spans_l0, ref_Spans_b0, g4]
      simp only [Option.bind_some]
      exact spans_l2 hp hn hX g1 (fun in' => ref_Spans_l0 nf p have' fu in')
    rw [hst]
    by_cases hc : X = Y
    · rw [if_pos hc]
      rw [← hc] at g2
      exact ⟨X, ⟨hX, g2, hL⟩, rfl⟩
    · rw [if_neg hc]
      have hXY := hI Y g2
      have hrk := rank_le (X := X) (Y := Y) hX.rows (by rw [hX.len, g1.len]) hXY
      have hlt : rank X < rank Y := by
        rcases Nat.lt_or_ge (rank X) (rank Y) with h | h
        · exact h
        · exact absurd (hrk.2 (by omega)) hc
      exact spans_l0 hp hn hh fu Y g1 (fun N hN => g3 N (hN.mono hp hX g1 hXY)) (fun Z hZ hP => g3 Z (hP.mono hp hX hZ (hL Z hZ hP))) (by omega)

theorem spans_F (hp : Made n p nf) (hn : 12400 ≤ nf) {have' : List Sp} (hh : Row n have') : ∃ R, Least n p have' R ∧ ref_Spans_f nf p have' = some (R, ()) := by
  have hp8 := hp.p8
  have hlim : (p.length : Int) ≤ (lim : Int) := by have : lim = 4294967296 := rfl; omega
  obtain ⟨R, r1, r2⟩ := spans_l0 hp (by omega) hh nf (List.replicate p.length []) ⟨by simp, fun r hr => .inl (List.mem_replicate.1 hr).2⟩ (fun N _ i _ => .inl (empty_row _ i)) (fun Z _ _ i _ => .inl (empty_row _ i)) (by omega)
  refine ⟨R, r1, ?_⟩
  simp only [ref_Spans_f, ref_Spans_p, show (0 : Int) ≤ (p.length : Int) by omega, Int.le_refl, hlim, decide_true, Bool.and_self, cond_true, Int.toNat_natCast]
  exact r2
end Go.Proofs.Ytokjogplnoeicaa
