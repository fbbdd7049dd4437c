/- What is known of variables: the document's rounds. -/
import Derived.Test.YtokjogplnoeicaaKnownWalk
namespace Go.Proofs.Ytokjogplnoeicaa
open Go Go.Ab S

variable {nf : Nat} {n : Int} {p : List Blk}

theorem rbehind_F {m : Int} (hn6 : n ≤ 6) {b : Blk} (hb : blockCode n m b = 0) (hm : b.1.length ≤ maxLen) (hf : b.1.length < nf) {v : List Int} (hv : Row n v) : ref_Behind_f nf b.1 v = some (rowF b.1 v, ()) := by
  have hsc := stepsGo_all (blockCode_ok hb).1
  obtain ⟨fu', q, ⟨q1, q2⟩, e⟩ := loop_inv (n := (b.1.length : Int)) (F := fun fu t (q : List Int) => ref_Behind_l0 nf b.1 fu q t) (fun t q => q = rowF (b.1.take t.toNat) v ∧ Row n q) (fun fu t q h0 ht hI => by
    obtain ⟨i1, i2⟩ := hI
    have hs := getD_mem (d := ((0, 0, 0, 0, 0, ()) : Step6)) h0 ht
    have hc := hsc _ hs
    obtain ⟨_, _, _, _, ⟨to0, to1⟩, _⟩ := stepCode_ok (op := (b.1.getD t.toNat (0, 0, 0, 0, 0, ())).1) (to := (b.1.getD t.toNat (0, 0, 0, 0, 0, ())).2.1) (a := (b.1.getD t.toNat (0, 0, 0, 0, 0, ())).2.2.1) (b := (b.1.getD t.toNat (0, 0, 0, 0, 0, ())).2.2.2.1) (k := (b.1.getD t.toNat (0, 0, 0, 0, 0, ())).2.2.2.2.1) (u := ()) hc
    refine ⟨q.set (b.1.getD t.toNat (0, 0, 0, 0, 0, ())).2.1.toNat (mkV (b.1.getD t.toNat (0, 0, 0, 0, 0, ())) q), ?_, ?_, i2.set _ (mkV_isK i2 hc)⟩
    · rw [ref_Behind_l0, ref_Behind_b0, inb_ok h0 ht, wrap_step h0 ht hm, (makes_F i2 hc).2, i2.inb to0 to1]
      simp only [ht, decide_true, cond_true, Option.bind_some]
    · rw [rowF_take h0 ht, ← i1]) nf 0 v (by omega) (by omega) (by omega) ⟨by simp [rowF], hv⟩
  rw [Int.toNat_natCast, List.take_length] at q1
  have hble : (0 + v.length).ble lim = true := ble_ok (by have := hv.len; omega)
  simp only [ref_Behind_f, ref_Behind_p, List.length_nil, hble, bimp, Bool.not_false, Bool.true_or, Bool.true_and, cond_true, List.nil_append]
  rw [show ref_Behind_l0 nf b.1 nf v 0 = _ from e, ref_Behind_l0, ref_Behind_b0, q1]
  simp only [Int.lt_irrefl, decide_false, cond_false]

theorem goings_F {m : Int} (hm0 : 0 ≤ m) {b : Blk} (hb : blockCode n m b = 0) {v : List Int} (hv : Row n v) : ref_Goings_f nf b v = some (goes b v, ()) := by
  obtain ⟨_, b1, b2, b3, b4⟩ := blockCode_ok hb
  simp only [ref_Goings_f, ref_Goings_p]
  unfold goes
  by_cases c1 : b.2.1 = -1
  · by_cases c2 : b.2.2.1 = -1
    · rw [if_pos ⟨by omega, by omega⟩]; simp [c1, c2]
    · rw [if_neg (fun h => by omega), if_pos (.inl (by omega))]; simp [c1, beq_f c2]
  · have hi := hv.inb (i := b.2.1) (by omega) b2
    rw [if_neg (fun h => by omega)]
    by_cases c2 : 0 < v.getD b.2.1.toNat 0
    · rw [if_pos (.inr c2)]
      simp only [beq_f c1, cond_false, hi, cond_true, gt_iff_lt, c2, decide_true]
    · rw [if_neg (fun h => h.elim (fun h => by omega) c2)]
      by_cases c3 : v.getD b.2.1.toNat 0 = 0
      · rw [if_pos c3]
        simp only [beq_f c1, cond_false, hi, cond_true, gt_iff_lt, c3, beq_self_eq_true, Int.lt_irrefl, decide_false]
      · rw [if_neg c3]
        simp only [beq_f c1, cond_false, hi, cond_true, gt_iff_lt, c2, decide_false, beq_f c3]

theorem known_l6 (hn1 : 1 ≤ n) (hn6 : n ≤ 6) (hn : 20 ≤ nf) {m : Nat} {X : List (List Int)} (hX : TabK n m X) {v to' : List Int} (hv : Row n v) {t51 : Int} (hj : 0 ≤ to'.getD t51.toNat 0 ∧ to'.getD t51.toNat 0 < m) (hr : row X (to'.getD t51.toNat 0) ≠ []) {have' : List Int} (i : Int) (r2 : List Int × Unit) (in' : List (List Int)) (g4 : List (List Int) → List (List Int) → List Int → List Int → Int → Option (List (List Int) × Unit)) (g2 : List (List Int) → List (List Int) → Int → Option (List (List Int) × Unit)) (g0 : List (List Int) → Option (List (List Int) × Unit)) :
    ref_Known_l6 nf p have' i to' t51 r2 g4 g2 g0 nf in' X v 0 to' = g4 in' (updK X (to'.getD t51.toNat 0) v) v to' (IntKind.i64.wrap (t51 + 1)) := by
  obtain ⟨j, hjd⟩ : ∃ j, j = to'.getD t51.toNat 0 := ⟨_, rfl⟩
  rw [← hjd] at hj hr ⊢
  have hlX := hX.len
  have hrow := (hX.row j).resolve_left hr
  obtain ⟨r, hrd⟩ : ∃ r, r = row X j := ⟨_, rfl⟩
  rw [← hrd] at hr hrow
  have hl : r.length = v.length := by have := hrow.len; have := hv.len; omega
  have hvl := hv.len
  obtain ⟨fu', q, ⟨w, q1, q2, q3⟩, e⟩ := loop_inv (n := (v.length : Int)) (F := fun fu t (q : List (List Int)) => ref_Known_l6 nf p have' i to' t51 r2 g4 g2 g0 fu in' q v t to')
    (fun t q => ∃ w : List Int, q = X.set j.toNat w ∧ w.length = v.length ∧ ∀ k : Nat, k < v.length → w.getD k 0 = if (k : Int) < t then (if r.getD k 0 = v.getD k 0 then r.getD k 0 else -1) else r.getD k 0) (fun fu t q h0 ht hI => by
      obtain ⟨w, i1, i2, i3⟩ := hI
      obtain ⟨t, rfl⟩ : ∃ k : Nat, t = (k : Int) := ⟨t.toNat, by omega⟩
      have hwt := i3 t (by omega)
      rw [if_neg (by omega)] at hwt
      have hwp := wrap_step h0 ht (Nat.le_trans (show v.length ≤ 6 by omega) (by decide))
      have hst : ref_Known_l6 nf p have' i to' t51 r2 g4 g2 g0 (fu + 1) in' q v t to' = ref_Known_b6 nf p have' i to' t51 r2 g4 g2 g0 (ref_Known_l6 nf p have' i to' t51 r2 g4 g2 g0 fu) in' q v t to' := rfl
      have hq1 : inb j q.length = true := by rw [i1, List.length_set]; exact inb_ok hj.1 (by omega)
      have hqj : q.getD j.toNat [] = w := by rw [i1, getD_upd (by omega), if_pos rfl]
      have hin : inb (t : Int) w.length = true := inb_ok h0 (by omega)
      unfold ref_Known_b6 at hst
      rw [← hjd] at hst
      simp only [ht, decide_true, cond_true, inb_ok h0 ht, hq1, hqj, hin, Int.toNat_natCast, hwt, hwp] at hst
      have next : ∀ k : Nat, k < v.length → (if (k : Int) < (t : Int) + 1 then (if r.getD k 0 = v.getD k 0 then r.getD k 0 else -1) else r.getD k 0) = if k = t then (if r.getD t 0 = v.getD t 0 then r.getD t 0 else -1) else w.getD k 0 := fun k hk => by
        by_cases hkt : k = t
        · subst hkt; rw [if_pos (by omega), if_pos rfl]
        · rw [if_neg hkt, i3 k hk]
          by_cases hlt : (k : Int) < t
          · rw [if_pos hlt, if_pos (by omega)]
          · rw [if_neg hlt, if_neg (by omega)]
      by_cases c1 : r.getD t 0 = v.getD t 0
      · rw [c1, bne_self_eq_false, cond_false] at hst
        refine ⟨q, hst, w, i1, i2, fun k hk => ?_⟩
        rw [next k hk]
        by_cases hkt : k = t
        · subst hkt; rw [if_pos rfl, if_pos c1, hwt]
        · rw [if_neg hkt]
      · rw [bne_t c1, cond_true] at hst
        refine ⟨q.set j.toNat (w.set t (-1)), hst, w.set t (-1), ?_, by rw [List.length_set]; exact i2, fun k hk => ?_⟩
        · rw [i1, List.set_set]
        · rw [next k hk, getD_upd (by omega), if_neg c1]) nf 0 X (by omega) (by omega) (by omega) ⟨r, by
      rw [hrd]
      unfold row
      rw [getD_nat X j [] hj.1 (by omega), List.set_getElem_self], hl, fun k hk => by rw [if_neg (by omega)]⟩
  have hw : w = joinR r v := by
    refine List.ext_getElem (by rw [q2, joinR_len hr hl, hl]) fun k a b => ?_
    have h1 := q3 k (by omega)
    rw [if_pos (by omega), ← joinR_get hr hl (by omega)] at h1
    rw [show w.getD k 0 = w[k] by simp [List.getD, a], show (joinR r v).getD k 0 = (joinR r v)[k] by simp [List.getD, b]] at h1
    exact h1
  have hup : updK X j v = X.set j.toNat w := by unfold updK; rw [← hrd, hw]
  rw [show ref_Known_l6 nf p have' i to' t51 r2 g4 g2 g0 nf in' X v 0 to' = _ from e, ref_Known_l6, ref_Known_b6, q1, ← hup]
  simp only [Int.lt_irrefl, decide_false, cond_false]

theorem known_l4 (hn1 : 1 ≤ n) (hn6 : n ≤ 6) (hn : 20 ≤ nf) {m : Nat} {X : List (List Int)} (hX : TabK n m X) {v to' : List Int} (hv : Row n v) (hto : ∀ j ∈ to', 0 ≤ j ∧ j < m) (htl : to'.length ≤ 2) {have' : List Int} (i : Int) (in' : List (List Int)) (g2 : List (List Int) → List (List Int) → Int → Option (List (List Int) × Unit)) (g0 : List (List Int) → Option (List (List Int) × Unit)) :
    ∃ Y, TabK n m Y ∧ Lek X Y ∧ (∀ Z, Lek X Z → (∀ j ∈ to', row Z j ≠ [] ∧ rle v (row Z j)) → Lek Y Z) ∧ (∀ j ∈ to', row Y j ≠ [] ∧ rle v (row Y j)) ∧
      ref_Known_l4 nf p have' i (to', ()) g2 g0 nf in' X v to' 0 = g2 in' Y (IntKind.i64.wrap (i + 1)) := by
  obtain ⟨fu', q, ⟨q1, q2, q3, q4⟩, e⟩ := loop_inv (n := (to'.length : Int)) (F := fun fu t (q : List (List Int)) => ref_Known_l4 nf p have' i (to', ()) g2 g0 fu in' q v to' t)
    (fun t q => TabK n m q ∧ Lek X q ∧ (∀ Z, Lek X Z → (∀ j ∈ to', row Z j ≠ [] ∧ rle v (row Z j)) → Lek q Z) ∧ ∀ k : Nat, (k : Int) < t → row q (to'.getD k 0) ≠ [] ∧ rle v (row q (to'.getD k 0))) (fun fu t q h0 ht hI => by
      obtain ⟨i1, i0, i2, i3⟩ := hI
      have hjm := getD_mem (d := (0 : Int)) h0 ht
      have hj := hto _ hjm
      have hlX := i1.len
      have hjl : to'.getD t.toNat 0 < q.length := by omega
      have hwp := wrap_step h0 ht (Nat.le_trans htl (by decide))
      have hin : inb (to'.getD t.toNat 0) q.length = true := inb_ok hj.1 hjl
      have key : ∀ (X1 : List (List Int)), TabK n m X1 → row X1 (to'.getD t.toNat 0) ≠ [] → Lek X X1 → (∀ Z, Lek X Z → (∀ j ∈ to', row Z j ≠ [] ∧ rle v (row Z j)) → Lek X1 Z) → (∀ k : Nat, (k : Int) < t → row X1 (to'.getD k 0) ≠ [] ∧ rle v (row X1 (to'.getD k 0))) →
          ∃ s' : List (List Int), ref_Known_l6 nf p have' i to' t (to', ()) (fun in'3 next2 v t49 t51 => ref_Known_l4 nf p have' i (to', ()) g2 g0 fu in'3 next2 v t49 t51) g2 g0 nf in' X1 v 0 to' = ref_Known_l4 nf p have' i (to', ()) g2 g0 fu in' s' v to' (t + 1) ∧
            TabK n m s' ∧ Lek X s' ∧ (∀ Z, Lek X Z → (∀ j ∈ to', row Z j ≠ [] ∧ rle v (row Z j)) → Lek s' Z) ∧ ∀ k : Nat, (k : Int) < t + 1 → row s' (to'.getD k 0) ≠ [] ∧ rle v (row s' (to'.getD k 0)) := fun X1 h1 hne hL hS hK => by
        have hl1 : to'.getD t.toNat 0 < X1.length := by have := h1.len; omega
        have g4 := known_l6 (nf := nf) (p := p) hn1 hn6 hn h1 hv hj hne (have' := have') i (to', ()) in' (fun in'3 next2 v t49 t51 => ref_Known_l4 nf p have' i (to', ()) g2 g0 fu in'3 next2 v t49 t51) g2 g0
        rw [hwp] at g4
        have hle1 := updK_le h1 hv hn1 hj.1 hl1
        refine ⟨_, g4, updK_tab h1 hv, hL.trans hle1, fun Z hZ1 hZ2 => updK_lub hj.1 hl1 (hS Z hZ1 hZ2) (hZ2 _ hjm), fun k hk => ?_⟩
        by_cases hkt : (k : Int) < t
        · obtain ⟨a, b⟩ := hK k hkt
          have hkm := hto _ (getD_mem (l := to') (t := (k : Int)) (d := 0) (by omega) (by omega))
          rw [Int.toNat_natCast] at hkm
          obtain ⟨c, d⟩ := (hle1 _ hkm.1).resolve_left a
          exact ⟨c, b.trans d⟩
        · have : k = t.toNat := by omega
          subst this
          exact updK_in h1 hv hn1 hj.1 hl1
      have hst : ref_Known_l4 nf p have' i (to', ()) g2 g0 (fu + 1) in' q v to' t = ref_Known_b4 nf (fun _ _ _ p3 p4 _ v0 v1 v2 v3 v4 => ref_Known_l6 nf p have' i p3 p4 (to', ()) (fun in'3 next2 v t49 t51 => ref_Known_l4 nf p have' i (to', ()) g2 g0 fu in'3 next2 v t49 t51) g2 g0 nf v0 v1 v2 v3 v4) p have' i (to', ()) g2 g0 (ref_Known_l4 nf p have' i (to', ()) g2 g0 fu) in' q v to' t := rfl
      have hble : (0 + v.length).ble lim = true := ble_ok (by have := hv.len; omega)
      have hve : List.isEmpty v = false := by
        cases hq : v with
        | nil => have := hv.len; rw [hq] at this; simp at this; omega
        | cons => rfl
      unfold ref_Known_b4 at hst
      simp only [ht, decide_true, cond_true, inb_ok h0 ht, hin, List.length_nil, hble, bimp, hve, Bool.not_false, Bool.or_true, Bool.true_or, Bool.and_self, List.nil_append] at hst
      have erow : q.getD (to'.getD t.toNat 0).toNat [] = row q (to'.getD t.toNat 0) := rfl
      rw [erow] at hst
      rw [hst]
      by_cases hne : row q (to'.getD t.toNat 0) = []
      · rw [hne, List.isEmpty_nil, cond_true]
        have hset : q.set (to'.getD t.toNat 0).toNat v = updK q (to'.getD t.toNat 0) v := by unfold updK; rw [hne]; rfl
        rw [hset]
        obtain ⟨u1, u2⟩ := updK_in (X := q) i1 hv hn1 hj.1 hjl
        have hle := updK_le i1 hv hn1 hj.1 hjl
        refine key _ (updK_tab i1 hv) u1 (i0.trans hle) (fun Z hZ1 hZ2 => updK_lub hj.1 hjl (i2 Z hZ1 hZ2) (hZ2 _ hjm)) fun k hk => ?_
        obtain ⟨a, b⟩ := i3 k hk
        have hkm := hto _ (getD_mem (l := to') (t := (k : Int)) (d := 0) (by omega) (by omega))
        rw [Int.toNat_natCast] at hkm
        obtain ⟨c, d⟩ := (hle _ hkm.1).resolve_left a
        exact ⟨c, b.trans d⟩
      · have he : List.isEmpty (row q (to'.getD t.toNat 0)) = false := by
          cases hq : row q (to'.getD t.toNat 0) with
          | nil => exact absurd hq hne
          | cons => rfl
        rw [he, cond_false]
        exact key q i1 hne i0 i2 i3) nf 0 X (by omega) (by omega) (by omega) ⟨hX, Lek.refl X, fun Z h _ => h, fun k hk => by omega⟩
  refine ⟨q, q1, q2, q3, fun j hj => ?_, ?_⟩
  · obtain ⟨k, hk, rfl⟩ := List.mem_iff_getElem.1 hj
    have := q4 k (by omega)
    rwa [show to'.getD k 0 = to'[k] by simp [List.getD, hk]] at this
  · rw [show ref_Known_l4 nf p have' i (to', ()) g2 g0 nf in' X v to' 0 = _ from e, ref_Known_l4, ref_Known_b4]
    simp only [Int.lt_irrefl, decide_false, cond_false]

theorem lists_F {m : Nat} (hn6 : n ≤ 6) (hm : m ≤ 8) (hn : 20 ≤ nf) {X Y : List (List Int)} (hX : TabK n m X) (hY : TabK n m Y) : ref_Lists_f nf X Y = some (decide (X = Y), ()) := by
  have hlX := hX.len
  have hlY := hY.len
  have hrl : ∀ {X : List (List Int)} (_ : TabK n m X) (i : Int), (row X i).length ≤ 6 := fun hX i => by
    rcases hX.row i with h | h
    · rw [h]; simp
    · have := h.len; omega
  have key := loop_chk (n := (m : Int)) (F := fun fu t => ref_Lists_l0 nf X Y fu t) (yes := some (true, ())) (no := some (false, ())) (fun t => decide (row X t = row Y t)) (fun fu t h0 ht => by
    have hi : ref_Ints_f nf (X.getD t.toNat []) (Y.getD t.toNat []) = some (decide (row X t = row Y t), ()) := ints_F _ _ (Nat.le_trans (hrl hX t) (by decide)) (by have := hrl hX t; show (row X t).length < nf; omega)
    rw [ref_Lists_l0, ref_Lists_b0, hlX, hlY, inb_ok h0 ht, wrap_step h0 ht (Nat.le_trans hm (by decide)), hi]
    simp only [ht, decide_true, cond_true, Option.bind_some]
    cases decide (row X t = row Y t) <;> rfl) (fun fu => by
    rw [ref_Lists_l0, ref_Lists_b0, hlX]
    simp only [Int.lt_irrefl, decide_false, cond_false]) nf 0 (by omega) (by omega) (by omega)
  simp only [ref_Lists_f, ref_Lists_p, hlX, hlY, bne_self_eq_false, cond_false]
  rw [key]
  have : chk (fun t => decide (row X t = row Y t)) ((m : Int) - 0).toNat 0 = decide (X = Y) := by
    rw [Bool.eq_iff_iff, chk_iff, decide_eq_true_eq]
    constructor
    · intro h
      refine List.ext_getElem (by omega) fun k a b => ?_
      have := of_decide_eq_true (h k (by omega) (by omega))
      unfold row at this
      rw [Int.toNat_natCast] at this
      simpa [List.getD, a, b] using this
    · intro h i _ _
      rw [h]; simp
  rw [this]
  cases decide (X = Y) <;> rfl

theorem known_l2 (hp : Made n p nf) (hn : 20 ≤ nf) {have' : List Int} (hh : Row n have') {X : List (List Int)} (hX : TabK n p.length X) (g0 : List (List Int) → Option (List (List Int) × Unit)) :
    ∃ Y, TabK n p.length Y ∧ Takes p have' X Y ∧ (∀ Z, Takes p have' X Z → Lek Y Z) ∧ ref_Known_l2 nf p have' g0 nf X ((List.replicate p.length ([] : List Int)).set 0 have') 0 = if X = Y then some (X, ()) else g0 Y := by
  have hp8 := hp.p8
  obtain ⟨t1, t2, t3⟩ := start_row hp hh
  have hr0 : row ((List.replicate p.length ([] : List Int)).set 0 have') 0 = have' := by rw [t2 0 (by omega), if_pos rfl]
  obtain ⟨fu', q, ⟨q1, q2, q3, q4⟩, e⟩ := loop_inv (n := (p.length : Int)) (F := fun fu t (q : List (List Int)) => ref_Known_l2 nf p have' g0 fu X q t)
    (fun t q => TabK n p.length q ∧ (row q 0 ≠ [] ∧ rle have' (row q 0)) ∧ (∀ Z, Takes p have' X Z → Lek q Z) ∧
      ∀ i : Int, 0 ≤ i → i < t → row X i ≠ [] → ∀ j ∈ goes (p.getD i.toNat B0) (rowF (p.getD i.toNat B0).1 (row X i)), row q j ≠ [] ∧ rle (rowF (p.getD i.toNat B0).1 (row X i)) (row q j)) (fun fu t q h0 ht hI => by
      obtain ⟨i1, i2, i3, i4⟩ := hI
      have hbm := getD_mem (d := B0) h0 ht
      have hb := hp.ok _ hbm
      obtain ⟨f1, f2⟩ := hp.fit _ hbm
      have hsc := stepsGo_all (blockCode_ok hb).1
      have hwp := wrap_step h0 ht (Nat.le_trans hp8 (by decide))
      have hlX := hX.len
      have hst : ref_Known_l2 nf p have' g0 (fu + 1) X q t = ref_Known_b2 nf (fun _ _ p2 p3 v0 v1 v2 v3 v4 => ref_Known_l4 nf p have' p2 p3 (fun in'2 next i => ref_Known_l2 nf p have' g0 fu in'2 next i) g0 nf v0 v1 v2 v3 v4) p have' g0 (ref_Known_l2 nf p have' g0 fu) X q t := rfl
      have hin : inb t X.length = true := inb_ok h0 (by omega)
      have erow : X.getD t.toNat [] = row X t := rfl
      unfold ref_Known_b2 at hst
      simp only [ht, decide_true, cond_true, inb_ok h0 ht, hin, erow, hwp] at hst
      by_cases hne : row X t = []
      · rw [hne, List.isEmpty_nil, cond_true] at hst
        refine ⟨q, hst, i1, i2, i3, fun i a b hri => ?_⟩
        by_cases hit : i = t
        · subst hit; exact absurd hne hri
        · exact i4 i a (by omega) hri
      · have he : List.isEmpty (row X t) = false := by
          cases hq : row X t with
          | nil => exact absurd hq hne
          | cons => rfl
        have hrow := (hX.row t).resolve_left hne
        have hrf := rowF_row hsc hrow
        rw [he, cond_false, rbehind_F (nf := nf) hp.n6 hb f1 f2 hrow] at hst
        simp only [Option.bind_some] at hst
        rw [goings_F (by omega) hb hrf] at hst
        simp only [Option.bind_some] at hst
        obtain ⟨Y, g1, g2, g3, g4, g5⟩ := known_l4 (nf := nf) (p := p) hp.n1 hp.n6 hn i1 hrf (goes_in hb) (goes_len _ _) (have' := have') t X (fun in'2 next i => ref_Known_l2 nf p have' g0 fu in'2 next i) g0
        rw [hwp] at g5
        obtain ⟨c0, d0⟩ := (g2 0 (by omega)).resolve_left i2.1
        refine ⟨Y, hst.trans g5, g1, ⟨c0, i2.2.trans d0⟩, fun Z hZ => g3 Z (i3 Z hZ) (hZ.2 t h0 ht hne), fun i a b hri j hj => ?_⟩
        by_cases hit : i = t
        · subst hit; exact g4 j hj
        · obtain ⟨c, d⟩ := i4 i a (by omega) hri j hj
          have hjr := goes_in (hp.ok _ (getD_mem (d := B0) a (by omega))) j hj
          obtain ⟨c2, d2⟩ := (g2 j hjr.1).resolve_left c
          exact ⟨c2, d.trans d2⟩) nf 0 ((List.replicate p.length ([] : List Int)).set 0 have') (by omega) (by omega) (by omega) ⟨t1, ⟨by rw [hr0]; exact t3, by rw [hr0]; exact rle.refl _⟩, fun Z hZ i i0 => by
      rw [t2 i i0]
      split
      · rename_i h; subst h; exact .inr hZ.1
      · exact .inl rfl, fun i a b => by omega⟩
  refine ⟨q, q1, ⟨q2, q4⟩, q3, ?_⟩
  rw [show ref_Known_l2 nf p have' g0 nf X ((List.replicate p.length ([] : List Int)).set 0 have') 0 = _ from e, ref_Known_l2, ref_Known_b2, lists_F hp.n6 hp8 hn hX q1]
  simp only [Int.lt_irrefl, decide_false, cond_false, Option.bind_some]
  by_cases hc : X = q
  · rw [if_pos hc, decide_eq_true hc, cond_true]
  · rw [if_neg hc, decide_eq_false hc, cond_false]

theorem known_l0 (hp : Made n p nf) (hn : 20 ≤ nf) {have' : List Int} (hh : Row n have') : ∀ (fu : Nat) (X : List (List Int)), TabK n p.length X → (∀ N, Takes p have' X N → Lek X N) → (∀ Z, TabK n p.length Z → Takes p have' Z Z → Lek X Z) → 58 ≤ fu + rank X →
    ∃ R, Least n p have' R ∧ ref_Known_l0 nf p have' fu X = some (R, ())
  | 0, X, hX, _, _, hfu => by
    have := rank_top hp.n6 hX.rows
    have := hX.len
    have := hp.p8
    omega
  | fu + 1, X, hX, hI, hL, hfu => by
    have hp1 := hp.p1
    have hp8 := hp.p8
    obtain ⟨Y, g1, g2, g3, g4⟩ := known_l2 hp hn hh hX (fun in' => ref_Known_l0 nf p have' fu in')
    obtain ⟨_, _, t3⟩ := start_row hp hh
    have hlim : (p.length : Int) ≤ (lim : Int) := by have : lim = 4294967296 := rfl; omega
    have hble : (0 + have'.length).ble lim = true := ble_ok (by have := hh.len; have := hp.n6; omega)
    have he : List.isEmpty have' = false := by
      cases hq : have' with
      | nil => exact absurd hq t3
      | cons => rfl
    have hst : ref_Known_l0 nf p have' (fu + 1) X = if X = Y then some (X, ()) else ref_Known_l0 nf p have' fu Y := by
      rw [← g4, ref_Known_l0, ref_Known_b0]
      simp only [show (0 : Int) ≤ (p.length : Int) by omega, Int.le_refl, hlim, decide_true, Bool.and_self, cond_true, Int.toNat_natCast, List.length_replicate, inb_ok (n := p.length) (t := 0) (by omega) (by omega), List.length_nil, hble, bimp, he, Bool.not_false, Bool.true_or, Bool.or_true, List.nil_append]
    rw [hst]
    by_cases hc : X = Y
    · rw [if_pos hc]
      rw [← hc] at g2
      exact ⟨X, ⟨hX, g2, hL⟩, rfl⟩
    · rw [if_neg hc]
      have hXY := hI Y g2
      have hrk := rank_le (X := X) (Y := Y) (by rw [hX.len, g1.len]) hXY
      have hlt : rank X < rank Y := by
        rcases Nat.lt_or_ge (rank X) (rank Y) with h | h
        · exact h
        · exact absurd (hrk.2 (by omega)) hc
      exact known_l0 hp hn hh fu Y g1 (fun N hN => g3 N (hN.mono hXY)) (fun Z hZ hP => g3 Z (hP.mono (hL Z hZ hP))) (by omega)

theorem known_F (hp : Made n p nf) (hn : 100 ≤ nf) {have' : List Int} (hh : Row n have') : ∃ R, Least n p have' R ∧ ref_Known_f nf p have' = some (R, ()) := by
  have hp8 := hp.p8
  have hlim : (p.length : Int) ≤ (lim : Int) := by have : lim = 4294967296 := rfl; omega
  have hempty : ∀ i : Int, row (List.replicate p.length ([] : List Int)) i = [] := fun i => by
    unfold row
    rw [List.getD_eq_getElem?_getD, List.getElem?_replicate]
    split <;> rfl
  obtain ⟨R, r1, r2⟩ := known_l0 hp (by omega) hh nf (List.replicate p.length []) ⟨by simp, fun r hr => .inl (List.mem_replicate.1 hr).2⟩ (fun N _ i _ => .inl (hempty i)) (fun Z _ _ i _ => .inl (hempty i)) (by omega)
  refine ⟨R, r1, ?_⟩
  simp only [ref_Known_f, ref_Known_p, show (0 : Int) ≤ (p.length : Int) by omega, Int.le_refl, hlim, decide_true, Bool.and_self, cond_true, Int.toNat_natCast]
  exact r2

theorem least_one {have' : List Int} {R S : List (List Int)} (h1 : Least n p have' R) (h2 : Least n p have' S) : R = S := by
  have a := rank_le (X := R) (Y := S) (by rw [h1.1.len, h2.1.len]) (h1.2.2 S h2.1 h2.2.1)
  have b := rank_le (X := S) (Y := R) (by rw [h1.1.len, h2.1.len]) (h2.2.2 R h1.1 h1.2.1)
  exact a.2 (by omega)
end Go.Proofs.Ytokjogplnoeicaa
