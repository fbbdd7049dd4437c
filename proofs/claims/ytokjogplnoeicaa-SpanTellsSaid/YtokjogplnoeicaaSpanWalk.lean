/- Spans of variables: the program's rounds. -/
import Derived.Test.YtokjogplnoeicaaSpanK
namespace Go.Proofs.Ytokjogplnoeicaa
open Go Go.Ab S

variable {nf : Nat} {n : Int} {p : List Blk}

theorem sclone_F (s : List Sp) (hl : s.length ≤ 100) : slices_Clone_f nf s = some (s, ()) := by
  have hb := ble_ok (n := s.length) (by omega)
  cases s with
  | nil => simp [slices_Clone_f, slices_Clone_p, bimp, ble_ok, both_self]
  | cons a r => simp only [List.length_cons] at hb; simp [slices_Clone_f, slices_Clone_p, bimp, hb]

theorem rowF_take {code : List Step6} {t : Int} (h0 : 0 ≤ t) (h1 : t < code.length) (v : List Sp) : rowF (code.take (t + 1).toNat) v = (rowF (code.take t.toNat) v).set (code.getD t.toNat (0, 0, 0, 0, 0, ())).2.1.toNat (mkS (code.getD t.toNat (0, 0, 0, 0, 0, ())) (rowF (code.take t.toNat) v)) := by
  unfold rowF
  exact take_fold (fun v s => v.set s.2.1.toNat (mkS s v)) v h0 h1

theorem sbehind_F {m : Int} (hn6 : n ≤ 6) (hn : 300 ≤ nf) {b : Blk} (hb : blockCode n m b = 0) (hm : b.1.length ≤ maxLen) (hf : b.1.length < nf) {v : List Sp} (hv : Row n v) : span_behind_f nf b.1 v = some (rowF b.1 v, ()) := by
  have hsc := stepsGo_all (blockCode_ok hb).1
  obtain ⟨fu', q, ⟨q1, q2⟩, e⟩ := loop_inv (n := (b.1.length : Int)) (F := fun fu t (q : List Sp) => span_behind_l0 nf b.1 fu q t) (fun t q => q = rowF (b.1.take t.toNat) v ∧ Row n q) (fun fu t q h0 ht hI => by
    obtain ⟨i1, i2⟩ := hI
    have hs := getD_mem (d := ((0, 0, 0, 0, 0, ()) : Step6)) h0 ht
    have hc := hsc _ hs
    have hmk := mkS_is i2 hc
    refine ⟨q.set (b.1.getD t.toNat (0, 0, 0, 0, 0, ())).2.1.toNat (mkS (b.1.getD t.toNat (0, 0, 0, 0, 0, ())) q), ?_, ?_, i2.set _ hmk⟩
    · have hst : span_behind_l0 nf b.1 (fu + 1) q t = span_behind_b0 nf b.1 (span_behind_l0 nf b.1 fu) q t := rfl
      rw [hst]
      unfold span_behind_b0
      rw [inb_ok h0 ht, wrap_step h0 ht hm]
      generalize b.1.getD t.toNat (0, 0, 0, 0, 0, ()) = s at *
      obtain ⟨op, to, x, y, k, u⟩ := s
      obtain ⟨o1, o6, c1, c2, ⟨to0, to1⟩, c3⟩ := stepCode_ok hc
      simp only [ht, decide_true, cond_true, i2.inb to0 to1, mkS]
      by_cases e1 : op = 1
      · simp only [e1, beq_self_eq_true, cond_true, if_true]
      · by_cases e2 : op = 2
        · obtain ⟨k0, k1⟩ := c2 e2
          simp only [e2, beq_self_eq_true, cond_true, if_true, i2.inb k0 k1, show ((2 : Int) == 1) = false from rfl, cond_false, show ¬ ((2 : Int) = 1) by decide, if_false]
          rfl
        · obtain ⟨a0, a1, b0, b1⟩ := c3 (by omega)
          obtain ⟨o, d1, d2⟩ := sdo_F (nf := nf) hn (op := op) (by omega) o6 (i2.get a0 a1) (i2.get b0 b1)
          have := hull_of (by omega) o6 (i2.get a0 a1) (i2.get b0 b1) d2
          have d1' : span_do_f nf op (q.getD x.toNat (0, 0, ())) (q.getD y.toNat (0, 0, ())) = some (o, ()) := d1
          simp only [beq_f e1, beq_f e2, cond_false, e1, e2, if_false, i2.inb a0 a1, i2.inb b0 b1, cond_true, d1', Option.bind_some, ← this]
    · rw [rowF_take h0 ht, ← i1]) nf 0 v (by omega) (by omega) (by omega) ⟨by simp [rowF], hv⟩
  rw [Int.toNat_natCast, List.take_length] at q1
  have hlen : v.length ≤ 100 := by have := hv.len; omega
  simp only [span_behind_f, span_behind_p, sclone_F v hlen, Option.bind_some]
  rw [show span_behind_l0 nf b.1 nf v 0 = _ from e, span_behind_l0, span_behind_b0, q1]
  simp only [Int.lt_irrefl, decide_false, cond_false]

/-- where the program stands: it has grown -/
structure GrowS (n : Int) (m : Nat) (X Y : List (List Sp)) (ag0 ag : Bool) : Prop where
  tab : TabK n m Y
  le : Lek X Y
  no : ag = false → ag0 = false ∧ Y = X
  yes : ag = true → ag0 = true ∨ rank X < rank Y
theorem GrowS.trans {m : Nat} {X Y Z : List (List Sp)} {a b c : Bool} (h1 : GrowS n m X Y a b) (h2 : GrowS n m Y Z b c) (hX : TabK n m X) : GrowS n m X Z a c := by
  have l1 := rank_le (X := X) (Y := Y) hX.rows (by rw [hX.len, h1.tab.len]) h1.le
  have l2 := rank_le (X := Y) (Y := Z) h1.tab.rows (by rw [h1.tab.len, h2.tab.len]) h2.le
  refine ⟨h2.tab, h1.le.trans h2.le, fun h => ?_, fun h => ?_⟩
  · obtain ⟨e1, e2⟩ := h2.no h
    obtain ⟨e3, e4⟩ := h1.no e1
    exact ⟨e3, e2.trans e4⟩
  · rcases h2.yes h with e | e
    · rcases h1.yes e with f | f
      · exact .inl f
      · exact .inr (by omega)
    · exact .inr (by omega)

theorem set_row {X : List (List Sp)} {j : Int} (h0 : 0 ≤ j) (h1 : j < X.length) : X.set j.toNat (row X j) = X := by
  unfold row
  rw [getD_nat X j [] h0 (by omega), List.set_getElem_self]

/-- a row comes to a block -/
theorem come_F (hn1 : 1 ≤ n) (hn6 : n ≤ 6) (hn : 20 ≤ nf) {m : Nat} {X : List (List Sp)} (hX : TabK n m X) {v : List Sp} (hv : Row n v) {j : Int} (hj : 0 ≤ j ∧ j < m) (ag : Bool) :
    ∃ ag', GrowS n m X (updK X j v) ag ag' ∧ span_place_come_f nf (X, ag, ()) j v = some (some (updK X j v, ag', ()), ()) := by
  have hlX := hX.len
  have hvl := hv.len
  have hjl : j < X.length := by omega
  have hle := updK_le hX hv hn1 hj.1 hjl
  have htab := updK_tab (j := j) hX hv
  have hrk := rank_le (X := X) (Y := updK X j v) hX.rows (by rw [hlX, htab.len]) hle
  obtain ⟨u1, u2⟩ := updK_in hX hv hn1 hj.1 hjl
  have hin : inb j (List.length (X, ag, ()).1) = true := inb_ok hj.1 hjl
  have erow : List.getD (X, ag, ()).1 j.toNat [] = row X j := rfl
  have hve : List.isEmpty v = false := by
    cases hq : v with
    | nil => rw [hq] at hvl; simp at hvl; omega
    | cons => rfl
  simp only [span_place_come_f, span_place_come_p, hin, cond_true, erow]
  by_cases hne : row X j = []
  · have hset : X.set j.toNat v = updK X j v := by unfold updK; rw [hne]; rfl
    refine ⟨true, ⟨htab, hle, fun h => (by cases h), fun _ => .inr ?_⟩, ?_⟩
    · rcases Nat.lt_or_ge (rank X) (rank (updK X j v)) with h4 | h4
      · exact h4
      · have h5 := hrk.2 (by omega)
        rw [← h5] at u1
        exact absurd hne u1
    · simp only [hne, List.isEmpty_nil, cond_true, sclone_F v (by omega), Option.bind_some, hve, Bool.not_false, hset]
  · have he : List.isEmpty (row X j) = false := by
      cases hq : row X j with
      | nil => exact absurd hq hne
      | cons => rfl
    have hrow := (hX.row j).resolve_left hne
    obtain ⟨r, hrd⟩ : ∃ r, r = row X j := ⟨_, rfl⟩
    rw [← hrd] at hne hrow
    have hl : r.length = v.length := by have := hrow.len; omega
    obtain ⟨fu', q, ⟨w, q1, q2, q3, q5, q6, q7⟩, e⟩ := loop_inv (n := (v.length : Int)) (F := fun fu t (q : List (List Sp) × Bool × Unit) => span_place_come_l0 nf j v fu q t)
      (fun t q => ∃ w : List Sp, q.1 = X.set j.toNat w ∧ w.length = v.length ∧ (∀ k : Nat, k < v.length → w.getD k D0 = if (k : Int) < t then hull2 (r.getD k D0) (v.getD k D0) else r.getD k D0) ∧ (q.2.1 = false → ag = false ∧ w = r) ∧ (q.2.1 = true → ag = true ∨ w ≠ r) ∧ q.2.2 = ()) (fun fu t q h0 ht hI => by
        obtain ⟨w, i1, i2, i3, i5, i6, i7⟩ := hI
        obtain ⟨t, rfl⟩ : ∃ k : Nat, t = (k : Int) := ⟨t.toNat, by omega⟩
        have hwt := i3 t (by omega)
        rw [if_neg (by omega)] at hwt
        have hwp := wrap_step h0 ht (Nat.le_trans (show v.length ≤ 6 by omega) (by decide))
        have hst : span_place_come_l0 nf j v (fu + 1) q t = span_place_come_b0 nf j v (span_place_come_l0 nf j v fu) q t := rfl
        have hq1 : inb j (List.length q.1) = true := by rw [i1, List.length_set]; exact inb_ok hj.1 (by omega)
        have hqj : List.getD q.1 j.toNat [] = w := by rw [i1, getD_upd (by omega), if_pos rfl]
        have hin2 : inb (t : Int) w.length = true := inb_ok h0 (by omega)
        have hwt' : w.getD t (0, 0, ()) = r.getD t D0 := hwt
        have hvt' : v.getD t (0, 0, ()) = v.getD t D0 := rfl
        unfold span_place_come_b0 at hst
        simp only [ht, decide_true, cond_true, inb_ok h0 ht, hq1, hqj, hin2, Int.toNat_natCast, hwt', hvt', hwp] at hst
        have next : ∀ k : Nat, k < v.length → (if (k : Int) < (t : Int) + 1 then hull2 (r.getD k D0) (v.getD k D0) else r.getD k D0) = if k = t then hull2 (r.getD t D0) (v.getD t D0) else w.getD k D0 := fun k hk => by
          by_cases hkt : k = t
          · subst hkt; rw [if_pos (by omega), if_pos rfl]
          · rw [if_neg hkt, i3 k hk]
            by_cases hlt : (k : Int) < t
            · rw [if_pos hlt, if_pos (by omega)]
            · rw [if_neg hlt, if_neg (by omega)]
        have eh : hull2 (r.getD t D0) (v.getD t D0) = (if (v.getD t D0).1 < (r.getD t D0).1 then (v.getD t D0).1 else (r.getD t D0).1, if (v.getD t D0).2.1 > (r.getD t D0).2.1 then (v.getD t D0).2.1 else (r.getD t D0).2.1, ()) := rfl
        by_cases c1 : hull2 (r.getD t D0) (v.getD t D0) = r.getD t D0
        · have hcmp : (!((if (v.getD t D0).1 < (r.getD t D0).1 then (v.getD t D0).1 else (r.getD t D0).1) == (r.getD t D0).1 && ((if (v.getD t D0).2.1 > (r.getD t D0).2.1 then (v.getD t D0).2.1 else (r.getD t D0).2.1) == (r.getD t D0).2.1 && true))) = false := by
            have a1 := congrArg (fun s : Sp => s.1) c1
            have a2 := congrArg (fun s : Sp => s.2.1) c1
            simp only [eh] at a1 a2
            rw [a1, a2]; simp
          rw [hcmp, cond_false] at hst
          refine ⟨q, hst, w, i1, i2, fun k hk => ?_, i5, i6, i7⟩
          rw [next k hk]
          by_cases hkt : k = t
          · subst hkt; rw [if_pos rfl, c1, hwt]
          · rw [if_neg hkt]
        · have hcmp : (!((if (v.getD t D0).1 < (r.getD t D0).1 then (v.getD t D0).1 else (r.getD t D0).1) == (r.getD t D0).1 && ((if (v.getD t D0).2.1 > (r.getD t D0).2.1 then (v.getD t D0).2.1 else (r.getD t D0).2.1) == (r.getD t D0).2.1 && true))) = true := by
            rw [Bool.not_eq_true']
            cases hq : ((if (v.getD t D0).1 < (r.getD t D0).1 then (v.getD t D0).1 else (r.getD t D0).1) == (r.getD t D0).1 && ((if (v.getD t D0).2.1 > (r.getD t D0).2.1 then (v.getD t D0).2.1 else (r.getD t D0).2.1) == (r.getD t D0).2.1 && true)) with
            | false => rfl
            | true =>
              rw [Bool.and_true, Bool.and_eq_true, beq_iff_eq, beq_iff_eq] at hq
              exact absurd (Sp.ext (by rw [eh]; exact hq.1) (by rw [eh]; exact hq.2)) c1
          rw [hcmp, cond_true, ← eh] at hst
          refine ⟨(List.set q.1 j.toNat (w.set t (hull2 (r.getD t D0) (v.getD t D0))), true, q.2.2), hst, w.set t (hull2 (r.getD t D0) (v.getD t D0)), ?_, by rw [List.length_set]; exact i2, fun k hk => ?_, fun h => (by cases h), fun _ => .inr fun he => ?_, rfl⟩
          · show List.set q.1 j.toNat _ = _
            rw [i1, List.set_set]
          · rw [next k hk, getD_upd (by omega)]
          · have this : (w.set t (hull2 (r.getD t D0) (v.getD t D0))).getD t D0 = r.getD t D0 := by rw [he]
            rw [getD_upd (by omega), if_pos rfl] at this
            exact c1 this) nf 0 (X, ag, ()) (by omega) (by omega) (by omega) ⟨r, by rw [hrd, set_row hj.1 hjl], hl, fun k hk => by rw [if_neg (by omega)], fun h => ⟨h, rfl⟩, .inl, rfl⟩
    have hw : w = joinR r v := by
      refine List.ext_getElem (by rw [q2, joinR_len hne hl, hl]) fun k a b => ?_
      have h1 := q3 k (by omega)
      rw [if_pos (by omega), ← joinR_get hne hl (by omega)] at h1
      rw [show w.getD k D0 = w[k] by simp [List.getD, a], show (joinR r v).getD k D0 = (joinR r v)[k] by simp [List.getD, b]] at h1
      exact h1
    have hup : updK X j v = X.set j.toNat w := by unfold updK; rw [← hrd, hw]
    have hsame : (updK X j v = X) ↔ w = r := by
      rw [hup]
      constructor
      · intro h1
        have this : row (X.set j.toNat w) j = row X j := by rw [h1]
        rw [row_set hj.1 (by omega) w hj.1, if_pos rfl, ← hrd] at this
        exact this
      · intro h1
        rw [h1, hrd, set_row hj.1 hjl]
    refine ⟨q.2.1, ⟨htab, hle, fun h => ⟨(q5 h).1, hsame.2 (q5 h).2⟩, fun h => (q6 h).imp id fun h1 => ?_⟩, ?_⟩
    · rcases Nat.lt_or_ge (rank X) (rank (updK X j v)) with h4 | h4
      · exact h4
      · exact absurd (hsame.1 (hrk.2 (by omega)).symm) h1
    · rw [he, cond_false, show span_place_come_l0 nf j v nf (X, ag, ()) 0 = _ from e, span_place_come_l0, span_place_come_b0]
      simp only [Int.lt_irrefl, decide_false, cond_false]
      rw [show q = (q.1, q.2.1, q.2.2) from rfl, q1, ← hup]

/-- some rows have been taken in -/
structure Done (n : Int) (m : Nat) (X Y : List (List Sp)) (qs : List (Int × List Sp)) : Prop where
  tab : TabK n m Y
  le : Lek X Y
  lub : ∀ Z, Lek X Z → (∀ q ∈ qs, row Z q.1 ≠ [] ∧ rle q.2 (row Z q.1)) → Lek Y Z
  in' : ∀ q ∈ qs, row Y q.1 ≠ [] ∧ rle q.2 (row Y q.1)
theorem Done.nil {m : Nat} {X : List (List Sp)} (h : TabK n m X) : Done n m X X [] := ⟨h, Lek.refl X, fun _ h _ => h, fun q hq => by cases hq⟩
theorem Done.one {m : Nat} {X : List (List Sp)} (h : TabK n m X) (hn1 : 1 ≤ n) {j : Int} (hj : 0 ≤ j ∧ j < m) {v : List Sp} (hv : Row n v) : Done n m X (updK X j v) [(j, v)] := by
  have hl := h.len
  refine ⟨updK_tab h hv, updK_le h hv hn1 hj.1 (by omega), fun Z hZ hq => updK_lub hj.1 (by omega) hZ (hq (j, v) (by simp)), fun q hq => ?_⟩
  rw [List.mem_singleton] at hq
  subst hq
  exact updK_in h hv hn1 hj.1 (by omega)
theorem Done.app {m : Nat} {X Y Z : List (List Sp)} {a b : List (Int × List Sp)} (h1 : Done n m X Y a) (h2 : Done n m Y Z b) (ha : ∀ q ∈ a, 0 ≤ q.1) : Done n m X Z (a ++ b) := by
  refine ⟨h2.tab, h1.le.trans h2.le, fun W hW hq => h2.lub W (h1.lub W hW fun q h => hq q (List.mem_append_left _ h)) fun q h => hq q (List.mem_append_right _ h), fun q hq => ?_⟩
  rcases List.mem_append.1 hq with h | h
  · obtain ⟨c, d⟩ := h1.in' q h
    obtain ⟨e, f⟩ := (h2.le q.1 (ha q h)).resolve_left c
    exact ⟨e, d.trans f⟩
  · exact h2.in' q h

theorem span_l2 (hp : Made n p nf) (hn : 300 ≤ nf) {have' : List Sp} {X : List (List Sp)} (hX : TabK n p.length X) (hX0 : row X 0 ≠ [] ∧ rle have' (row X 0)) (g0 : List (List Sp) × Bool × Unit → Option (List (List Sp) × Int × Unit)) :
    ∃ Y ag, GrowS n p.length X Y false ag ∧ (∀ Z, TabK n p.length Z → Takes p have' Z Z → Lek X Z → Lek Y Z) ∧ (ag = false → Takes p have' X X) ∧ span_In_l2 nf p g0 nf (X, false, ()) 0 = g0 (Y, ag, ()) := by
  have hp8 := hp.p8
  obtain ⟨fu', q, ⟨q1, q2, q3, q4⟩, e⟩ := loop_inv (n := (p.length : Int)) (F := fun fu t (q : List (List Sp) × Bool × Unit) => span_In_l2 nf p g0 fu q t)
    (fun t q => GrowS n p.length X q.1 false q.2.1 ∧ (∀ Z, TabK n p.length Z → Takes p have' Z Z → Lek X Z → Lek q.1 Z) ∧
      (q.2.1 = false → ∀ i : Int, 0 ≤ i → i < t → row X i ≠ [] → ∀ r ∈ outs (p.getD i.toNat B0) (rowF (p.getD i.toNat B0).1 (row X i)), row X r.1 ≠ [] ∧ rle r.2 (row X r.1)) ∧ q.2.2 = ()) (fun fu t q h0 ht hI => by
      obtain ⟨i1, i2, i3, i4⟩ := hI
      have hbm := getD_mem (d := B0) h0 ht
      have hb := hp.ok _ hbm
      obtain ⟨f1, f2⟩ := hp.fit _ hbm
      have hsc := stepsGo_all (blockCode_ok hb).1
      obtain ⟨_, b1, b2, b3, b4⟩ := blockCode_ok hb
      have hwp := wrap_step h0 ht (Nat.le_trans hp8 (by decide))
      have hlq := i1.tab.len
      have hin : inb t (List.length q.1) = true := inb_ok h0 (by omega)
      have hst : span_In_l2 nf p g0 (fu + 1) q t = span_In_b2 nf p g0 (span_In_l2 nf p g0 fu) q t := rfl
      have erow : List.getD q.1 t.toNat [] = row q.1 t := rfl
      unfold span_In_b2 at hst
      simp only [ht, decide_true, cond_true, inb_ok h0 ht, hin, erow, hwp] at hst
      by_cases hne : row q.1 t = []
      · rw [hne, List.isEmpty_nil, cond_true] at hst
        refine ⟨q, hst, i1, i2, fun hag i a b hri => ?_, i4⟩
        by_cases hit : i = t
        · subst hit
          rw [(i1.no hag).2] at hne
          exact absurd hne hri
        · exact i3 hag i a (by omega) hri
      · have he : List.isEmpty (row q.1 t) = false := by
          cases hq : row q.1 t with
          | nil => exact absurd hq hne
          | cons => rfl
        have hrow := (i1.tab.row t).resolve_left hne
        have hrf := rowF_row hsc hrow
        have hok := outs_ok hb hrf
        rw [he, cond_false, sbehind_F (nf := nf) hp.n6 hn hb f1 f2 hrow] at hst
        simp only [Option.bind_some] at hst
        -- the rows that come out of the block are taken in
        have key : ∃ Y ag, GrowS n p.length q.1 Y q.2.1 ag ∧ Done n p.length q.1 Y (outs (p.getD t.toNat B0) (rowF (p.getD t.toNat B0).1 (row q.1 t))) ∧ span_In_l2 nf p g0 (fu + 1) q t = span_In_l2 nf p g0 fu (Y, ag, ()) (t + 1) := by
          have eB : p.getD t.toNat ([], 0, 0, 0, ()) = p.getD t.toNat B0 := rfl
          rw [eB] at hst
          have same : GrowS n p.length q.1 q.1 q.2.1 q.2.1 := ⟨i1.tab, Lek.refl _, fun h => ⟨h, rfl⟩, .inl⟩
          have come := fun (X : List (List Sp)) (hX : TabK n p.length X) (v : List Sp) (hv : Row n v) (j : Int) (hj : 0 ≤ j ∧ j < (p.length : Nat)) (ag : Bool) => come_F (nf := nf) hp.n1 hp.n6 (by omega) hX hv hj ag
          unfold outs at hok ⊢
          by_cases c1 : (p.getD t.toNat B0).2.1 < 0
          · rw [if_pos c1] at hok ⊢
            by_cases c2 : (p.getD t.toNat B0).2.2.1 < 0
            · rw [if_pos c2]
              refine ⟨q.1, q.2.1, same, Done.nil i1.tab, hst.trans ?_⟩
              rw [decide_eq_true c1, cond_true, show decide ((p.getD t.toNat B0).2.2.1 ≥ 0) = false by rw [decide_eq_false_iff_not]; omega, cond_false]
            · rw [if_neg c2] at hok ⊢
              obtain ⟨hj, hv⟩ := hok (_, _) (List.mem_singleton.2 rfl)
              obtain ⟨ag, g1, g2⟩ := come q.1 i1.tab _ hv _ hj q.2.1
              refine ⟨_, ag, g1, Done.one i1.tab hp.n1 hj hv, hst.trans ?_⟩
              have g2' : span_place_come_f nf q (p.getD t.toNat B0).2.2.1 (rowF (p.getD t.toNat B0).1 (row q.1 t)) = _ := g2
              rw [decide_eq_true c1, cond_true, show decide ((p.getD t.toNat B0).2.2.1 ≥ 0) = true by rw [decide_eq_true_eq]; omega, cond_true, g2']
              rfl
          · rw [if_neg c1] at hok ⊢
            have hti := hrf.inb (i := (p.getD t.toNat B0).2.1) (by omega) b2
            rw [decide_eq_false c1, cond_false, hti, cond_true] at hst
            have eT : (rowF (p.getD t.toNat B0).1 (row q.1 t)).getD (p.getD t.toNat B0).2.1.toNat (0, 0, ()) = (rowF (p.getD t.toNat B0).1 (row q.1 t)).getD (p.getD t.toNat B0).2.1.toNat D0 := rfl
            rw [eT] at hst
            by_cases c2 : 0 < ((rowF (p.getD t.toNat B0).1 (row q.1 t)).getD (p.getD t.toNat B0).2.1.toNat D0).2.1
            · rw [if_pos c2] at hok ⊢
              obtain ⟨hj, hv⟩ := hok (_, _) (List.mem_append_left _ (List.mem_singleton.2 rfl))
              obtain ⟨ag, g1, g2⟩ := come q.1 i1.tab _ hv _ hj q.2.1
              have g2' : span_place_come_f nf q (p.getD t.toNat B0).2.2.1 _ = _ := g2
              have d1 := Done.one i1.tab hp.n1 hj hv
              rw [show decide (((rowF (p.getD t.toNat B0).1 (row q.1 t)).getD (p.getD t.toNat B0).2.1.toNat D0).2.1 > 0) = true by rw [decide_eq_true_eq]; omega, cond_true, g2'] at hst
              simp only [Option.bind_some] at hst
              by_cases c3 : ((rowF (p.getD t.toNat B0).1 (row q.1 t)).getD (p.getD t.toNat B0).2.1.toNat D0).1 = 0
              · rw [if_pos c3] at hok ⊢
                obtain ⟨hj2, hv2⟩ := hok (_, _) (List.mem_append_right _ (List.mem_singleton.2 rfl))
                obtain ⟨ag2, g3, g4⟩ := come _ g1.tab _ hv2 _ hj2 ag
                refine ⟨_, ag2, g1.trans g3 i1.tab, d1.app (Done.one g1.tab hp.n1 hj2 hv2) (fun r hr => ?_), hst.trans ?_⟩
                · rw [List.mem_singleton] at hr; subst hr; exact hj.1
                · rw [show (((rowF (p.getD t.toNat B0).1 (row q.1 t)).getD (p.getD t.toNat B0).2.1.toNat D0).1 == 0) = true by rw [c3]; rfl, cond_true, List.length_set, hti, cond_true, List.set_set]
                  rw [show ((0, 0, ()) : Sp) = D0 from rfl, ← List.set_set (a := (if 1 > ((rowF (p.getD t.toNat B0).1 (row q.1 t)).getD (p.getD t.toNat B0).2.1.toNat D0).1 then 1 else ((rowF (p.getD t.toNat B0).1 (row q.1 t)).getD (p.getD t.toNat B0).2.1.toNat D0).1, ((rowF (p.getD t.toNat B0).1 (row q.1 t)).getD (p.getD t.toNat B0).2.1.toNat D0).2.1, ())), List.set_set, g4]
                  rfl
              · rw [if_neg c3, List.append_nil]
                refine ⟨_, ag, g1, d1, hst.trans ?_⟩
                rw [beq_f c3, cond_false]
                rfl
            · rw [if_neg c2] at hok ⊢
              rw [List.nil_append] at hok ⊢
              rw [show decide (((rowF (p.getD t.toNat B0).1 (row q.1 t)).getD (p.getD t.toNat B0).2.1.toNat D0).2.1 > 0) = false by rw [decide_eq_false_iff_not]; omega, cond_false] at hst
              by_cases c3 : ((rowF (p.getD t.toNat B0).1 (row q.1 t)).getD (p.getD t.toNat B0).2.1.toNat D0).1 = 0
              · rw [if_pos c3] at hok ⊢
                obtain ⟨hj2, hv2⟩ := hok (_, _) (List.mem_singleton.2 rfl)
                obtain ⟨ag2, g3, g4⟩ := come q.1 i1.tab _ hv2 _ hj2 q.2.1
                have g4' : span_place_come_f nf q (p.getD t.toNat B0).2.2.2.1 _ = _ := g4
                refine ⟨_, ag2, g3, Done.one i1.tab hp.n1 hj2 hv2, hst.trans ?_⟩
                rw [show (((rowF (p.getD t.toNat B0).1 (row q.1 t)).getD (p.getD t.toNat B0).2.1.toNat D0).1 == 0) = true by rw [c3]; rfl, cond_true]
                rw [show ((0, 0, ()) : Sp) = D0 from rfl, g4']
                rfl
              · rw [if_neg c3]
                refine ⟨q.1, q.2.1, same, Done.nil i1.tab, hst.trans ?_⟩
                rw [beq_f c3, cond_false]
        obtain ⟨Y, ag, g1, g2, g4⟩ := key
        refine ⟨(Y, ag, ()), g4, i1.trans g1 hX, fun Z hZ hP hXZ => ?_, fun hag i a b hri r hr => ?_, rfl⟩
        · have hqZ := i2 Z hZ hP hXZ
          exact g2.lub Z hqZ fun r hr => (hP.mono hp i1.tab hZ hqZ).2 t h0 ht hne r hr
        · obtain ⟨e1, e2⟩ := g1.no hag
          have e3 := (i1.no e1).2
          by_cases hit : i = t
          · subst hit
            have hYX : Y = X := e2.trans e3
            have g3 := g2.in'
            rw [e3, hYX] at g3
            exact g3 r hr
          · exact i3 e1 i a (by omega) hri r hr) nf 0 (X, false, ()) (by omega) (by omega) (by omega) ⟨⟨hX, Lek.refl X, fun h => ⟨h, rfl⟩, .inl⟩, fun Z _ _ h => h, fun _ i a b => by omega, rfl⟩
  refine ⟨q.1, q.2.1, q1, q2, fun h => ⟨hX0, q3 h⟩, ?_⟩
  rw [show span_In_l2 nf p g0 nf (X, false, ()) 0 = _ from e, span_In_l2, span_In_b2]
  simp only [Int.lt_irrefl, decide_false, cond_false]

theorem span_l0 (hp : Made n p nf) (hn : 300 ≤ nf) {have' : List Sp} : ∀ (fu : Nat) (X : List (List Sp)), TabK n p.length X → row X 0 ≠ [] ∧ rle have' (row X 0) → (∀ Z, TabK n p.length Z → Takes p have' Z Z → Lek X Z) → 12298 ≤ fu + rank X →
    ∃ R, Least n p have' R ∧ span_In_l0 nf p fu (X, true, ()) = some (R, 0, ())
  | 0, X, hX, _, _, hfu => by
    have := rank_top hp.n6 hX.rows
    have := hX.len
    have := hp.p8
    omega
  | fu + 1, X, hX, h0, hL, hfu => by
    obtain ⟨Y, ag, g1, g2, g3, g4⟩ := span_l2 hp hn hX h0 (fun t30 => span_In_l0 nf p fu t30)
    have hst : span_In_l0 nf p (fu + 1) (X, true, ()) = span_In_l0 nf p fu (Y, ag, ()) := g4
    rw [hst]
    cases ag with
    | true =>
      have hlt := (g1.yes rfl).resolve_left (by decide)
      obtain ⟨c, d⟩ := (g1.le 0 (by omega)).resolve_left h0.1
      exact span_l0 hp hn fu Y g1.tab ⟨c, h0.2.trans d⟩ (fun Z hZ hP => g2 Z hZ hP (hL Z hZ hP)) (by omega)
    | false =>
      obtain ⟨_, rfl⟩ := g1.no rfl
      have := rank_top hp.n6 hX.rows
      have := hX.len
      have := hp.p8
      obtain ⟨fu', rfl⟩ : ∃ k, fu = k + 1 := ⟨fu - 1, by omega⟩
      exact ⟨Y, ⟨hX, g3 rfl, hL⟩, rfl⟩

theorem empty_row (m : Nat) (i : Int) : row (List.replicate m ([] : List Sp)) i = [] := by
  unfold row
  rw [List.getD_eq_getElem?_getD, List.getElem?_replicate]
  split <;> rfl
theorem start_row (hp : Made n p nf) {have' : List Sp} (hh : Row n have') : TabK n p.length (List.replicate p.length ([] : List Sp)) ∧ updK (List.replicate p.length ([] : List Sp)) 0 have' = (List.replicate p.length ([] : List Sp)).set 0 have' ∧ (∀ i : Int, 0 ≤ i → row ((List.replicate p.length ([] : List Sp)).set 0 have') i = if i = 0 then have' else []) ∧ have' ≠ [] := by
  have hp1 := hp.p1
  refine ⟨⟨by simp, fun r hr => .inl (List.mem_replicate.1 hr).2⟩, ?_, fun i i0 => ?_, fun e => ?_⟩
  · unfold updK
    rw [empty_row]; rfl
  · have := row_set (X := List.replicate p.length ([] : List Sp)) (j := 0) (by omega) (by simp; omega) have' i0
    rw [show (0 : Int).toNat = 0 from rfl] at this
    rw [this, empty_row]
  · have h1 := hh.len
    rw [e, List.length_nil] at h1
    have := hp.n1
    omega
end Go.Proofs.Ytokjogplnoeicaa
