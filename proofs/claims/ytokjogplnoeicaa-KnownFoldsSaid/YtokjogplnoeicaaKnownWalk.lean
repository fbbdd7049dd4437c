/- What is known of variables: the program's rounds. -/
import Derived.Test.YtokjogplnoeicaaKnown
namespace Go.Proofs.Ytokjogplnoeicaa
open Go Go.Ab S

variable {nf : Nat} {n : Int} {p : List Blk}

theorem makes_F {v : List Int} (h : Row n v) {s : Step6} (hs : stepCode n n s = 0) : known_makes_f nf s v = some (mkV s v, ()) ∧ ref_Makes_f nf s v = some (mkV s v, ()) := by
  obtain ⟨op, to, a, b, k, u⟩ := s
  obtain ⟨o1, o6, c1, c2, _, c3⟩ := stepCode_ok hs
  simp only [known_makes_f, known_makes_p, ref_Makes_f, ref_Makes_p, mkV]
  by_cases e1 : op = 1
  · simp [e1]
  · by_cases e2 : op = 2
    · obtain ⟨k0, k1⟩ := c2 e2
      simp [e2, h.inb k0 k1]
    · obtain ⟨a0, a1, b0, b1⟩ := c3 (by omega)
      have ka := h.get a0 a1
      have kb := h.get b0 b1
      rw [if_neg e1, if_neg e2]
      simp only [beq_f e1, beq_f e2, cond_false, h.inb a0 a1, h.inb b0 b1, cond_true]
      generalize v.getD a.toNat 0 = x at *
      generalize v.getD b.toNat 0 = y at *
      unfold isK at ka kb
      have hdo : x ≠ -1 → y ≠ -1 → term_Do_f nf op x y = some (opV op x y, ()) ∧ ref_Op_f nf op x y = some (opV op x y, ()) := fun hx hy =>
        ⟨do_F ⟨by omega, ka.2⟩ ⟨by omega, kb.2⟩, op_F (by omega) o6 ⟨by omega, ka.2⟩ ⟨by omega, kb.2⟩⟩
      by_cases e5 : op = 5
      · by_cases x0 : x = 0
        · simp [e5, x0]
        · by_cases y0 : y = 0
          · simp [e5, x0, y0]
          · by_cases x1 : x = -1
            · simp [e5, x1, y0, beq_f y0]
            · by_cases y1 : y = -1
              · simp [e5, x0, x1, y1, beq_f x0, beq_f x1]
              · obtain ⟨d1, d2⟩ := hdo x1 y1
                simp [e5, x0, y0, x1, y1, beq_f x0, beq_f y0, beq_f x1, beq_f y1] at d1 d2 ⊢
                simp [d1, d2]
      · by_cases x1 : x = -1
        · simp [e5, x1, beq_f e5]
        · by_cases y1 : y = -1
          · simp [e5, x1, y1, beq_f e5, beq_f x1]
          · obtain ⟨d1, d2⟩ := hdo x1 y1
            simp [e5, x1, y1, d1, d2, beq_f e5, beq_f x1, beq_f y1]

theorem clone_F (s : List Int) (hl : s.length ≤ 100) : slices_Clone_f nf s = some (s, ()) := by
  have hb := ble_ok (n := s.length) (by omega)
  cases s with
  | nil => simp [slices_Clone_f, slices_Clone_p, bimp, ble_ok, both_self]
  | cons a r => simp only [List.length_cons] at hb; simp [slices_Clone_f, slices_Clone_p, bimp, hb]

theorem rowF_take {code : List Step6} {t : Int} (h0 : 0 ≤ t) (h1 : t < code.length) (v : List Int) : rowF (code.take (t + 1).toNat) v = (rowF (code.take t.toNat) v).set (code.getD t.toNat (0, 0, 0, 0, 0, ())).2.1.toNat (mkV (code.getD t.toNat (0, 0, 0, 0, 0, ())) (rowF (code.take t.toNat) v)) := by
  unfold rowF
  exact take_fold (fun v s => v.set s.2.1.toNat (mkV s v)) v h0 h1

theorem behind_F {m : Int} (hn6 : n ≤ 6) {b : Blk} (hb : blockCode n m b = 0) (hm : b.1.length ≤ maxLen) (hf : b.1.length < nf) {v : List Int} (hv : Row n v) : known_behind_f nf b v = some (rowF b.1 v, goes b (rowF b.1 v), ()) := by
  obtain ⟨hsg, b1, b2, b3, b4⟩ := blockCode_ok hb
  have hsc := stepsGo_all hsg
  obtain ⟨fu', q, ⟨q1, q2, q3⟩, e⟩ := loop_inv (n := (b.1.length : Int)) (F := fun fu t (q : List Int × Blk) => known_behind_l0 nf b fu q.1 q.2 t) (fun t q => q.1 = rowF (b.1.take t.toNat) v ∧ Row n q.1 ∧ q.2 = b) (fun fu t q h0 ht hI => by
    obtain ⟨i1, i2, i3⟩ := hI
    have hs := getD_mem (d := ((0, 0, 0, 0, 0, ()) : Step6)) h0 ht
    have hc := hsc _ hs
    obtain ⟨_, _, _, _, ⟨to0, to1⟩, _⟩ := stepCode_ok (op := (b.1.getD t.toNat (0, 0, 0, 0, 0, ())).1) (to := (b.1.getD t.toNat (0, 0, 0, 0, 0, ())).2.1) (a := (b.1.getD t.toNat (0, 0, 0, 0, 0, ())).2.2.1) (b := (b.1.getD t.toNat (0, 0, 0, 0, 0, ())).2.2.2.1) (k := (b.1.getD t.toNat (0, 0, 0, 0, 0, ())).2.2.2.2.1) (u := ()) hc
    refine ⟨(q.1.set (b.1.getD t.toNat (0, 0, 0, 0, 0, ())).2.1.toNat (mkV (b.1.getD t.toNat (0, 0, 0, 0, 0, ())) q.1), q.2), ?_, ?_, i2.set _ (mkV_isK i2 hc), i3⟩
    · rw [known_behind_l0, known_behind_b0, inb_ok h0 ht, wrap_step h0 ht hm, (makes_F i2 hc).1, i2.inb to0 to1]
      simp only [ht, decide_true, cond_true, Option.bind_some]
    · rw [rowF_take h0 ht, ← i1]) nf 0 (v, b) (by omega) (by omega) (by omega) ⟨by simp [rowF], hv, rfl⟩
  rw [Int.toNat_natCast, List.take_length] at q1
  have hlen : v.length ≤ 100 := by have := hv.len; omega
  simp only [known_behind_f, known_behind_p, clone_F v hlen, Option.bind_some]
  rw [show known_behind_l0 nf b nf v b 0 = _ from e, known_behind_l0, known_behind_b0, q1, q3]
  simp only [Int.lt_irrefl, decide_false, cond_false, both_self]
  have hrow : Row n (rowF b.1 v) := q1 ▸ q2
  unfold goes
  by_cases c1 : b.2.1 < 0
  · by_cases c2 : b.2.2.1 < 0
    · rw [if_pos ⟨c1, c2⟩]; simp [c1, c2]
    · rw [if_neg (fun h => c2 h.2), if_pos (.inl c1)]; simp [c1, c2]
  · have hi := hrow.inb (i := b.2.1) (by omega) b2
    rw [if_neg (fun h => c1 h.1)]
    by_cases c2 : 0 < (rowF b.1 v).getD b.2.1.toNat 0
    · rw [if_pos (.inr c2)]
      simp only [c1, decide_false, cond_false, hi, cond_true, gt_iff_lt, c2, decide_true]
    · rw [if_neg (fun h => h.elim c1 c2)]
      by_cases c3 : (rowF b.1 v).getD b.2.1.toNat 0 = 0
      · rw [if_pos c3]
        simp only [c1, decide_false, cond_false, hi, cond_true, gt_iff_lt, c2, c3, beq_self_eq_true, Int.lt_irrefl]
      · rw [if_neg c3]
        simp only [c1, decide_false, cond_false, hi, cond_true, gt_iff_lt, c2, beq_f c3]

/-- one row is taken in -/
theorem solve_l6 (hn1 : 1 ≤ n) (hn6 : n ≤ 6) (hn : 20 ≤ nf) {m : Nat} {X : List (List Int)} (hX : TabK n m X) {v to' : List Int} (hv : Row n v) {t46 : Int} (hj : 0 ≤ to'.getD t46.toNat 0 ∧ to'.getD t46.toNat 0 < m) (hr : row X (to'.getD t46.toNat 0) ≠ []) (again : Bool) (t25 : Int) (r2 : List Int × List Int × Unit) (g4 : List (List Int) → Bool → List Int → List Int → Int → Option (List (List Int) × Unit)) (g2 : List (List Int) → Bool → Int → Option (List (List Int) × Unit)) (g0 : List (List Int) → Bool → Option (List (List Int) × Unit)) :
    ∃ ag, (ag = false → again = false ∧ updK X (to'.getD t46.toNat 0) v = X) ∧ (ag = true → again = true ∨ updK X (to'.getD t46.toNat 0) v ≠ X) ∧
      known_solve_l6 nf p to' t46 t25 r2 v g4 g2 g0 nf X again v to' 0 = g4 (updK X (to'.getD t46.toNat 0) v) ag v to' (IntKind.i64.wrap (t46 + 1)) := by
  obtain ⟨j, hjd⟩ : ∃ j, j = to'.getD t46.toNat 0 := ⟨_, rfl⟩
  rw [← hjd] at hj hr ⊢
  have hlX := hX.len
  have hrow := (hX.row j).resolve_left hr
  obtain ⟨r, hrd⟩ : ∃ r, r = row X j := ⟨_, rfl⟩
  rw [← hrd] at hr hrow
  have hl : r.length = v.length := by have := hrow.len; have := hv.len; omega
  have hvl := hv.len
  obtain ⟨fu', q, ⟨w, q1, q2, q3, q4, q5, q6⟩, e⟩ := loop_inv (n := (v.length : Int)) (F := fun fu t (q : List (List Int) × Bool) => known_solve_l6 nf p to' t46 t25 r2 v g4 g2 g0 fu q.1 q.2 v to' t)
    (fun t q => ∃ w : List Int, q.1 = X.set j.toNat w ∧ w.length = v.length ∧ (∀ k : Nat, k < v.length → w.getD k 0 = if (k : Int) < t then (if r.getD k 0 = v.getD k 0 then r.getD k 0 else -1) else r.getD k 0) ∧ (∀ x ∈ w, isK x) ∧ (q.2 = false → again = false ∧ w = r) ∧ (q.2 = true → again = true ∨ w ≠ r)) (fun fu t q h0 ht hI => by
      obtain ⟨w, i1, i2, i3, i4, i5, i6⟩ := hI
      obtain ⟨t, rfl⟩ : ∃ k : Nat, t = (k : Int) := ⟨t.toNat, by omega⟩
      have hwt := i3 t (by omega)
      rw [if_neg (by omega)] at hwt
      have hwp := wrap_step h0 ht (Nat.le_trans (show v.length ≤ 6 by omega) (by decide))
      have hst : known_solve_l6 nf p to' t46 t25 r2 v g4 g2 g0 (fu + 1) q.1 q.2 v to' t = known_solve_b6 nf p to' t46 t25 r2 v g4 g2 g0 (known_solve_l6 nf p to' t46 t25 r2 v g4 g2 g0 fu) q.1 q.2 v to' t := rfl
      have hq1 : inb j q.1.length = true := by rw [i1, List.length_set]; exact inb_ok hj.1 (by omega)
      have hqj : q.1.getD j.toNat [] = w := by rw [i1, getD_upd (by omega), if_pos rfl]
      have hin : inb (t : Int) w.length = true := inb_ok h0 (by omega)
      unfold known_solve_b6 at hst
      rw [← hjd] at hst
      simp only [ht, decide_true, cond_true, inb_ok h0 ht, hq1, hqj, hin, Int.toNat_natCast, hwt, hwp] at hst
      have next : ∀ k : Nat, k < v.length → (if (k : Int) < (t : Int) + 1 then (if r.getD k 0 = v.getD k 0 then r.getD k 0 else -1) else r.getD k 0) = if k = t then (if r.getD t 0 = v.getD t 0 then r.getD t 0 else -1) else w.getD k 0 := fun k hk => by
        by_cases hkt : k = t
        · subst hkt; rw [if_pos (by omega), if_pos rfl]
        · rw [if_neg hkt, i3 k hk]
          by_cases hlt : (k : Int) < t
          · rw [if_pos hlt, if_pos (by omega)]
          · rw [if_neg hlt, if_neg (by omega)]
      by_cases c1 : r.getD t 0 = v.getD t 0
      · rw [c1, bne_self_eq_false, cond_false] at hst
        refine ⟨q, hst, w, i1, i2, fun k hk => ?_, i4, i5, i6⟩
        rw [next k hk]
        by_cases hkt : k = t
        · subst hkt; rw [if_pos rfl, if_pos c1, hwt]
        · rw [if_neg hkt]
      · rw [bne_t c1, cond_true] at hst
        by_cases c2 : r.getD t 0 = -1
        · rw [c2, bne_self_eq_false, cond_false] at hst
          refine ⟨q, hst, w, i1, i2, fun k hk => ?_, i4, i5, i6⟩
          rw [next k hk]
          by_cases hkt : k = t
          · subst hkt; rw [if_pos rfl, if_neg c1, hwt, c2]
          · rw [if_neg hkt]
        · rw [bne_t c2, cond_true] at hst
          refine ⟨(q.1.set j.toNat (w.set t (-1)), true), hst, w.set t (-1), ?_, by rw [List.length_set]; exact i2, fun k hk => ?_, fun x hx => ?_, fun h => (by cases h), fun _ => .inr fun he => ?_⟩
          · show q.1.set j.toNat (w.set t (-1)) = _
            rw [i1, List.set_set]
          · rw [next k hk, getD_upd (by omega), if_neg c1]
          · rcases List.mem_or_eq_of_mem_set hx with h1 | h1
            · exact i4 x h1
            · rw [h1]; exact ⟨by omega, by omega⟩
          · have this : (w.set t (-1)).getD t 0 = r.getD t 0 := by rw [he]
            rw [getD_upd (by omega), if_pos rfl] at this
            exact c2 this.symm) nf 0 (X, again) (by omega) (by omega) (by omega) ⟨r, by
      rw [hrd]
      unfold row
      rw [getD_nat X j [] hj.1 (by omega), List.set_getElem_self], hl, fun k hk => by rw [if_neg (by omega)], hrow.ok, fun h => ⟨h, rfl⟩, .inl⟩
  have hw : w = joinR r v := by
    refine List.ext_getElem (by rw [q2, joinR_len hr hl, hl]) fun k a b => ?_
    have h1 := q3 k (by omega)
    rw [if_pos (by omega), ← joinR_get hr hl (by omega)] at h1
    rw [show w.getD k 0 = w[k] by simp [List.getD, a], show (joinR r v).getD k 0 = (joinR r v)[k] by simp [List.getD, b]] at h1
    exact h1
  have hup : updK X j v = X.set j.toNat w := by unfold updK; rw [← hrd, hw]
  have hsame : (updK X j v = X) ↔ w = r := by
    rw [hup]
    constructor
    · intro h1
      have this : row (X.set j.toNat w) j = row X j := by rw [h1]
      rw [row_set hj.1 (by omega) w hj.1, if_pos rfl, ← hrd] at this
      exact this
    · intro h1
      rw [h1, hrd]
      unfold row
      rw [getD_nat X j [] hj.1 (by omega), List.set_getElem_self]
  refine ⟨q.2, fun h => ⟨(q5 h).1, hsame.2 (q5 h).2⟩, fun h => (q6 h).imp id fun h1 h2 => h1 (hsame.1 h2), ?_⟩
  rw [show known_solve_l6 nf p to' t46 t25 r2 v g4 g2 g0 nf X again v to' 0 = _ from e, known_solve_l6, known_solve_b6, q1, ← hup]
  simp only [Int.lt_irrefl, decide_false, cond_false]

/-- where the program stands: it has grown; it is below all that take what comes out of them -/
structure Grow (n : Int) (m : Nat) (X Y : List (List Int)) (ag0 ag : Bool) : Prop where
  tab : TabK n m Y
  le : Lek X Y
  no : ag = false → ag0 = false ∧ Y = X
  yes : ag = true → ag0 = true ∨ rank X < rank Y
theorem Grow.trans {m : Nat} {X Y Z : List (List Int)} {a b c : Bool} (h1 : Grow n m X Y a b) (h2 : Grow n m Y Z b c) (hX : TabK n m X) : Grow n m X Z a c := by
  have l1 := rank_le (X := X) (Y := Y) (by rw [hX.len, h1.tab.len]) h1.le
  have l2 := rank_le (X := Y) (Y := Z) (by rw [h1.tab.len, h2.tab.len]) h2.le
  refine ⟨h2.tab, h1.le.trans h2.le, fun h => ?_, fun h => ?_⟩
  · obtain ⟨e1, e2⟩ := h2.no h
    obtain ⟨e3, e4⟩ := h1.no e1
    exact ⟨e3, e2.trans e4⟩
  · rcases h2.yes h with e | e
    · rcases h1.yes e with f | f
      · exact .inl f
      · exact .inr (by omega)
    · exact .inr (by omega)

/-- what comes out of one block is taken in -/
theorem solve_l4 (hn1 : 1 ≤ n) (hn6 : n ≤ 6) (hn : 20 ≤ nf) {m : Nat} {X : List (List Int)} (hX : TabK n m X) {v to' : List Int} (hv : Row n v) (hto : ∀ j ∈ to', 0 ≤ j ∧ j < m) (htl : to'.length ≤ 2) (again : Bool) (t25 : Int) (g2 : List (List Int) → Bool → Int → Option (List (List Int) × Unit)) (g0 : List (List Int) → Bool → Option (List (List Int) × Unit)) :
    ∃ Y ag, Grow n m X Y again ag ∧ (∀ Z, Lek X Z → (∀ j ∈ to', row Z j ≠ [] ∧ rle v (row Z j)) → Lek Y Z) ∧ (∀ j ∈ to', row Y j ≠ [] ∧ rle v (row Y j)) ∧
      known_solve_l4 nf p t25 (v, to', ()) g2 g0 nf X again v to' 0 = g2 Y ag (IntKind.i64.wrap (t25 + 1)) := by
  obtain ⟨fu', q, ⟨q1, q2, q3⟩, e⟩ := loop_inv (n := (to'.length : Int)) (F := fun fu t (q : List (List Int) × Bool) => known_solve_l4 nf p t25 (v, to', ()) g2 g0 fu q.1 q.2 v to' t)
    (fun t q => Grow n m X q.1 again q.2 ∧ (∀ Z, Lek X Z → (∀ j ∈ to', row Z j ≠ [] ∧ rle v (row Z j)) → Lek q.1 Z) ∧ ∀ k : Nat, (k : Int) < t → row q.1 (to'.getD k 0) ≠ [] ∧ rle v (row q.1 (to'.getD k 0))) (fun fu t q h0 ht hI => by
      obtain ⟨i1, i2, i3⟩ := hI
      have hjm := getD_mem (d := (0 : Int)) h0 ht
      have hj := hto _ hjm
      have hlX := i1.tab.len
      have hjl : to'.getD t.toNat 0 < q.1.length := by omega
      have hwp := wrap_step h0 ht (Nat.le_trans htl (by decide))
      have hin : inb (to'.getD t.toNat 0) q.1.length = true := inb_ok hj.1 hjl
      have hle := updK_le i1.tab hv hn1 hj.1 hjl
      have htab := updK_tab (j := to'.getD t.toNat 0) i1.tab hv
      have hrk := rank_le (X := q.1) (Y := updK q.1 (to'.getD t.toNat 0) v) (by rw [hlX, htab.len]) hle
      have key : ∀ (X1 : List (List Int)) (a1 : Bool), TabK n m X1 → row X1 (to'.getD t.toNat 0) ≠ [] → Grow n m X X1 again a1 → (∀ Z, Lek X Z → (∀ j ∈ to', row Z j ≠ [] ∧ rle v (row Z j)) → Lek X1 Z) → (∀ k : Nat, (k : Int) < t → row X1 (to'.getD k 0) ≠ [] ∧ rle v (row X1 (to'.getD k 0))) →
          ∃ s' : List (List Int) × Bool, known_solve_l6 nf p to' t t25 (v, to', ()) v (fun x1 x2 x3 x4 x5 => known_solve_l4 nf p t25 (v, to', ()) g2 g0 fu x1 x2 x3 x4 x5) g2 g0 nf X1 a1 v to' 0 = known_solve_l4 nf p t25 (v, to', ()) g2 g0 fu s'.1 s'.2 v to' (t + 1) ∧
            Grow n m X s'.1 again s'.2 ∧ (∀ Z, Lek X Z → (∀ j ∈ to', row Z j ≠ [] ∧ rle v (row Z j)) → Lek s'.1 Z) ∧ ∀ k : Nat, (k : Int) < t + 1 → row s'.1 (to'.getD k 0) ≠ [] ∧ rle v (row s'.1 (to'.getD k 0)) := fun X1 a1 h1 hne hG hS hK => by
        have hl1 : to'.getD t.toNat 0 < X1.length := by have := h1.len; omega
        obtain ⟨ag, g1, g3, g4⟩ := solve_l6 (nf := nf) (p := p) hn1 hn6 hn h1 hv hj hne a1 t25 (v, to', ()) (fun x1 x2 x3 x4 x5 => known_solve_l4 nf p t25 (v, to', ()) g2 g0 fu x1 x2 x3 x4 x5) g2 g0
        rw [hwp] at g4
        have hle1 := updK_le h1 hv hn1 hj.1 hl1
        have htab1 := updK_tab (j := to'.getD t.toNat 0) h1 hv
        have hrk1 := rank_le (X := X1) (Y := updK X1 (to'.getD t.toNat 0) v) (by rw [h1.len, htab1.len]) hle1
        have hG2 : Grow n m X1 (updK X1 (to'.getD t.toNat 0) v) a1 ag := ⟨htab1, hle1, g1, fun h => (g3 h).imp id fun h2 => by
          rcases Nat.lt_or_ge (rank X1) (rank (updK X1 (to'.getD t.toNat 0) v)) with h4 | h4
          · exact h4
          · exact absurd (hrk1.2 (by omega)).symm h2⟩
        refine ⟨(_, ag), g4, hG.trans hG2 hX, fun Z hZ1 hZ2 => updK_lub hj.1 hl1 (hS Z hZ1 hZ2) (hZ2 _ hjm), fun k hk => ?_⟩
        show row (updK X1 (to'.getD t.toNat 0) v) (to'.getD k 0) ≠ [] ∧ rle v (row (updK X1 (to'.getD t.toNat 0) v) (to'.getD k 0))
        by_cases hkt : (k : Int) < t
        · obtain ⟨a, b⟩ := hK k hkt
          have hkm := hto _ (getD_mem (l := to') (t := (k : Int)) (d := 0) (by omega) (by omega))
          rw [Int.toNat_natCast] at hkm
          obtain ⟨c, d⟩ := (hle1 _ hkm.1).resolve_left a
          exact ⟨c, b.trans d⟩
        · have : k = t.toNat := by omega
          subst this
          exact updK_in h1 hv hn1 hj.1 hl1
      have hst : known_solve_l4 nf p t25 (v, to', ()) g2 g0 (fu + 1) q.1 q.2 v to' t = known_solve_b4 nf (fun _ p1 p2 _ _ p5 v0 v1 v2 v3 v4 => known_solve_l6 nf p p1 p2 t25 (v, to', ()) p5 (fun x1 x2 x3 x4 x5 => known_solve_l4 nf p t25 (v, to', ()) g2 g0 fu x1 x2 x3 x4 x5) g2 g0 nf v0 v1 v2 v3 v4) p t25 (v, to', ()) g2 g0 (known_solve_l4 nf p t25 (v, to', ()) g2 g0 fu) q.1 q.2 v to' t := rfl
      have hlen2 : v.length ≤ 100 := by have := hv.len; omega
      have hve : List.isEmpty v = false := by
        cases hq : v with
        | nil => have := hv.len; rw [hq] at this; simp at this; omega
        | cons => rfl
      unfold known_solve_b4 at hst
      simp only [ht, decide_true, cond_true, inb_ok h0 ht, hin, clone_F v hlen2, Option.bind_some, hve, Bool.not_false] at hst
      have erow : q.1.getD (to'.getD t.toNat 0).toNat [] = row q.1 (to'.getD t.toNat 0) := rfl
      rw [erow] at hst
      rw [hst]
      by_cases hne : row q.1 (to'.getD t.toNat 0) = []
      · rw [hne, List.isEmpty_nil, cond_true]
        have hset : q.1.set (to'.getD t.toNat 0).toNat v = updK q.1 (to'.getD t.toNat 0) v := by unfold updK; rw [hne]; rfl
        rw [hset]
        obtain ⟨u1, u2⟩ := updK_in (X := q.1) i1.tab hv hn1 hj.1 hjl
        have hG2 : Grow n m q.1 (updK q.1 (to'.getD t.toNat 0) v) q.2 true := ⟨htab, hle, fun h => (by cases h), fun _ => .inr (by
          rcases Nat.lt_or_ge (rank q.1) (rank (updK q.1 (to'.getD t.toNat 0) v)) with h4 | h4
          · exact h4
          · have h5 := hrk.2 (by omega)
            rw [← h5] at u1
            exact absurd hne u1)⟩
        refine key _ _ htab u1 (i1.trans hG2 hX) (fun Z hZ1 hZ2 => updK_lub hj.1 hjl (i2 Z hZ1 hZ2) (hZ2 _ hjm)) fun k hk => ?_
        obtain ⟨a, b⟩ := i3 k hk
        have hkm := hto _ (getD_mem (l := to') (t := (k : Int)) (d := 0) (by omega) (by omega))
        rw [Int.toNat_natCast] at hkm
        obtain ⟨c, d⟩ := (hle _ hkm.1).resolve_left a
        exact ⟨c, b.trans d⟩
      · have he : List.isEmpty (row q.1 (to'.getD t.toNat 0)) = false := by
          cases hq : row q.1 (to'.getD t.toNat 0) with
          | nil => exact absurd hq hne
          | cons => rfl
        rw [he, cond_false]
        exact key q.1 q.2 i1.tab hne i1 i2 i3) nf 0 (X, again) (by omega) (by omega) (by omega) ⟨⟨hX, Lek.refl X, fun h => ⟨h, rfl⟩, .inl⟩, fun Z h _ => h, fun k hk => by omega⟩
  refine ⟨q.1, q.2, q1, q2, fun j hj => ?_, ?_⟩
  · obtain ⟨k, hk, rfl⟩ := List.mem_iff_getElem.1 hj
    have := q3 k (by omega)
    rwa [show to'.getD k 0 = to'[k] by simp [List.getD, hk]] at this
  · rw [show known_solve_l4 nf p t25 (v, to', ()) g2 g0 nf X again v to' 0 = _ from e, known_solve_l4, known_solve_b4]
    simp only [Int.lt_irrefl, decide_false, cond_false]

/-- the blocks of a program are well made -/
structure Made (n : Int) (p : List Blk) (nf : Nat) : Prop where
  n1 : 1 ≤ n
  n6 : n ≤ 6
  p1 : 1 ≤ p.length
  p8 : p.length ≤ 8
  ok : ∀ b ∈ p, blockCode n p.length b = 0
  fit : ∀ b ∈ p, b.1.length ≤ maxLen ∧ b.1.length < nf
abbrev B0 : Blk := ([], 0, 0, 0, ())

/-- one round over all blocks -/
theorem solve_l2 (hp : Made n p nf) (hn : 20 ≤ nf) {have' : List Int} {X : List (List Int)} (hX : TabK n p.length X) (hX0 : row X 0 ≠ [] ∧ rle have' (row X 0)) (g0 : List (List Int) → Bool → Option (List (List Int) × Unit)) :
    ∃ Y ag, Grow n p.length X Y false ag ∧ (∀ Z, TabK n p.length Z → Takes p have' Z Z → Lek X Z → Lek Y Z) ∧ (ag = false → Takes p have' X X) ∧ known_solve_l2 nf p g0 nf X false 0 = g0 Y ag := by
  have hp8 := hp.p8
  obtain ⟨fu', q, ⟨q1, q2, q3⟩, e⟩ := loop_inv (n := (p.length : Int)) (F := fun fu t (q : List (List Int) × Bool) => known_solve_l2 nf p g0 fu q.1 q.2 t)
    (fun t q => Grow n p.length X q.1 false q.2 ∧ (∀ Z, TabK n p.length Z → Takes p have' Z Z → Lek X Z → Lek q.1 Z) ∧
      (q.2 = false → ∀ i : Int, 0 ≤ i → i < t → row X i ≠ [] → ∀ j ∈ goes (p.getD i.toNat B0) (rowF (p.getD i.toNat B0).1 (row X i)), row X j ≠ [] ∧ rle (rowF (p.getD i.toNat B0).1 (row X i)) (row X j))) (fun fu t q h0 ht hI => by
      obtain ⟨i1, i2, i3⟩ := hI
      have hbm := getD_mem (d := B0) h0 ht
      have hb := hp.ok _ hbm
      obtain ⟨f1, f2⟩ := hp.fit _ hbm
      have hsc := stepsGo_all (blockCode_ok hb).1
      have hwp := wrap_step h0 ht (Nat.le_trans hp8 (by decide))
      have hlq := i1.tab.len
      have hin : inb t q.1.length = true := inb_ok h0 (by omega)
      have hst : known_solve_l2 nf p g0 (fu + 1) q.1 q.2 t = known_solve_b2 nf (fun _ p1 p2 v0 v1 v2 v3 v4 => known_solve_l4 nf p p1 p2 (fun in'2 again2 t25 => known_solve_l2 nf p g0 fu in'2 again2 t25) g0 nf v0 v1 v2 v3 v4) p g0 (known_solve_l2 nf p g0 fu) q.1 q.2 t := rfl
      have erow : q.1.getD t.toNat [] = row q.1 t := rfl
      unfold known_solve_b2 at hst
      simp only [ht, decide_true, cond_true, inb_ok h0 ht, hin, erow, hwp] at hst
      by_cases hne : row q.1 t = []
      · rw [hne, List.isEmpty_nil, cond_true] at hst
        refine ⟨q, hst, i1, i2, fun hag i a b hri => ?_⟩
        by_cases hit : i = t
        · subst hit
          rw [(i1.no hag).2] at hne
          exact absurd hne hri
        · exact i3 hag i a (by omega) hri
      · have he : List.isEmpty (row q.1 t) = false := by
          cases hq : row q.1 t with
          | nil => exact absurd hq hne
          | cons => rfl
        have hrow := (i1.tab.row t).resolve_left hne
        have hbe := behind_F (nf := nf) hp.n6 hb f1 f2 hrow
        rw [he, cond_false, hbe] at hst
        simp only [Option.bind_some, both_self] at hst
        obtain ⟨Y, ag, g1, g2, g3, g4⟩ := solve_l4 (nf := nf) (p := p) hp.n1 hp.n6 hn i1.tab (rowF_row hsc hrow) (goes_in hb) (goes_len _ _) q.2 t (fun in'2 again2 t25 => known_solve_l2 nf p g0 fu in'2 again2 t25) g0
        rw [hwp] at g4
        refine ⟨(Y, ag), hst.trans g4, i1.trans g1 hX, fun Z hZ hP hXZ => ?_, fun hag i a b hri j hj => ?_⟩
        · have hqZ := i2 Z hZ hP hXZ
          refine g2 Z hqZ fun j hj => ?_
          obtain ⟨a, b⟩ := (hqZ t h0).resolve_left hne
          have hm := rowF_mono (p.getD t.toNat B0).1 b
          obtain ⟨c, d⟩ := hP.2 t h0 ht a j (goes_mono hm j hj)
          exact ⟨c, hm.trans d⟩
        · obtain ⟨e1, e2⟩ := g1.no hag
          have e3 := (i1.no e1).2
          by_cases hit : i = t
          · subst hit
            have hYX : Y = X := e2.trans e3
            rw [e3, hYX] at g3
            exact g3 j hj
          · exact i3 e1 i a (by omega) hri j hj) nf 0 (X, false) (by omega) (by omega) (by omega) ⟨⟨hX, Lek.refl X, fun h => ⟨h, rfl⟩, .inl⟩, fun Z _ _ h => h, fun _ i a b => by omega⟩
  refine ⟨q.1, q.2, q1, q2, fun h => ⟨hX0, q3 h⟩, ?_⟩
  rw [show known_solve_l2 nf p g0 nf X false 0 = _ from e, known_solve_l2, known_solve_b2]
  simp only [Int.lt_irrefl, decide_false, cond_false]

/-- the least table that has all that comes out of it -/
def Least (n : Int) (p : List Blk) (have' : List Int) (R : List (List Int)) : Prop := TabK n p.length R ∧ Takes p have' R R ∧ ∀ Z, TabK n p.length Z → Takes p have' Z Z → Lek R Z

theorem solve_l0 (hp : Made n p nf) (hn : 20 ≤ nf) {have' : List Int} : ∀ (fu : Nat) (X : List (List Int)), TabK n p.length X → row X 0 ≠ [] ∧ rle have' (row X 0) → (∀ Z, TabK n p.length Z → Takes p have' Z Z → Lek X Z) → 58 ≤ fu + rank X →
    ∃ R, Least n p have' R ∧ known_solve_l0 nf p fu X true = some (R, ())
  | 0, X, hX, _, _, hfu => by
    have := rank_top hp.n6 hX.rows
    have := hX.len
    have := hp.p8
    omega
  | fu + 1, X, hX, h0, hL, hfu => by
    obtain ⟨Y, ag, g1, g2, g3, g4⟩ := solve_l2 hp hn hX h0 (fun in' again => known_solve_l0 nf p fu in' again)
    have hst : known_solve_l0 nf p (fu + 1) X true = known_solve_l0 nf p fu Y ag := g4
    rw [hst]
    cases ag with
    | true =>
      have hlt := (g1.yes rfl).resolve_left (by decide)
      obtain ⟨c, d⟩ := (g1.le 0 (by omega)).resolve_left h0.1
      exact solve_l0 hp hn fu Y g1.tab ⟨c, h0.2.trans d⟩ (fun Z hZ hP => g2 Z hZ hP (hL Z hZ hP)) (by omega)
    | false =>
      obtain ⟨_, rfl⟩ := g1.no rfl
      have := rank_top hp.n6 hX.rows
      have := hX.len
      have := hp.p8
      obtain ⟨fu', rfl⟩ : ∃ k, fu = k + 1 := ⟨fu - 1, by omega⟩
      exact ⟨Y, ⟨hX, g3 rfl, hL⟩, rfl⟩

theorem start_row (hp : Made n p nf) {have' : List Int} (hh : Row n have') : TabK n p.length ((List.replicate p.length ([] : List Int)).set 0 have') ∧ (∀ i : Int, 0 ≤ i → row ((List.replicate p.length ([] : List Int)).set 0 have') i = if i = 0 then have' else []) ∧ have' ≠ [] := by
  have hp1 := hp.p1
  refine ⟨⟨by simp, fun r hr => ?_⟩, fun i i0 => ?_, fun e => ?_⟩
  · rcases List.mem_or_eq_of_mem_set hr with h1 | h1
    · exact .inl (List.mem_replicate.1 h1).2
    · rw [h1]; exact .inr hh
  · have := row_set (X := List.replicate p.length ([] : List Int)) (j := 0) (by omega) (by simp; omega) have' i0
    rw [show (0 : Int).toNat = 0 from rfl] at this
    rw [this]
    split
    · rfl
    · unfold row
      rw [List.getD_eq_getElem?_getD, List.getElem?_replicate]
      split <;> rfl
  · have h1 := hh.len
    rw [e, List.length_nil] at h1
    have := hp.n1
    omega

theorem solve_F (hp : Made n p nf) (hn : 100 ≤ nf) {have' : List Int} (hh : Row n have') : ∃ R, Least n p have' R ∧ known_solve_f nf p have' = some (R, ()) := by
  have hp1 := hp.p1
  have hp8 := hp.p8
  have hlen : have'.length ≤ 100 := by have := hh.len; have := hp.n6; omega
  obtain ⟨t1, t2, t3⟩ := start_row hp hh
  have hr0 : row ((List.replicate p.length ([] : List Int)).set 0 have') 0 = have' := by rw [t2 0 (by omega), if_pos rfl]
  obtain ⟨R, r1, r2⟩ := solve_l0 hp (by omega) nf _ t1 ⟨by rw [hr0]; exact t3, by rw [hr0]; exact rle.refl _⟩ (fun Z hZ hP i i0 => by
    rw [t2 i i0]
    split
    · rename_i h; subst h; exact .inr hP.1
    · exact .inl rfl) (by omega)
  refine ⟨R, r1, ?_⟩
  have hlim : (p.length : Int) ≤ (lim : Int) := by have : lim = 4294967296 := rfl; omega
  have he : List.isEmpty have' = false := by
    cases hq : have' with
    | nil => exact absurd hq t3
    | cons => rfl
  simp only [known_solve_f, known_solve_p, show (0 : Int) ≤ (p.length : Int) by omega, Int.le_refl, hlim, decide_true, Bool.and_self, cond_true, clone_F have' hlen, Option.bind_some, Int.toNat_natCast, List.length_replicate, inb_ok (n := p.length) (t := 0) (by omega) (by omega), he, Bool.not_false]
  exact r2
end Go.Proofs.Ytokjogplnoeicaa
