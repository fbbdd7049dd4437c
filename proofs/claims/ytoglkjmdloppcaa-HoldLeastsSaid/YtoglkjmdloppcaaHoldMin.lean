/- hold.Min: the one asked for again last goes. -/
import Derived.Test.YtoglkjmdloppcaaFn1
import Derived.Test.YtoglkjmdloppcaaLeast
namespace Go.Proofs.Ytoglkjmdloppcaa
open Go Go.Ab S

variable {nf : Nat} {names refs : List Int} {places : Int}

theorem wrapI {x : Int} (h0 : -1000000 ≤ x) (h1 : x ≤ 1000000) : IntKind.i64.wrap x = x := Go.IntWalk.i64_in _ ⟨by omega, by omega⟩
theorem getD_el (l : List Int) {k : Nat} (hk : k < l.length) : l.getD k 0 = l[k] := by simp [List.getD, hk]
def ixo : List Int → Int → Nat
  | [], _ => 0
  | y :: l, x => if y = x then 0 else ixo l x + 1
theorem ixo_in : ∀ {l : List Int} {x : Int}, x ∈ l → ixo l x < l.length ∧ l.getD (ixo l x) 0 = x
  | [], x, h => by cases h
  | y :: l, x, h => by
    simp only [ixo]
    by_cases hy : y = x
    · rw [if_pos hy]; exact ⟨Nat.zero_lt_succ _, hy⟩
    · rw [if_neg hy]
      obtain ⟨a, b⟩ := ixo_in ((List.mem_cons.1 h).resolve_left fun e => hy e.symm)
      exact ⟨Nat.succ_lt_succ a, b⟩
theorem nod_inj {l : List Int} (h : l.Nodup) {i j : Nat} (hi : i < l.length) (hj : j < l.length) (he : l.getD i 0 = l.getD j 0) : i = j := by
  rw [getD_el l hi, getD_el l hj] at he
  have hp := List.pairwise_iff_getElem.1 h
  apply Classical.byContradiction
  intro hn
  by_cases hlt : i < j
  · exact hp i j hi hj hlt he
  · exact hp j i hj hi (by omega) he.symm

theorem index_go (x : Int) : ∀ (rest don : List Int) (fu : Nat), (don ++ rest).length ≤ 1000 → rest.length < fu → slices_Index_l0 nf (don ++ rest) x fu (don.length : Int) = some (if x ∈ rest then ((don.length + ixo rest x : Nat) : Int) else -1, ())
  | _, _, 0, _, h => by omega
  | [], don, fu + 1, _, _ => by
    rw [slices_Index_l0, slices_Index_b0]
    simp
  | y :: rest, don, fu + 1, hl, hf => by
    have ih := index_go x rest (don ++ [y]) fu (by rw [List.append_assoc]; exact hl) (by simp only [List.length_cons] at hf; omega)
    rw [List.append_assoc, List.singleton_append, List.length_append, List.length_singleton] at ih
    rw [List.length_append, List.length_cons] at hl
    have hlt : (don.length : Int) < ((don ++ y :: rest).length : Int) := by rw [List.length_append, List.length_cons]; omega
    have hg : (don ++ y :: rest).getD ((don.length : Int)).toNat 0 = y := by simp [List.getD]
    rw [slices_Index_l0, slices_Index_b0, inb_ok (by omega) hlt, hg, wrapI (by omega) (by omega : (don.length : Int) + 1 ≤ 1000000)]
    simp only [hlt, decide_true, cond_true]
    by_cases hy : x = y
    · subst hy
      rw [beq_self_eq_true, cond_true, if_pos (by simp)]
      simp [ixo]
    · rw [beq_f hy, cond_false, show (don.length : Int) + 1 = ((don.length + 1 : Nat) : Int) by omega, ih]
      have e1 : (x ∈ y :: rest) ↔ x ∈ rest := by simp [hy]
      by_cases hm : x ∈ rest
      · rw [if_pos hm, if_pos (e1.2 hm)]
        simp only [ixo, if_neg (fun e => hy e.symm : ¬ y = x)]
        rw [show don.length + 1 + ixo rest x = don.length + (ixo rest x + 1) by omega]
      · rw [if_neg hm, if_neg (fun h => hm (e1.1 h))]
theorem index_F (l : List Int) (x : Int) (hl : l.length ≤ 1000) (hf : 2000 ≤ nf) : slices_Index_f nf l x = some (if x ∈ l then (ixo l x : Int) else -1, ()) := by
  have := index_go (nf := nf) x l [] nf (by simpa using hl) (by omega)
  simp only [List.nil_append, List.length_nil, Nat.zero_add] at this
  exact this

/-! sets of places -/
def setOf (names there : List Int) : Sset := fun j => decide (j < names.length) && decide (names.getD j 0 ∈ there)
theorem setOf_t {there : List Int} {j : Nat} : setOf names there j = true ↔ j < names.length ∧ names.getD j 0 ∈ there := by simp only [setOf, Bool.and_eq_true, decide_eq_true_eq]
theorem setOf_at {there : List Int} {x : Int} (hx : x ∈ names) : setOf names there (ixo names x) = true ↔ x ∈ there := by
  obtain ⟨a, b⟩ := ixo_in hx
  rw [setOf_t, b]; exact ⟨fun h => h.2, fun h => ⟨a, h⟩⟩
theorem set_app (hn : names.Nodup) {there : List Int} {r : Int} (hr : r ∈ names) : setOf names (there ++ [r]) = addS (setOf names there) (ixo names r) := by
  obtain ⟨a, b⟩ := ixo_in hr
  funext j
  rw [Bool.eq_iff_iff, add_t, setOf_t, setOf_t, List.mem_append, List.mem_singleton]
  constructor
  · rintro ⟨h1, h2 | h2⟩
    · exact .inl ⟨h1, h2⟩
    · exact .inr (nod_inj hn h1 a (h2.trans b.symm))
  · rintro (h1 | rfl)
    · exact ⟨h1.1, .inl h1.2⟩
    · exact ⟨a, .inr b⟩
theorem set_del (hn : names.Nodup) {there : List Int} (ht : there.Nodup) {i : Nat} (hi : i < there.length) (hx : there.getD i 0 ∈ names) : setOf names (there.eraseIdx i) = delS (setOf names there) (ixo names (there.getD i 0)) := by
  obtain ⟨a, b⟩ := ixo_in hx
  funext j
  rw [Bool.eq_iff_iff, Go.Ab.del_t, setOf_t, setOf_t, List.mem_eraseIdx_iff_getElem]
  constructor
  · rintro ⟨h1, k, hk, hki, h2⟩
    refine ⟨⟨h1, by rw [← h2]; exact List.getElem_mem hk⟩, fun e => hki ?_⟩
    rw [e, b] at h2
    exact nod_inj ht hk hi (by rw [getD_el _ hk]; exact h2)
  · rintro ⟨⟨h1, h2⟩, h3⟩
    obtain ⟨k, hk, h4⟩ := List.mem_iff_getElem.1 h2
    refine ⟨h1, k, hk, fun e => h3 ?_, h4⟩
    subst e
    refine nod_inj hn h1 a ?_
    rw [b, ← h4, getD_el _ hk]
theorem cnt_set (hn : names.Nodup) : ∀ (there : List Int), there.Nodup → (∀ x ∈ there, x ∈ names) → cnt (setOf names there) names.length = there.length
  | [], _, _ => by
    have h5 : ∀ n, cnt (setOf names []) n = 0 := fun n => by
      induction n with
      | zero => rfl
      | succ n ih => simp [cnt, ih, setOf]
    exact h5 _
  | x :: l, hd, hs => by
    obtain ⟨h1, h2⟩ := List.nodup_cons.1 hd
    have hx := hs x (by simp)
    obtain ⟨a, b⟩ := ixo_in hx
    rw [cnt_flp (q := setOf names l) (i := ixo names x) ((setOf_at hx).2 (by simp)) (by
      cases h : setOf names l (ixo names x) with
      | false => rfl
      | true => exact absurd ((setOf_at hx).1 h) h1) (fun j hj hne => by
      rw [Bool.eq_iff_iff, setOf_t, setOf_t, List.mem_cons]
      constructor
      · rintro ⟨h3, h4 | h4⟩
        · exact absurd (nod_inj hn h3 a (h4.trans b.symm)) hne
        · exact ⟨h3, h4⟩
      · rintro ⟨h3, h4⟩; exact ⟨h3, .inr h4⟩) a, cnt_set hn l h2 fun y hy => hs y (by simp [hy])]
    rfl

/-! how soon -/
theorem soon_ix {x : Int} (hx : x ∈ names) : ∀ (rest : List Int), (∀ r ∈ rest, r ∈ names) → soon (ixo names x) (rest.map (ixo names)) = if x ∈ rest then ixo rest x else rest.length
  | [], _ => rfl
  | r :: rest, h => by
    have ih := soon_ix hx rest fun y hy => h y (by simp [hy])
    simp only [List.map_cons, soon, ixo]
    by_cases hr : r = x
    · subst hr; rw [if_pos rfl, if_pos (by simp), if_pos rfl]
    · have hne : ¬ ixo names r = ixo names x := fun e => hr (by
        obtain ⟨_, a⟩ := ixo_in (h r (by simp))
        obtain ⟨_, b⟩ := ixo_in hx
        rw [← a, ← b, e])
      have e1 : (x ∈ r :: rest) ↔ x ∈ rest := ⟨fun h => (List.mem_cons.1 h).resolve_left fun e => hr e.symm, fun h => List.mem_cons_of_mem _ h⟩
      rw [if_neg hne, ih]
      by_cases hm : x ∈ rest
      · rw [if_pos hm, if_pos (e1.2 hm), if_neg hr]
      · rw [if_neg hm, if_neg (fun q => hm (e1.1 q)), List.length_cons]
def val (refs : List Int) (k : Nat) (x : Int) : Int := if x ∈ refs.drop k then (ixo (refs.drop k) x : Int) else refs.length
theorem val_0 (k : Nat) (x : Int) : 0 ≤ val refs k x := by unfold val; split <;> omega
theorem soon_le (hs : ∀ r ∈ refs, r ∈ names) {k : Nat} {x y : Int} (hx : x ∈ names) (hy : y ∈ names) (h : val refs k y ≤ val refs k x) : soon (ixo names y) ((refs.drop k).map (ixo names)) ≤ soon (ixo names x) ((refs.drop k).map (ixo names)) := by
  have hd : ∀ r ∈ refs.drop k, r ∈ names := fun r hr => hs r (List.mem_of_mem_drop hr)
  rw [soon_ix hx _ hd, soon_ix hy _ hd]
  unfold val at h
  have hl : (refs.drop k).length ≤ refs.length := by rw [List.length_drop]; omega
  by_cases h1 : y ∈ refs.drop k
  · rw [if_pos h1] at h ⊢
    by_cases h2 : x ∈ refs.drop k
    · rw [if_pos h2] at h ⊢; omega
    · rw [if_neg h2]; have := (ixo_in h1).1; omega
  · rw [if_neg h1] at h ⊢
    by_cases h2 : x ∈ refs.drop k
    · rw [if_pos h2] at h ⊢; have := (ixo_in h2).1; omega
    · rw [if_neg h2]; exact Nat.le_refl _

theorem min1_F (h20 : refs.length ≤ 20) (hf : 2000 ≤ nf) {k : Nat} (hk : k < refs.length) {there : List Int} (ht : there.length ≤ 8) (h1 : 1 ≤ there.length) :
    ∃ i : Nat, hold_Min_1_f nf k there refs = some ((i : Int), ()) ∧ i < there.length ∧ ∀ y ∈ there, val refs k y ≤ val refs k (there.getD i 0) := by
  simp only [hold_Min_1_f, hold_Min_1_p]
  obtain ⟨fu', s, hs, e⟩ := loop_inv (n := (there.length : Int)) (F := fun fu t (s : Int × Int) => hold_Min_1_l0 nf k there refs fu s.1 s.2 t)
    (fun t s => (t = 0 ∧ s = (0, -1)) ∨ (0 ≤ s.1 ∧ s.1 < t ∧ s.2 = val refs k (there.getD s.1.toNat 0) ∧ ∀ j : Int, 0 ≤ j → j < t → val refs k (there.getD j.toNat 0) ≤ s.2)) (fun fu t s t0 t1 hI => by
      obtain ⟨best, far⟩ := s
      have hw : IntKind.i64.wrap (t + 1) = t + 1 := wrapI (by omega) (by omega)
      have hstep : hold_Min_1_l0 nf k there refs (fu + 1) best far t = if val refs k (there.getD t.toNat 0) > far then hold_Min_1_l0 nf k there refs fu t (val refs k (there.getD t.toNat 0)) (t + 1) else hold_Min_1_l0 nf k there refs fu best far (t + 1) := by
        have htk : List.take ((refs.length : Int) - (k : Int)).toNat (List.drop ((k : Int)).toNat refs) = refs.drop k := by
          rw [Int.toNat_natCast]; exact List.take_of_length_le (by rw [List.length_drop]; omega)
        rw [hold_Min_1_l0, hold_Min_1_b0, inb_ok t0 t1, hw, htk, index_F _ _ (by rw [List.length_drop]; omega) hf]
        have c1 : (0 : Int) ≤ (k : Int) := by omega
        have c2 : (k : Int) ≤ (refs.length : Int) := by omega
        simp only [t1, c1, c2, Int.le_refl, decide_true, Bool.and_self, cond_true, Option.bind_some]
        unfold val
        by_cases hm : there.getD t.toNat 0 ∈ refs.drop k
        · simp only [if_pos hm]
          have hn : ¬ ((ixo (refs.drop k) (there.getD t.toNat 0) : Nat) : Int) < 0 := by omega
          rw [decide_eq_false hn, cond_false]
          by_cases hc : ((ixo (refs.drop k) (there.getD t.toNat 0) : Nat) : Int) > far
          · rw [decide_eq_true hc, cond_true, if_pos hc]
          · rw [decide_eq_false hc, cond_false, if_neg hc]
        · simp only [if_neg hm]
          have hn : (-1 : Int) < 0 := by decide
          rw [decide_eq_true hn, cond_true]
          by_cases hc : (refs.length : Int) > far
          · rw [decide_eq_true hc, cond_true, if_pos hc]
          · rw [decide_eq_false hc, cond_false, if_neg hc]
      by_cases hc : val refs k (there.getD t.toNat 0) > far
      · refine ⟨(t, val refs k (there.getD t.toNat 0)), by simp only; rw [hstep, if_pos hc], .inr ⟨t0, by simp only; omega, rfl, fun j j0 j1 => ?_⟩⟩
        by_cases hj : j < t
        · rcases hI with ⟨h, _⟩ | ⟨_, _, _, h⟩
          · omega
          · have h2 := h j j0 hj
            simp only at h2 ⊢; omega
        · have : j = t := by omega
          subst this; exact Int.le_refl _
      · refine ⟨(best, far), by simp only; rw [hstep, if_neg hc], ?_⟩
        rcases hI with ⟨h, h2⟩ | ⟨h2, h3, h4, h5⟩
        · cases h2
          have := val_0 (refs := refs) k (there.getD t.toNat 0)
          omega
        · refine .inr ⟨h2, by omega, h4, fun j j0 j1 => ?_⟩
          by_cases hj : j < t
          · exact h5 j j0 hj
          · have : j = t := by omega
            subst this; simp only; omega) nf 0 (0, -1) (by omega) (by omega) (by omega) (.inl ⟨rfl, rfl⟩)
  obtain ⟨best, far⟩ := s
  rcases hs with ⟨h, _⟩ | ⟨h2, h3, h4, h5⟩
  · omega
  · simp only at h2 h3 h4 h5
    refine ⟨best.toNat, ?_, by omega, fun y hy => ?_⟩
    · have e' : hold_Min_1_l0 nf k there refs nf 0 (-1) 0 = hold_Min_1_l0 nf k there refs (fu' + 1) best far (there.length : Int) := e
      rw [e', hold_Min_1_l0, hold_Min_1_b0]
      simp only [Int.lt_irrefl, decide_false, cond_false]
      rw [show ((best.toNat : Nat) : Int) = best by omega]
    · obtain ⟨j, hj, rfl⟩ := List.mem_iff_getElem.1 hy
      have := h5 (j : Int) (by omega) (by omega)
      rw [Int.toNat_natCast, getD_el _ hj] at this
      rw [← h4]; exact this

theorem play_F (hn : names.Nodup) (hs : ∀ r ∈ refs, r ∈ names) (h20 : refs.length ≤ 20) (hp1 : 1 ≤ places) (hp8 : places ≤ 8) (hf : 2000 ≤ nf) : ∀ (fu t : Nat) (there : List Int) (miss : Int), t ≤ refs.length → there.Nodup → (∀ x ∈ there, x ∈ names) → (there.length : Int) ≤ places → 0 ≤ miss → miss ≤ t → refs.length < t + fu →
    ∃ g : Nat, hold_play__hold_Min_1_l0 nf refs places false (refs, ()) fu there miss t = some (miss + g, ()) ∧ Least places.toNat names.length ((refs.drop t).map (ixo names)) (setOf names there) g
  | 0, t, there, miss, h1, _, _, _, _, _, hfu => by omega
  | fu + 1, t, there, miss, h1, hd, hsub, hlen, hm0, hm1, hfu => by
    rw [hold_play__hold_Min_1_l0, hold_play__hold_Min_1_b0]
    by_cases ht : t < refs.length
    · have htI : (t : Int) < (refs.length : Int) := by omega
      have hrm : refs.getD t 0 ∈ refs := by rw [getD_el _ ht]; exact List.getElem_mem ht
      have hrn := hs _ hrm
      have hw : IntKind.i64.wrap ((t : Int) + 1) = ((t + 1 : Nat) : Int) := by rw [wrapI (by omega) (by omega)]; rfl
      have hwm : IntKind.i64.wrap (miss + 1) = miss + 1 := wrapI (by omega) (by omega)
      have hdrop : (refs.drop t).map (ixo names) = ixo names (refs.getD t 0) :: (refs.drop (t + 1)).map (ixo names) := by
        rw [List.drop_eq_getElem_cons ht, List.map_cons, getD_el _ ht]
      rw [inb_ok (by omega) htI, Int.toNat_natCast, index_F there _ (by omega) hf, hw, hwm, hdrop]
      simp only [htI, decide_true, cond_true, Option.bind_some]
      have hdropR := hdrop
      generalize refs.getD t 0 = r at hrm hrn hdropR ⊢
      have hcs := cnt_set hn there hd hsub
      have hS : SOK places.toNat names.length (setOf names there) := ⟨by omega, fun i hi => (setOf_t.1 hi).1⟩
      have hall : ∀ y ∈ ixo names r :: (refs.drop (t + 1)).map (ixo names), y < names.length := fun y hy => by
        rcases List.mem_cons.1 hy with rfl | hy
        · exact (ixo_in hrn).1
        · obtain ⟨z, hz, rfl⟩ := List.mem_map.1 hy
          exact (ixo_in (hs z (List.mem_of_mem_drop hz))).1
      by_cases hr : r ∈ there
      · obtain ⟨g, a, b⟩ := play_F hn hs h20 hp1 hp8 hf fu (t + 1) there miss (by omega) hd hsub hlen hm0 (by omega) (by omega)
        refine ⟨g, ?_, least_hit ((setOf_at hrn).2 hr) b⟩
        have hge : ((ixo there r : Nat) : Int) ≥ 0 := by omega
        rw [if_pos hr, decide_eq_true hge, cond_true]
        exact a
      · have hrf : setOf names there (ixo names r) = false := by
          cases h : setOf names there (ixo names r) with
          | false => rfl
          | true => exact absurd ((setOf_at hrn).1 h) hr
        have hnge : ¬ (-1 : Int) ≥ 0 := by decide
        rw [if_neg hr, decide_eq_false hnge, cond_false]
        by_cases hfull : (there.length : Int) = places
        · have hgo := min1_F (nf := nf) h20 hf ht (by omega : there.length ≤ 8) (by omega)
          obtain ⟨i, i1, i2, i3⟩ := hgo
          have hxn := hsub (there.getD i 0) (by rw [getD_el _ i2]; exact List.getElem_mem i2)
          have hxt : there.getD i 0 ∈ there := by rw [getD_el _ i2]; exact List.getElem_mem i2
          have hsl : List.Sublist (there.eraseIdx i) there := List.eraseIdx_sublist there i
          have hle : (there.eraseIdx i).length + 1 = there.length := by rw [List.length_eraseIdx_of_lt i2]; omega
          have hd' : (there.eraseIdx i ++ [r]).Nodup := List.nodup_append.2 ⟨hd.sublist hsl, by simp, fun a ha b hb e => by
            rw [List.mem_singleton] at hb
            subst hb e
            exact hr (hsl.subset ha)⟩
          obtain ⟨g, a, b⟩ := play_F hn hs h20 hp1 hp8 hf fu (t + 1) (there.eraseIdx i ++ [r]) (miss + 1) (by omega) hd' (fun x hx => by
            rcases List.mem_append.1 hx with hx | hx
            · exact hsub x (hsl.subset hx)
            · rw [List.mem_singleton] at hx; rw [hx]; exact hrn) (by rw [List.length_append, List.length_singleton]; omega) (by omega) (by omega) (by omega)
          rw [set_app hn hrn, set_del hn hd i2 hxn] at b
          have hrest : ∀ y : Nat, setOf names there y = true → soon y ((refs.drop (t + 1)).map (ixo names)) ≤ soon (ixo names (there.getD i 0)) ((refs.drop (t + 1)).map (ixo names)) := fun y hy => by
            obtain ⟨y1, y2⟩ := setOf_t.1 hy
            have hyn := hsub _ y2
            have hyx : ixo names (names.getD y 0) = y := nod_inj hn (ixo_in hyn).1 y1 (ixo_in hyn).2
            have := soon_le hs (k := t) hxn hyn (i3 _ y2)
            rw [hyx, hdropR] at this
            have e1 : ¬ ixo names r = y := fun e => by rw [e, hy] at hrf; cases hrf
            have e2 : ¬ ixo names r = ixo names (there.getD i 0) := fun e => by rw [e, (setOf_at hxn).2 hxt] at hrf; cases hrf
            simp only [soon, e1, e2, if_false] at this
            omega
          refine ⟨g + 1, ?_, least_out hall hS hrf (by omega) ((setOf_at hxn).2 hxt) hrest b⟩
          have hbl : Nat.ble ((there.eraseIdx i).length + 1) lim = true := ble_ok (by omega)
          have hwi : IntKind.i64.wrap ((i : Int) + 1) = ((i + 1 : Nat) : Int) := by rw [wrapI (by omega) (by omega)]; rfl
          have hde : slices_Delete_f nf there (i : Int) ((i + 1 : Nat) : Int) = some (there.eraseIdx i, ()) := by
            unfold slices_Delete_f
            have c3 : Nat.ble there.length lim = true := ble_ok (by omega)
            rw [decide_eq_true (by omega : (0 : Int) ≤ (i : Int)), decide_eq_true (by omega : (i : Int) ≤ ((i + 1 : Nat) : Int)), decide_eq_true (by omega : ((i + 1 : Nat) : Int) ≤ (there.length : Int)), c3, Int.toNat_natCast, Int.toNat_natCast, List.eraseIdx_eq_take_drop_succ]
            rfl
          have hni : ¬ (i : Int) < 0 := by omega
          rw [hfull, beq_self_eq_true, cond_true]
          simp only [i1, Option.bind_some, hni, decide_false, cond_false, hwi, hde, bimp, List.length_cons, List.length_nil, Nat.zero_add, hbl, Bool.not_false, Bool.true_or, Bool.and_self, cond_true]
          rw [a]
          rw [show miss + 1 + (g : Int) = miss + ((g + 1 : Nat) : Int) by omega]
        · obtain ⟨g, a, b⟩ := play_F hn hs h20 hp1 hp8 hf fu (t + 1) (there ++ [r]) (miss + 1) (by omega) (List.nodup_append.2 ⟨hd, by simp, fun a ha b hb e => by
            rw [List.mem_singleton] at hb
            subst hb e
            exact hr ha⟩) (fun x hx => by
            rcases List.mem_append.1 hx with hx | hx
            · exact hsub x hx
            · rw [List.mem_singleton] at hx; rw [hx]; exact hrn) (by rw [List.length_append, List.length_singleton]; omega) (by omega) (by omega) (by omega)
          rw [set_app hn hrn] at b
          refine ⟨g + 1, ?_, least_room hrf (by omega) b⟩
          have hbl : Nat.ble (there.length + 1) lim = true := ble_ok (by omega)
          rw [beq_f hfull, cond_false]
          simp only [bimp, List.length_cons, List.length_nil, Nat.zero_add, hbl, Bool.not_false, Bool.true_or, Bool.and_self, cond_true]
          rw [a, show miss + 1 + (g : Int) = miss + ((g + 1 : Nat) : Int) by omega]
    · have : t = refs.length := by omega
      subst this
      refine ⟨0, ?_, by rw [List.drop_length]; exact least_nil _⟩
      simp
end Go.Proofs.Ytoglkjmdloppcaa
