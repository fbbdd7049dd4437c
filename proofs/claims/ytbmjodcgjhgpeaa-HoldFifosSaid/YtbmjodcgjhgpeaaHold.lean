/- Few places, many things: a list in order, and places with times. -/
import Derived.Test.YtbmjodcgjhgpeaaFn1
import Derived.Test.YtbmjodcgjhgpeaaPos
namespace Go.Proofs.Ytbmjodcgjhgpeaa
open Go Go.Ab S

variable {nf : Nat}

theorem index_F (l : List Int) (x : Int) (hl : l.length ≤ maxLen) (hf : l.length < nf) : slices_Index_f nf l x = some (posI l x, ()) := by
  have h := loop_all (l := l) (d := 0) (F := fun fu t (_ : Unit) => slices_Index_l0 nf l x fu t) (fin := fun _ => some (-1, ()))
    (step := fun y t s k => bif x == y then some (t, ()) else k s) ?_ ?_ nf () hf
  · refine h.trans ((goL_pos (x := x) _ (fun y t k => ?_) l 0).trans ?_)
    · by_cases hy : y = x
      · subst hy; simp
      · have : (x == y) = false := by simpa using fun h => hy h.symm
        simp [hy, this]
    · simp [posI]
  · intro fu t s a b
    simp only [slices_Index_l0, slices_Index_b0, inb_ok a b, wrap_step a b hl, b, decide_true, cond_true]
  · intro fu t s a
    simp [slices_Index_l0, slices_Index_b0, a]

theorem delete_F {l : List Int} (hl : l.length ≤ 20) {i : Nat} (hi : i < l.length) : slices_Delete_f nf l (i : Int) (IntKind.i64.wrap ((i : Int) + 1)) = some (l.take i ++ l.drop (i + 1), ()) := by
  have e : IntKind.i64.wrap ((i : Int) + 1) = ((i + 1 : Nat) : Int) := by rw [Go.IntWalk.i64_in _ (by omega)]; omega
  simp only [slices_Delete_f, e, Int.toNat_natCast]
  have c1 : decide ((0 : Int) ≤ (i : Int)) = true := by simp
  have c2 : decide ((i : Int) ≤ ((i + 1 : Nat) : Int)) = true := decide_eq_true (by omega)
  have c3 : decide (((i + 1 : Nat) : Int) ≤ (l.length : Int)) = true := by simp; omega
  rw [c1, c2, c3, ble_ok (by omega)]
  rfl

abbrev TW := List (Int × Int)
/-- the list, the places and their times tell the same -/
structure Rel (t : Int) (there thr whn : List Int) : Prop where
  len : thr.length = whn.length
  once : thr.Nodup
  z : ∃ z : TW, there = z.map Prod.fst ∧ (thr.zip whn).Perm z ∧ z.Pairwise (fun a b => a.2 < b.2) ∧ ∀ p ∈ z, p.2 < t

theorem zip_fst {a b : List Int} (h : a.length = b.length) : (a.zip b).map Prod.fst = a := List.map_fst_zip (by omega)
theorem Rel.perm {t : Int} {there thr whn : List Int} (h : Rel t there thr whn) : there.Perm thr := by
  obtain ⟨z, rfl, hp, _⟩ := h.z
  have := (hp.map Prod.fst).symm
  rwa [zip_fst h.len] at this
theorem Rel.mem {t : Int} {there thr whn : List Int} (h : Rel t there thr whn) {x : Int} : x ∈ there ↔ x ∈ thr := h.perm.mem_iff
theorem Rel.tick {t : Int} {there thr whn : List Int} (h : Rel t there thr whn) : Rel (t + 1) there thr whn := by
  obtain ⟨z, h1, h2, h3, h4⟩ := h.z
  exact ⟨h.len, h.once, z, h1, h2, h3, fun p hp => by have := h4 p hp; omega⟩
theorem Rel.nil : Rel 0 [] [] [] := ⟨rfl, List.nodup_nil, [], rfl, List.Perm.refl _, List.Pairwise.nil, fun p hp => by cases hp⟩
/-- one comes -/
theorem Rel.come {t : Int} {there thr whn : List Int} (h : Rel t there thr whn) {r : Int} (hr : r ∉ there) : Rel (t + 1) (there ++ [r]) (thr ++ [r]) (whn ++ [t]) := by
  have hr2 : r ∉ thr := fun hh => hr (h.mem.2 hh)
  obtain ⟨z, rfl, h2, h3, h4⟩ := h.z
  refine ⟨by simp [h.len], List.nodup_append.2 ⟨h.once, by simp, fun a ha b hb => ?_⟩, z ++ [(r, t)], by simp, ?_, List.pairwise_append.2 ⟨h3, by simp, fun a ha b hb => ?_⟩, fun p hp => ?_⟩
  · simp only [List.mem_singleton] at hb; subst hb; rintro rfl; exact hr2 ha
  · rw [List.zip_append h.len]; exact h2.append_right _
  · simp only [List.mem_singleton] at hb; subst hb; exact h4 a ha
  · rcases List.mem_append.1 hp with hp | hp
    · have := h4 p hp; omega
    · simp only [List.mem_singleton] at hp; subst hp; show t < t + 1; omega

/-- what stands at one place goes, another one comes there -/
theorem zip_set {thr whn : List Int} (h : thr.length = whn.length) {k : Nat} (hk : k < thr.length) (r t : Int) :
    ∃ a b : TW, thr.zip whn = a ++ (thr.getD k 0, whn.getD k 0) :: b ∧ (thr.set k r).zip (whn.set k t) = a ++ (r, t) :: b := by
  refine ⟨(thr.zip whn).take k, (thr.zip whn).drop (k + 1), ?_, ?_⟩
  · have hz : k < (thr.zip whn).length := by rw [List.length_zip]; omega
    conv => lhs; rw [← List.take_append_drop k (thr.zip whn), List.drop_eq_getElem_cons hz]
    rw [List.getElem_zip]
    simp [List.getD_eq_getElem?_getD, hk, show k < whn.length by omega]
  · have e : (thr.set k r).zip (whn.set k t) = (thr.zip whn).set k (r, t) := by
      apply List.ext_getElem
      · simp
      · intro i h1 h2
        simp only [List.getElem_zip, List.getElem_set]
        split <;> rfl
    rw [e, List.set_eq_take_append_cons_drop, if_pos (by rw [List.length_zip]; omega)]

theorem Rel.swap {t : Int} {there thr whn : List Int} (h : Rel t there thr whn) {k j : Nat} (hk : k < thr.length) (hj : j < there.length) (he : there.getD j 0 = thr.getD k 0) {r : Int} (hr : r = thr.getD k 0 ∨ r ∉ thr) :
    Rel (t + 1) (there.take j ++ there.drop (j + 1) ++ [r]) (thr.set k r) (whn.set k t) := by
  obtain ⟨a, b, h1, h2⟩ := zip_set h.len hk r t
  have hlen := h.len
  obtain ⟨z, rfl, h3, h4, h5⟩ := h.z
  have hj' : j < z.length := by simpa using hj
  have hz : z = z.take j ++ z[j] :: z.drop (j + 1) := by
    conv => lhs; rw [← List.take_append_drop j z, List.drop_eq_getElem_cons hj']
  have hfst : z[j].1 = thr.getD k 0 := by
    rw [← he]; simp [List.getD_eq_getElem?_getD, hj']
  -- the pair is the same
  have hone : z[j] = (thr.getD k 0, whn.getD k 0) := by
    have hm : (thr.getD k 0, whn.getD k 0) ∈ z := h3.mem_iff.1 (by rw [h1]; simp)
    obtain ⟨i, hi, hi2⟩ := List.mem_iff_getElem.1 hm
    have hnd : (z.map Prod.fst).Nodup := by
      have := (h3.map Prod.fst).nodup_iff
      rw [zip_fst hlen] at this
      exact this.1 h.once
    have hij : i = j := by
      have e1 : (z.map Prod.fst)[i]'(by simpa using hi) = (z.map Prod.fst)[j]'(by simpa using hj') := by
        simp only [List.getElem_map]
        rw [hi2, hfst]
      exact (List.getElem_inj hnd).1 e1
    subst hij
    exact hi2
  have hsub : (z.take j ++ z.drop (j + 1)).Sublist z := by
    conv => rhs; rw [hz]
    exact List.Sublist.append (List.Sublist.refl _) (List.sublist_cons_self _ _)
  refine ⟨by simp [hlen], ?_, z.take j ++ z.drop (j + 1) ++ [(r, t)], by simp, ?_, List.pairwise_append.2 ⟨h4.sublist hsub, by simp, fun x hx y hy => ?_⟩, fun p hp => ?_⟩
  · rcases hr with rfl | hr
    · have : thr.set k (thr.getD k 0) = thr := by
        rw [List.getD_eq_getElem?_getD, List.getElem?_eq_getElem hk]
        exact List.set_getElem_self hk
      rw [this]; exact h.once
    · exact List.nodup_iff_pairwise_ne.2 (by
        have ho := h.once
        refine List.pairwise_iff_getElem.2 fun i j' hi hj hij => ?_
        simp only [List.length_set] at hi hj
        have := List.pairwise_iff_getElem.1 (List.nodup_iff_pairwise_ne.1 ho) i j' hi hj hij
        simp only [List.getElem_set]
        split
        · split
          · omega
          · exact fun h => hr (by rw [h]; exact List.getElem_mem _)
        · split
          · exact fun h => hr (by rw [← h]; exact List.getElem_mem _)
          · exact this)
  · rw [h2]
    have h6 : (a ++ b).Perm (z.take j ++ z.drop (j + 1)) := by
      have h7 : (z[j] :: (a ++ b)).Perm (z[j] :: (z.take j ++ z.drop (j + 1))) := by
        have e1 : (a ++ z[j] :: b).Perm (z.take j ++ z[j] :: z.drop (j + 1)) := by rw [← hz, hone, ← h1]; exact h3
        exact List.perm_middle.symm.trans (e1.trans List.perm_middle)
      exact h7.cons_inv
    exact List.perm_middle.trans (((h6.cons (r, t))).trans (List.perm_append_singleton _ _).symm)
  · simp only [List.mem_singleton] at hy; subst hy; exact h5 x (hsub.mem hx)
  · rcases List.mem_append.1 hp with hp | hp
    · have := h5 p (hsub.mem hp); omega
    · simp only [List.mem_singleton] at hp; subst hp; show t < t + 1; omega

/-- the one with the least time is the first one of the list -/
theorem Rel.least {t : Int} {there thr whn : List Int} (h : Rel t there thr whn) {k : Nat} (hk : k < thr.length) (hm : ∀ j, j < whn.length → whn.getD k 0 ≤ whn.getD j 0) : there.getD 0 0 = thr.getD k 0 := by
  have hlen := h.len
  obtain ⟨z, rfl, h3, h4, h5⟩ := h.z
  have hmem : (thr.getD k 0, whn.getD k 0) ∈ z := h3.mem_iff.1 (by
    obtain ⟨a, b, h1, _⟩ := zip_set hlen hk 0 0
    rw [h1]; simp)
  cases z with
  | nil => cases hmem
  | cons p z =>
    rcases List.mem_cons.1 hmem with hp | hp
    · rw [← hp]; rfl
    · have h6 := (List.pairwise_cons.1 h4).1 _ hp
      have h7 : p ∈ thr.zip whn := h3.mem_iff.2 (by simp)
      obtain ⟨i, hi, hi2⟩ := List.mem_iff_getElem.1 h7
      rw [List.getElem_zip] at hi2
      have hi3 : i < whn.length := by rw [List.length_zip] at hi; omega
      have := hm i hi3
      have h8 : whn.getD i 0 = p.2 := by rw [← hi2]; simp [List.getD_eq_getElem?_getD, hi3]
      simp only at h6
      omega

theorem nodup_at {l : List Int} (h : l.Nodup) {t : Int} (h0 : 0 ≤ t) (h1 : t < l.length) : l.getD t.toNat 0 ∉ l.take t.toNat := by
  intro hm
  rw [getD_nat l t 0 h0 h1] at hm
  rw [← List.take_append_drop t.toNat l, List.nodup_append] at h
  exact h.2.2 _ hm _ (by rw [List.drop_eq_getElem_cons (by omega)]; exact List.mem_cons_self) rfl

variable {refs : List Int} {places : Int} {lru : Bool}

theorem hold_l2 (hn : 100 ≤ nf) {thr whn : List Int} (h20 : thr.length ≤ 20) (ho : thr.Nodup) (miss t : Int) (g0 : List Int → List Int → Int → Int → Option (Int × Unit)) :
    ref_Hold_l2 nf refs places lru miss t thr g0 nf thr whn (-1) 0 = bif decide (posI thr (refs.getD t.toNat 0) ≥ 0) then
      (bif lru then (bif inb (posI thr (refs.getD t.toNat 0)) whn.length then g0 thr (whn.set (posI thr (refs.getD t.toNat 0)).toNat t) miss (IntKind.i64.wrap (t + 1)) else none) else g0 thr whn miss (IntKind.i64.wrap (t + 1)))
      else bif (thr.length : Int) == places then ref_Hold_l4 nf refs places lru miss t thr g0 nf thr whn 0 0
      else bif bimp false ![refs.getD t.toNat 0].isEmpty && (thr.length + [refs.getD t.toNat 0].length).ble lim then
          bif bimp false ![t].isEmpty && (whn.length + [t].length).ble lim then g0 (thr ++ [refs.getD t.toNat 0]) (whn ++ [t]) (IntKind.i64.wrap (miss + 1)) (IntKind.i64.wrap (t + 1)) else none
        else none := by
  have hm : thr.length ≤ maxLen := Nat.le_trans h20 (by decide)
  have key := loop_inv (n := thr.length) (F := fun fu u (at' : Int) => ref_Hold_l2 nf refs places lru miss t thr g0 fu thr whn at' u) (fun u at' => at' = posI (thr.take u.toNat) (refs.getD t.toNat 0)) ?_ nf 0 (-1) (Int.le_refl _) (by omega) (by omega) rfl
  · obtain ⟨fu, s, rfl, h⟩ := key
    refine h.trans ?_
    simp only [ref_Hold_l2]
    unfold ref_Hold_b2
    simp only [Int.lt_irrefl, decide_false, cond_false, Int.toNat_natCast, List.take_length]
  · rintro fu u s a b rfl
    refine ⟨_, ?_, rfl⟩
    simp only [ref_Hold_l2]
    unfold ref_Hold_b2
    simp only [b, decide_true, cond_true, inb_ok a b, wrap_step a b hm, take_snoc (d := (0 : Int)) a b, posI_snoc (nodup_at ho a b)]
    have e1 : ((thr.take u.toNat).length : Int) = u := by rw [List.length_take]; omega
    rw [e1]
    by_cases hx : refs.getD t.toNat 0 = thr.getD u.toNat 0
    · rw [if_pos hx, hx, beq_self_eq_true, cond_true]
    · rw [if_neg hx, show (thr.getD u.toNat 0 == refs.getD t.toNat 0) = false by simpa using fun h => hx h.symm, cond_false]

theorem hold_l4 (hn : 100 ≤ nf) {thr whn : List Int} (h20 : thr.length ≤ 20) (h1 : 1 ≤ thr.length) (hl : thr.length = whn.length) (miss t : Int) (g0 : List Int → List Int → Int → Int → Option (Int × Unit)) :
    ∃ k : Nat, k < thr.length ∧ (∀ j, j < whn.length → whn.getD k 0 ≤ whn.getD j 0) ∧ ref_Hold_l4 nf refs places lru miss t thr g0 nf thr whn 0 0 = g0 (thr.set k (refs.getD t.toNat 0)) (whn.set k t) (IntKind.i64.wrap (miss + 1)) (IntKind.i64.wrap (t + 1)) := by
  have hm : thr.length ≤ maxLen := Nat.le_trans h20 (by decide)
  have key := loop_inv (n := thr.length) (F := fun fu u (f : Int) => ref_Hold_l4 nf refs places lru miss t thr g0 fu thr whn f u) (fun u f => (0 ≤ f ∧ f < thr.length) ∧ ∀ j : Nat, (j : Int) < u → whn.getD f.toNat 0 ≤ whn.getD j 0) ?_ nf 0 0 (Int.le_refl _) (by omega) (by omega) ⟨⟨by omega, by omega⟩, fun j hj => by omega⟩
  · obtain ⟨fu, s, ⟨⟨hs0, hs1⟩, hs⟩, h⟩ := key
    refine ⟨s.toNat, by omega, fun j hj => hs j (by omega), h.trans ?_⟩
    simp only [ref_Hold_l4]
    unfold ref_Hold_b4
    simp only [Int.lt_irrefl, decide_false, cond_false, inb_ok hs0 hs1, inb_ok hs0 (show s < (whn.length : Int) by omega), cond_true]
  · rintro fu u s a b ⟨⟨hs0, hs1⟩, hs⟩
    refine ⟨if whn.getD u.toNat 0 < whn.getD s.toNat 0 then u else s, ?_, by split <;> omega, fun j hj => ?_⟩
    · simp only [ref_Hold_l4]
      unfold ref_Hold_b4
      simp only [b, decide_true, cond_true, inb_ok a (show u < (whn.length : Int) by omega), inb_ok hs0 (show s < (whn.length : Int) by omega), wrap_step a b hm]
      by_cases hc : whn.getD u.toNat 0 < whn.getD s.toNat 0
      · rw [if_pos hc, decide_eq_true hc, cond_true]
      · rw [if_neg hc, decide_eq_false hc, cond_false]
    · by_cases hju : (j : Int) = u
      · have : u.toNat = j := by omega
        split
        · rw [this]; exact Int.le_refl _
        · rename_i hc; rw [this] at hc; omega
      · have := hs j (by omega)
        split
        · rename_i hc; omega
        · exact this

theorem hold_both (hp : 1 ≤ places) (hp8 : places ≤ 8) (h20 : refs.length ≤ 20) (hn : 100 ≤ nf) : ∀ (k : Nat) (t : Int) (there thr whn : List Int) (miss : Int) (f1 f2 : Nat), 0 ≤ t → t + k = refs.length → Rel t there thr whn → (there.length : Int) ≤ places → 0 ≤ miss → miss ≤ t → k < f1 → k < f2 →
    ∃ m, 0 ≤ m ∧ hold_play__hold_first_l0 nf refs places lru f1 there miss t = some (m, ()) ∧ ref_Hold_l0 nf refs places lru f2 thr whn miss t = some (m, ())
  | 0, t, there, thr, whn, miss, f1, f2, h0, ht, hR, hl, hm0, hm1, hf1, hf2 => by
    obtain ⟨f1, rfl⟩ : ∃ f, f1 = f + 1 := ⟨f1 - 1, by omega⟩
    obtain ⟨f2, rfl⟩ : ∃ f, f2 = f + 1 := ⟨f2 - 1, by omega⟩
    have he : ¬ t < (refs.length : Int) := by omega
    refine ⟨miss, hm0, ?_, ?_⟩
    · simp only [hold_play__hold_first_l0]; unfold hold_play__hold_first_b0; simp only [he, decide_false, cond_false]
    · simp only [ref_Hold_l0]; unfold ref_Hold_b0; simp only [he, decide_false, cond_false]
  | k + 1, t, there, thr, whn, miss, f1, f2, h0, ht, hR, hl, hm0, hm1, hf1, hf2 => by
    obtain ⟨f1, rfl⟩ : ∃ f, f1 = f + 1 := ⟨f1 - 1, by omega⟩
    obtain ⟨f2, rfl⟩ : ∃ f, f2 = f + 1 := ⟨f2 - 1, by omega⟩
    have h1 : t < (refs.length : Int) := by omega
    have hml : refs.length ≤ maxLen := Nat.le_trans h20 (by decide)
    have hlen : there.length = thr.length := hR.perm.length_eq
    have hl2 := hR.len
    have hw : IntKind.i64.wrap (t + 1) = t + 1 := wrap_step h0 h1 hml
    have hmw : IntKind.i64.wrap (miss + 1) = miss + 1 := Go.IntWalk.i64_in _ (by omega)
    have ih := fun there thr whn miss => hold_both hp hp8 h20 hn k (t + 1) there thr whn miss f1 f2 (by omega) (by omega)
    -- both, one round
    have eP : hold_play__hold_first_l0 nf refs places lru (f1 + 1) there miss t = hold_play__hold_first_b0 nf refs places lru (hold_play__hold_first_l0 nf refs places lru f1) there miss t := rfl
    have eR : ref_Hold_l0 nf refs places lru (f2 + 1) thr whn miss t = ref_Hold_l2 nf refs places lru miss t thr (fun there when' miss t19 => ref_Hold_l0 nf refs places lru f2 there when' miss t19) nf thr whn (-1) 0 := by
      simp only [ref_Hold_l0]; unfold ref_Hold_b0; simp only [h1, decide_true, cond_true, inb_ok h0 h1]
    rw [eP, eR, hold_l2 hn (by omega) hR.once]
    unfold hold_play__hold_first_b0
    simp only [h1, decide_true, cond_true, inb_ok h0 h1, index_F there (refs.getD t.toNat 0) (Nat.le_trans (show there.length ≤ 20 by omega) (by decide)) (show there.length < nf by omega), Option.bind_some, hw, hmw]
    generalize hr : refs.getD t.toNat 0 = r
    by_cases hit : r ∈ there
    · have hit2 := hR.mem.1 hit
      have hi := List.idxOf_lt_length_of_mem hit
      have hk := List.idxOf_lt_length_of_mem hit2
      rw [posI_in hit, posI_in hit2]
      simp only [ge_iff_le, Int.natCast_nonneg, decide_true, cond_true, Int.toNat_natCast, inb_ok (Int.natCast_nonneg _) (show ((thr.idxOf r : Nat) : Int) < (whn.length : Int) by omega)]
      cases lru with
      | false =>
        simp only [cond_false]
        exact ih there thr whn miss hR.tick hl hm0 (by omega) (by omega) (by omega)
      | true =>
        simp only [cond_true, delete_F (nf := nf) (show there.length ≤ 20 by omega) hi, Option.bind_some]
        have g1 : there.getD (there.idxOf r) 0 = r := by rw [List.getD_eq_getElem?_getD, List.getElem?_eq_getElem hi]; exact List.getElem_idxOf hi
        have g2 : thr.getD (thr.idxOf r) 0 = r := by rw [List.getD_eq_getElem?_getD, List.getElem?_eq_getElem hk]; exact List.getElem_idxOf hk
        have hS := hR.swap hk hi (g1.trans g2.symm) (r := r) (.inl g2.symm)
        have hset : thr.set (thr.idxOf r) r = thr := by
          have : thr[thr.idxOf r] = r := List.getElem_idxOf hk
          conv => lhs; arg 3; rw [← this]
          exact List.set_getElem_self hk
        rw [hset] at hS
        have hlen2 : (there.take (there.idxOf r) ++ there.drop (there.idxOf r + 1)).length + 1 = there.length := by simp; omega
        rw [show (bimp false ![r].isEmpty && ((there.take (there.idxOf r) ++ there.drop (there.idxOf r + 1)).length + [r].length).ble lim) = true by
          rw [ble_ok (by simp only [List.length_cons, List.length_nil]; omega)]; rfl, cond_true]
        exact ih _ thr _ miss hS (by simp only [List.length_append, List.length_cons, List.length_nil] at hlen2 ⊢; omega) hm0 (by omega) (by omega) (by omega)
    · have hit2 : r ∉ thr := fun h => hit (hR.mem.2 h)
      rw [posI_out hit, posI_out hit2]
      simp only [ge_iff_le, show ¬ (0 : Int) ≤ -1 by omega, decide_false, cond_false]
      by_cases hfull : (there.length : Int) = places
      · have hfull2 : (thr.length : Int) = places := by omega
        simp only [hfull, hfull2, beq_self_eq_true, cond_true, hold_first_f, hold_first_p, Option.bind_some, Int.lt_irrefl, decide_false, cond_false]
        obtain ⟨q, hq1, hq2, hq3⟩ := hold_l4 (refs := refs) (places := places) (lru := lru) hn (show thr.length ≤ 20 by omega) (by omega) hl2 miss t (fun there when' miss t19 => ref_Hold_l0 nf refs places lru f2 there when' miss t19)
        rw [hq3, hr, hw, hmw]
        have hd := delete_F (nf := nf) (show there.length ≤ 20 by omega) (show 0 < there.length by omega)
        simp only [Int.natCast_zero] at hd
        simp only [hd, Option.bind_some]
        have hS := hR.swap hq1 (show 0 < there.length by omega) (hR.least hq1 hq2) (r := r) (.inr hit2)
        have hlen2 : (there.take 0 ++ there.drop (0 + 1)).length + 1 = there.length := by simp; omega
        rw [show (bimp false ![r].isEmpty && ((there.take 0 ++ there.drop (0 + 1)).length + [r].length).ble lim) = true by
          rw [ble_ok (by simp only [List.length_cons, List.length_nil]; omega)]; rfl, cond_true]
        exact ih _ _ _ (miss + 1) hS (by simp only [List.length_append, List.length_cons, List.length_nil] at hlen2 ⊢; omega) (by omega) (by omega) (by omega) (by omega)
      · have hfull2 : ¬ (thr.length : Int) = places := by omega
        rw [beq_f hfull, beq_f hfull2, cond_false, cond_false]
        rw [show (bimp false ![r].isEmpty && (there.length + [r].length).ble lim) = true by rw [ble_ok (by simp only [List.length_cons, List.length_nil]; omega)]; rfl,
          show (bimp false ![r].isEmpty && (thr.length + [r].length).ble lim) = true by rw [ble_ok (by simp only [List.length_cons, List.length_nil]; omega)]; rfl,
          show (bimp false ![t].isEmpty && (whn.length + [t].length).ble lim) = true by rw [ble_ok (by simp only [List.length_cons, List.length_nil]; omega)]; rfl, cond_true, cond_true, cond_true]
        exact ih _ _ _ (miss + 1) (hR.come hit) (by simp; omega) (by omega) (by omega) (by omega) (by omega)

/-- what is wrong -/
def holdCode (refs : List Int) (places : Int) : Int := if (refs.length : Int) > 20 then 1 else if places < 1 then 1 else if places > 8 then 1 else 0
theorem wrong_F : hold_wrong_f nf refs places = some (holdCode refs places, ()) := by
  simp only [hold_wrong_f, hold_wrong_p, holdCode]
  by_cases h1 : (refs.length : Int) > 20
  · simp [h1]
  · by_cases h2 : places < 1
    · simp [h1, h2]
    · by_cases h3 : places > 8 <;> simp [h1, h2, h3]
theorem holdCode_F : law_holdCode_f nf refs places = some (holdCode refs places, ()) := wrong_F (nf := nf)
theorem holdCode_ok (h : holdCode refs places = 0) : refs.length ≤ 20 ∧ 1 ≤ places ∧ places ≤ 8 := by
  unfold holdCode at h
  split at h
  · cases h
  · split at h
    · cases h
    · split at h
      · cases h
      · omega
theorem hold_runs (h : holdCode refs places = 0) (lru : Bool) : ∃ m, 0 ≤ m ∧ hold_play__hold_first_f 100 refs places lru () = some (m, ()) ∧ ref_Hold_f 100 refs places lru = some (m, ()) := by
  obtain ⟨h1, h2, h3⟩ := holdCode_ok h
  exact hold_both h2 h3 h1 (Nat.le_refl _) refs.length 0 [] [] [] 0 100 100 (Int.le_refl _) (by omega) Rel.nil (by simp; omega) (Int.le_refl _) (Int.le_refl _) (by omega) (by omega)
end Go.Proofs.Ytbmjodcgjhgpeaa
