/- Ways: the document's graph as a map of edges. -/
import Derived.Test.YtccbcbhiblohgaaInto
import Derived.Test.YtccbcbhiblohgaaRed
import Derived.Test.YtccbcbhiblohgaaMaps
namespace Go.Ab
open Go
section
variable {k e : Ty}
/-- no key is told twice -/
def KU (m : List (den k × den e)) : Prop := (m.map Prod.fst).Nodup
theorem insM_mem (hk : flat k = true) : ∀ (m : List (den k × den e)) (y : den k) (v : den e) (z : den k), z ∈ (insM k e m y v).map Prod.fst → z = y ∨ z ∈ m.map Prod.fst
  | [], y, v, z, h => by simp [insM] at h; exact .inl h
  | p :: r, y, v, z, h => by
    simp only [insM] at h
    cases h1 : eqD k p.1 y with
    | true =>
      rw [h1] at h
      simp only [List.map_cons, List.mem_cons] at h ⊢
      exact .inr h
    | false =>
      rw [h1] at h
      simp only [List.map_cons, List.mem_cons] at h ⊢
      rcases h with h | h
      · exact .inr (.inl h)
      · rcases insM_mem hk r y v z h with h | h
        · exact .inl h
        · exact .inr (.inr h)
theorem KU.ins (hk : flat k = true) : ∀ {m : List (den k × den e)} {y : den k} {v : den e}, KU m → KU (insM k e m y v)
  | [], y, v, _ => by simp [KU, insM]
  | p :: r, y, v, h => by
    unfold KU at h ⊢
    rw [List.map_cons, List.nodup_cons] at h
    simp only [insM]
    cases h1 : eqD k p.1 y with
    | true =>
      simp only [List.map_cons, List.nodup_cons]
      exact h
    | false =>
      simp only [List.map_cons, List.nodup_cons]
      refine ⟨fun hm => ?_, KU.ins hk (m := r) h.2⟩
      rcases insM_mem hk r y v _ hm with h2 | h2
      · rw [(eqD_iff hk p.1 y).2 h2] at h1; cases h1
      · exact h.1 h2
theorem delM_mem : ∀ (m : List (den k × den e)) (y : den k) (z : den k), z ∈ (delM k e m y).map Prod.fst → z ∈ m.map Prod.fst
  | [], y, z, h => by simp [delM] at h
  | p :: r, y, z, h => by
    simp only [delM] at h
    cases h1 : eqD k p.1 y with
    | true => rw [h1] at h; simp only [List.map_cons, List.mem_cons]; exact .inr h
    | false =>
      rw [h1] at h
      simp only [List.map_cons, List.mem_cons] at h ⊢
      rcases h with h | h
      · exact .inl h
      · exact .inr (delM_mem r y z h)
theorem KU.del : ∀ {m : List (den k × den e)} {y : den k}, KU m → KU (delM k e m y)
  | [], y, _ => by simp [KU, delM]
  | p :: r, y, h => by
    unfold KU at h ⊢
    rw [List.map_cons, List.nodup_cons] at h
    simp only [delM]
    cases h1 : eqD k p.1 y with
    | true => exact h.2
    | false =>
      simp only [List.map_cons, List.nodup_cons]
      exact ⟨fun hm => h.1 (delM_mem r y _ hm), KU.del (m := r) h.2⟩
theorem getM_none (hk : flat k = true) : ∀ (m : List (den k × den e)) (y : den k), y ∉ m.map Prod.fst → getM k e m y = none
  | [], y, _ => rfl
  | p :: r, y, h => by
    simp only [List.map_cons, List.mem_cons, not_or] at h
    simp only [getM]
    cases h1 : eqD k p.1 y with
    | true => exact absurd ((eqD_iff hk _ _).1 h1).symm h.1
    | false => exact getM_none hk r y h.2
theorem getM_del (hk : flat k = true) : ∀ (m : List (den k × den e)) (y z : den k), KU m → getM k e (delM k e m y) z = match eqD k y z with | true => none | false => getM k e m z
  | [], y, z, _ => by simp only [delM, getM]; cases eqD k y z <;> rfl
  | p :: r, y, z, h => by
    unfold KU at h
    rw [List.map_cons, List.nodup_cons] at h
    simp only [delM]
    cases h1 : eqD k p.1 y with
    | true =>
      have e1 := (eqD_iff hk _ _).1 h1
      simp only [getM]
      rw [e1]
      cases h2 : eqD k y z with
      | true =>
        have e2 := (eqD_iff hk _ _).1 h2
        exact getM_none hk r z (by rw [← e2, ← e1]; exact h.1)
      | false => rfl
    | false =>
      simp only [getM]
      rw [getM_del hk r y z h.2]
      cases h2 : eqD k p.1 z with
      | true =>
        have e2 := (eqD_iff hk _ _).1 h2
        have : eqD k y z = false := by
          cases h3 : eqD k y z with
          | false => rfl
          | true => rw [← (eqD_iff hk _ _).1 h3] at e2; rw [(eqD_iff hk _ _).2 e2] at h1; cases h1
        rw [this]
      | false => rfl
end

abbrev K2 : Ty := (Ty.int .i64).pair ((Ty.int .i64).pair Ty.unit)
abbrev M2 := List ((Int × Int × Unit) × Bool)
/-- is there an edge? -/
def tm (t : M2) (a b : Int) : Bool := (getM K2 Ty.bool t (a, b, ())).getD false
theorem tm_ins (t : M2) (x y a b : Int) : tm (insM K2 Ty.bool t (x, y, ()) true) a b = if a = x ∧ b = y then true else tm t a b := by
  unfold tm
  rw [getM_ins (k := K2) rfl]
  cases h : eqD K2 (x, y, ()) (a, b, ()) with
  | true =>
    have := (eqD_iff (k := K2) rfl (x, y, ()) (a, b, ())).1 h
    injection this with h1 h2
    injection h2 with h2 _
    rw [if_pos ⟨h1.symm, h2.symm⟩]; rfl
  | false =>
    rw [if_neg]
    rintro ⟨rfl, rfl⟩
    rw [(eqD_iff (k := K2) rfl (a, b, ()) (a, b, ())).2 rfl] at h; cases h
theorem tm_del {t : M2} (ht : KU (k := K2) (e := Ty.bool) t) (x y a b : Int) : tm (delM K2 Ty.bool t (x, y, ())) a b = if a = x ∧ b = y then false else tm t a b := by
  unfold tm
  rw [getM_del (k := K2) rfl _ _ _ ht]
  cases h : eqD K2 (x, y, ()) (a, b, ()) with
  | true =>
    have := (eqD_iff (k := K2) rfl (x, y, ()) (a, b, ())).1 h
    injection this with h1 h2
    injection h2 with h2 _
    rw [if_pos ⟨h1.symm, h2.symm⟩]; rfl
  | false =>
    rw [if_neg]
    rintro ⟨rfl, rfl⟩
    rw [(eqD_iff (k := K2) rfl (a, b, ()) (a, b, ())).2 rfl] at h; cases h

theorem one_length : ∀ {l : List Int} {j : Int}, l.Nodup → j ∈ l → (∀ x ∈ l, x = j) → l.length = 1
  | [], _, _, h, _ => by cases h
  | [_], _, _, _, _ => rfl
  | a :: b :: l, j, hn, _, h => by
    have h1 := h a (by simp)
    have h2 := h b (by simp)
    rw [h1, h2] at hn
    simp at hn
theorem filter_less : ∀ (l : List Int) (x : Int), x ∈ l → (l.filter fun y => y != x).length < l.length
  | [], _, h => by cases h
  | a :: l, x, h => by
    by_cases hax : a = x
    · subst hax
      rw [List.filter_cons_of_neg (by simp)]
      have := List.length_filter_le (fun y => y != a) l
      simp; omega
    · rw [List.filter_cons_of_pos (by simpa using hax)]
      have := filter_less l x (by
        rcases List.mem_cons.1 h with h | h
        · exact absurd h.symm hax
        · exact h)
      rw [List.length_cons, List.length_cons]; omega
end Go.Ab
namespace Go.Proofs.Ytccbcbhiblohgaa
open Go Go.Ab S

variable {next : List (List Int)} {nf : Nat}

/-- a list and a map that tell of a graph -/
structure RepR (n : Nat) (g : Gr) (l : List Int) (t : M2) : Prop where
  once : l.Nodup
  mem : ∀ x, x ∈ l ↔ g.1 x
  low : ∀ x ∈ l, 0 ≤ x ∧ x < n
  ku : KU (k := K2) (e := Ty.bool) t
  edge : ∀ a b, g.1 a → g.1 b → a ≠ b → (tm t a b = true ↔ g.2 a b)

theorem RepR.short {n : Nat} {g : Gr} {l : List Int} {t : M2} (h : RepR n g l t) : l.length ≤ n := nodup_fit n l h.once h.low

theorem folded_l8 {l : List Int} (hl : l.length ≤ 8) (hn : 20 ≤ nf) (one into : Int) {u : Int} (l3 : List Int) (g6 : List Int → M2 → Int → Int → Int → Option (Int × Unit)) (g4 : List Int → M2 → Option (Int × Unit)) (t : M2) :
    ref_Folded_l8 nf one into l u l3 g6 g4 nf l t [] 0 = if l.getD u.toNat 0 ≠ 0 ∧ (l.filter fun j => tm t j (l.getD u.toNat 0)).length = 1 then g6 l t (l.getD u.toNat 0) ((l.filter fun j => tm t j (l.getD u.toNat 0)).getD 0 0) (IntKind.i64.wrap (u + 1)) else g6 l t one into (IntKind.i64.wrap (u + 1)) := by
  have hm : l.length ≤ maxLen := Nat.le_trans hl (by decide)
  obtain ⟨fu', q, ⟨q1, q2, q3⟩, e⟩ := loop_inv (n := (l.length : Int)) (F := fun fu t' (q : List Int × M2 × List Int) => ref_Folded_l8 nf one into l u l3 g6 g4 fu q.1 q.2.1 q.2.2 t')
    (fun t' q => q.1 = l ∧ q.2.1 = t ∧ q.2.2 = (l.take t'.toNat).filter fun j => tm t j (l.getD u.toNat 0)) (fun fu t' q h0 ht hI => by
      obtain ⟨i1, i2, i3⟩ := hI
      have hst : ref_Folded_l8 nf one into l u l3 g6 g4 (fu + 1) q.1 q.2.1 q.2.2 t' = ref_Folded_b8 nf one into l u l3 g6 g4 (ref_Folded_l8 nf one into l u l3 g6 g4 fu) q.1 q.2.1 q.2.2 t' := rfl
      have hlen : q.2.2.length ≤ 8 := by rw [i3]; exact Nat.le_trans (List.length_filter_le _ _) (by rw [List.length_take]; omega)
      have hble : (q.2.2.length + [q.1.getD t'.toNat 0].length).ble lim = true := ble_ok (by simp; omega)
      have hsn : (l.take (t' + 1).toNat).filter (fun j => tm t j (l.getD u.toNat 0)) = (l.take t'.toNat).filter (fun j => tm t j (l.getD u.toNat 0)) ++ if tm t (l.getD t'.toNat 0) (l.getD u.toNat 0) = true then [l.getD t'.toNat 0] else [] := by
        rw [take_snoc (d := (0 : Int)) h0 ht, List.filter_append]
        congr 1
        by_cases hc : tm t (l.getD t'.toNat 0) (l.getD u.toNat 0) = true
        · rw [if_pos hc, List.filter_cons, if_pos hc]; rfl
        · rw [if_neg hc, List.filter_cons, if_neg hc]; rfl
      unfold ref_Folded_b8 at hst
      rw [i1, i2] at hst
      rw [i1] at hble
      simp only [ht, decide_true, cond_true, inb_ok h0 ht, wrap_step h0 ht hm, hble, bimp] at hst
      cases hc : tm t (l.getD t'.toNat 0) (l.getD u.toNat 0) with
      | true =>
        have hc' := hc
        unfold tm at hc'
        rw [hc', cond_true] at hst
        refine ⟨(l, t, q.2.2 ++ [l.getD t'.toNat 0]), ?_, rfl, rfl, by rw [hsn, if_pos hc, ← i3]⟩
        rw [i1, i2, hst]; rfl
      | false =>
        have hc' := hc
        unfold tm at hc'
        rw [hc', cond_false] at hst
        refine ⟨(l, t, q.2.2), ?_, rfl, rfl, by rw [hsn, hc, ← i3]; simp⟩
        rw [i1, i2, hst]) nf 0 (l, t, []) (by omega) (by omega) (by omega) ⟨rfl, rfl, by simp⟩
  rw [Int.toNat_natCast, List.take_length] at q3
  rw [show ref_Folded_l8 nf one into l u l3 g6 g4 nf l t [] 0 = _ from e, ref_Folded_l8, q1, q2, q3]
  unfold ref_Folded_b8
  simp only [Int.lt_irrefl, decide_false, cond_false]
  by_cases h0 : l.getD u.toNat 0 = 0
  · rw [h0, bne_self_eq_false, cond_false, if_neg (fun h => h.1 rfl)]
  · rw [bne_t h0, cond_true]
    by_cases h1 : (l.filter fun j => tm t j (l.getD u.toNat 0)).length = 1
    · rw [if_pos ⟨h0, h1⟩, h1]
      simp [inb]
    · rw [if_neg (fun h => h1 h.2), beq_f (by omega), cond_false]

/-- whom the list tells that leads to a node -/
theorem RepR.only_list {n : Nat} {g : Gr} {l : List Int} {t : M2} (h : RepR n g l t) (hg : g.Good) {i : Int} (hi : g.1 i) (hd : tm t i i = false) :
    ((l.filter fun j => tm t j i).length = 1 → g.only i ((l.filter fun j => tm t j i).getD 0 0)) ∧ ((l.filter fun j => tm t j i).length ≠ 1 → ∀ j, ¬ g.only i j) := by
  have hm : ∀ j, j ∈ l.filter (fun j => tm t j i) ↔ g.2 j i := fun j => by
    rw [List.mem_filter, h.mem]
    by_cases hji : j = i
    · subst hji
      rw [hd]
      constructor
      · intro h; simp at h
      · intro h2; exact absurd rfl (hg.mem _ _ h2).2.2
    · constructor
      · rintro ⟨a, b⟩; exact (h.edge j i a hi hji).1 b
      · intro h2
        have := (hg.mem _ _ h2).1
        exact ⟨this, (h.edge j i this hi hji).2 h2⟩
  have hnd : (l.filter fun j => tm t j i).Nodup := h.once.sublist List.filter_sublist
  constructor
  · intro h1
    obtain ⟨j, hj⟩ := List.length_eq_one_iff.1 h1
    rw [hj]
    refine ⟨(hm _).1 (by rw [hj]; simp), fun a ha => ?_⟩
    have := (hm a).2 ha
    rw [hj] at this
    simpa using this
  · intro h1 j ho
    exact h1 (one_length hnd ((hm j).2 ho.1) fun x hx => ho.2 x ((hm x).1 hx))

theorem folded_l10 {n : Nat} (h8 : n ≤ 8) (hn : 20 ≤ nf) {g : Gr} (hg : g.Good) {l : List Int} {t : M2} (h : RepR n g l t) (hd : ∀ i ∈ l, tm t i i = false) {one into : Int} (hone : one ≠ 0) (ho : g.only one into) (g4 : List Int → M2 → Option (Int × Unit)) :
    ∃ (l' : List Int) (t' : M2), RepR n (g.fold one into) l' t' ∧ l'.length < l.length ∧ ref_Folded_l10 nf one into l g4 nf l t [] 0 = g4 l' t' := by
  have hl := h.short
  have hm : l.length ≤ maxLen := Nat.le_trans (show l.length ≤ 8 by omega) (by decide)
  have hio := (hg.mem _ _ ho.1).2.2
  have hgone := (hg.mem _ _ ho.1).2.1
  have hmone : one ∈ l := (h.mem one).2 hgone
  obtain ⟨fu', q, ⟨q1, q2, q3, q4, _⟩, e⟩ := loop_inv (n := (l.length : Int)) (F := fun fu u (q : List Int × M2 × List Int) => ref_Folded_l10 nf one into l g4 fu q.1 q.2.1 q.2.2 u)
    (fun u q => q.1 = l ∧ KU (k := K2) (e := Ty.bool) q.2.1 ∧ (q.2.2 = (l.take u.toNat).filter fun y => y != one) ∧ (∀ a b, a ≠ one → b ≠ one → (tm q.2.1 a b = true ↔ tm t a b = true ∨ (a = into ∧ tm t one b = true ∧ b ∈ l.take u.toNat))) ∧ ∀ m : Nat, u ≤ m → m < l.length → tm q.2.1 one (l.getD m 0) = tm t one (l.getD m 0))
    (fun fu u q h0 ht hI => by
      obtain ⟨i1, i2, i3, i4, i5⟩ := hI
      have hst : ref_Folded_l10 nf one into l g4 (fu + 1) q.1 q.2.1 q.2.2 u = ref_Folded_b10 nf one into l g4 (ref_Folded_l10 nf one into l g4 fu) q.1 q.2.1 q.2.2 u := rfl
      have hlen : q.2.2.length ≤ 8 := by rw [i3]; exact Nat.le_trans (List.length_filter_le _ _) (by rw [List.length_take]; omega)
      have hble : (q.2.2.length + [l.getD u.toNat 0].length).ble lim = true := ble_ok (by simp; omega)
      have hj := getD_mem (d := (0 : Int)) h0 ht
      have hc := i5 u.toNat (by omega) (by omega)
      have hsn := take_snoc (d := (0 : Int)) h0 ht
      have huniq : ∀ m : Nat, u + 1 ≤ m → m < l.length → l.getD m 0 ≠ l.getD u.toNat 0 := fun m hm1 hm2 he => by
        rw [List.getD_eq_getElem?_getD, List.getElem?_eq_getElem hm2, getD_nat l u 0 h0 ht] at he
        exact List.pairwise_iff_getElem.1 (List.nodup_iff_pairwise_ne.1 h.once) u.toNat m (by omega) hm2 (by omega) he.symm
      -- the new map
      have hkd : ∀ t6 : M2, KU (k := K2) (e := Ty.bool) t6 → KU (k := K2) (e := Ty.bool) (delM K2 Ty.bool (delM K2 Ty.bool t6 (one, l.getD u.toNat 0, ())) (l.getD u.toNat 0, one, ())) := fun t6 hk => KU.del (k := K2) (e := Ty.bool) (KU.del (k := K2) (e := Ty.bool) hk)
      have hdel : ∀ (t6 : M2) (_ : KU (k := K2) (e := Ty.bool) t6) (a b : Int), tm (delM K2 Ty.bool (delM K2 Ty.bool t6 (one, l.getD u.toNat 0, ())) (l.getD u.toNat 0, one, ())) a b = if (a = l.getD u.toNat 0 ∧ b = one) ∨ (a = one ∧ b = l.getD u.toNat 0) then false else tm t6 a b := fun t6 hk a b => by
        rw [tm_del (KU.del (k := K2) (e := Ty.bool) hk), tm_del hk]
        by_cases c1 : a = l.getD u.toNat 0 ∧ b = one
        · rw [if_pos c1, if_pos (.inl c1)]
        · rw [if_neg c1]
          by_cases c2 : a = one ∧ b = l.getD u.toNat 0
          · rw [if_pos c2, if_pos (.inr c2)]
          · rw [if_neg c2, if_neg (fun h => h.elim c1 c2)]
      have fin : ∀ (t6 : M2) (r6 : List Int), KU (k := K2) (e := Ty.bool) t6 → (∀ a b, tm t6 a b = if a = into ∧ b = l.getD u.toNat 0 ∧ tm t one (l.getD u.toNat 0) = true then true else tm q.2.1 a b) → (r6 = q.2.2 ++ if l.getD u.toNat 0 ≠ one then [l.getD u.toNat 0] else []) →
          (KU (k := K2) (e := Ty.bool) (delM K2 Ty.bool (delM K2 Ty.bool t6 (one, l.getD u.toNat 0, ())) (l.getD u.toNat 0, one, ())) ∧ (r6 = (l.take (u + 1).toNat).filter fun y => y != one) ∧
          (∀ a b, a ≠ one → b ≠ one → (tm (delM K2 Ty.bool (delM K2 Ty.bool t6 (one, l.getD u.toNat 0, ())) (l.getD u.toNat 0, one, ())) a b = true ↔ tm t a b = true ∨ (a = into ∧ tm t one b = true ∧ b ∈ l.take (u + 1).toNat))) ∧
          ∀ m : Nat, u + 1 ≤ m → m < l.length → tm (delM K2 Ty.bool (delM K2 Ty.bool t6 (one, l.getD u.toNat 0, ())) (l.getD u.toNat 0, one, ())) one (l.getD m 0) = tm t one (l.getD m 0)) := fun t6 r6 hk6 ht6 hr6 => by
        refine ⟨hkd t6 hk6, ?_, fun a b ha hb => ?_, fun m hm1 hm2 => ?_⟩
        · rw [hr6, hsn, List.filter_append, ← i3]
          congr 1
          by_cases hjo : l.getD u.toNat 0 = one
          · rw [if_neg (fun h => h hjo), List.filter_cons_of_neg (by simpa using hjo)]; rfl
          · rw [if_pos hjo, List.filter_cons_of_pos (by simpa using hjo)]; rfl
        · rw [hdel t6 hk6, if_neg (fun h => h.elim (fun h => hb h.2) (fun h => ha h.1)), ht6, hsn]
          have := i4 a b ha hb
          constructor
          · intro h
            split at h
            · rename_i hc
              exact .inr ⟨hc.1, by rw [hc.2.1]; exact hc.2.2, by simp [hc.2.1]⟩
            · rcases this.1 h with h | ⟨h1, h2, h3⟩
              · exact .inl h
              · exact .inr ⟨h1, h2, List.mem_append_left _ h3⟩
          · rintro (h | ⟨h1, h2, h3⟩)
            · split
              · rfl
              · exact this.2 (.inl h)
            · rcases List.mem_append.1 h3 with h3 | h3
              · split
                · rfl
                · exact this.2 (.inr ⟨h1, h2, h3⟩)
              · rw [List.mem_singleton] at h3
                rw [if_pos ⟨h1, h3, by rw [← h3]; exact h2⟩]
        · have hne := huniq m hm1 hm2
          rw [hdel t6 hk6, if_neg (fun h => h.elim (fun h => hne (h.2.trans h.1)) (fun h => hne h.2)), ht6, if_neg (fun h => hio h.1.symm)]
          exact i5 m (by omega) hm2
      unfold ref_Folded_b10 at hst
      rw [i1] at hst
      simp only [ht, decide_true, cond_true, inb_ok h0 ht, wrap_step h0 ht hm, hble, bimp] at hst
      cases hcv : tm t one (l.getD u.toNat 0) with
      | true =>
        have hc' := hc.trans hcv
        unfold tm at hc'
        rw [hc', cond_true] at hst
        have hjo : l.getD u.toNat 0 ≠ one := fun e => by
          rw [e, hd one hmone] at hcv; cases hcv
        rw [bne_t hjo, cond_true] at hst
        obtain ⟨f1, f2, f3, f4⟩ := fin (insM K2 Ty.bool q.2.1 (into, l.getD u.toNat 0, ()) true) (q.2.2 ++ [l.getD u.toNat 0]) (KU.ins (k := K2) (e := Ty.bool) rfl i2) (fun a b => by
          rw [tm_ins, hcv]; simp) (by rw [if_pos hjo])
        refine ⟨(l, _, _), ?_, rfl, f1, f2, f3, f4⟩
        rw [i1, hst]; rfl
      | false =>
        have hc' := hc.trans hcv
        unfold tm at hc'
        rw [hc', cond_false] at hst
        by_cases hjo : l.getD u.toNat 0 = one
        · obtain ⟨f1, f2, f3, f4⟩ := fin q.2.1 q.2.2 i2 (fun a b => by rw [hcv]; simp) (by rw [if_neg (fun h => h hjo)]; simp)
          refine ⟨(l, _, _), ?_, rfl, f1, f2, f3, f4⟩
          rw [i1, hst]
          rw [show (l.getD u.toNat 0 != one) = false by rw [hjo]; simp]
          rfl
        · rw [bne_t hjo, cond_true] at hst
          obtain ⟨f1, f2, f3, f4⟩ := fin q.2.1 (q.2.2 ++ [l.getD u.toNat 0]) i2 (fun a b => by rw [hcv]; simp) (by rw [if_pos hjo])
          refine ⟨(l, _, _), ?_, rfl, f1, f2, f3, f4⟩
          rw [i1, hst]; rfl) nf 0 (l, t, []) (by omega) (by omega) (by omega) ⟨rfl, h.ku, by simp, fun a b _ _ => by simp, fun m _ _ => rfl⟩
  rw [Int.toNat_natCast, List.take_length] at q3 q4
  refine ⟨q.2.2, q.2.1, ⟨?_, fun x => ?_, fun x hx => ?_, q2, fun a b ha hb hab => ?_⟩, ?_, ?_⟩
  · rw [q3]; exact h.once.sublist List.filter_sublist
  · rw [q3, List.mem_filter, h.mem]
    show _ ↔ g.1 x ∧ x ≠ one
    simp
  · rw [q3, List.mem_filter] at hx
    exact h.low x hx.1
  · rw [q4 a b ha.2 hb.2, h.edge a b ha.1 hb.1 hab, h.mem]
    show _ ↔ (a ≠ one ∧ b ≠ one ∧ a ≠ b ∧ (g.2 a b ∨ (a = into ∧ g.2 one b)))
    have hob := h.edge one b hgone hb.1 (fun e => hb.2 e.symm)
    rw [hob]
    constructor
    · rintro (h1 | ⟨h1, h2, _⟩)
      · exact ⟨ha.2, hb.2, hab, .inl h1⟩
      · exact ⟨ha.2, hb.2, hab, .inr ⟨h1, h2⟩⟩
    · rintro ⟨_, _, _, h1 | ⟨h1, h2⟩⟩
      · exact .inl h1
      · exact .inr ⟨h1, h2, hb.1⟩
  · rw [q3]; exact filter_less l one hmone
  · rw [show ref_Folded_l10 nf one into l g4 nf l t [] 0 = _ from e, ref_Folded_l10]
    unfold ref_Folded_b10
    simp only [Int.lt_irrefl, decide_false, cond_false]

theorem folded_l6 {n : Nat} (h8 : n ≤ 8) (hn : 20 ≤ nf) {g : Gr} (hg : g.Good) {l : List Int} {t : M2} (h : RepR n g l t) (g4 : List Int → M2 → Option (Int × Unit)) :
    (g.Stuck ∧ ref_Folded_l6 nf l g4 nf l t (-1) (-1) 0 = some ((l.length : Int), ())) ∨
    ∃ (g' : Gr) (l' : List Int) (t' : M2), g.step g' ∧ RepR n g' l' t' ∧ l'.length < l.length ∧ ref_Folded_l6 nf l g4 nf l t (-1) (-1) 0 = g4 l' t' := by
  have hl := h.short
  have hm : l.length ≤ maxLen := Nat.le_trans (show l.length ≤ 8 by omega) (by decide)
  obtain ⟨fu', q, ⟨q1, q2, q3, q4⟩, e⟩ := loop_inv (n := (l.length : Int)) (F := fun fu u (q : List Int × M2 × Int × Int) => ref_Folded_l6 nf l g4 fu q.1 q.2.1 q.2.2.1 q.2.2.2 u)
    (fun u q => q.1 = l ∧ RepR n g l q.2.1 ∧ (∀ m : Nat, (m : Int) < u → tm q.2.1 (l.getD m 0) (l.getD m 0) = false) ∧ ((q.2.2.1 = -1 ∧ ∀ m : Nat, (m : Int) < u → l.getD m 0 ≠ 0 → ∀ j, ¬ g.only (l.getD m 0) j) ∨ (0 ≤ q.2.2.1 ∧ q.2.2.1 ≠ 0 ∧ g.only q.2.2.1 q.2.2.2)))
    (fun fu u q h0 ht hI => by
      obtain ⟨i1, i2, i3, i4⟩ := hI
      have hst : ref_Folded_l6 nf l g4 (fu + 1) q.1 q.2.1 q.2.2.1 q.2.2.2 u = ref_Folded_b6 nf (fun p0 p1 p2 p3 _ v0 v1 v2 v3 => ref_Folded_l8 nf p0 p1 p2 p3 l (fun left4 t4 one into t47 => ref_Folded_l6 nf l g4 fu left4 t4 one into t47) g4 nf v0 v1 v2 v3) (fun p0 p1 p2 v0 v1 v2 v3 => ref_Folded_l10 nf p0 p1 p2 g4 nf v0 v1 v2 v3) l g4 (ref_Folded_l6 nf l g4 fu) q.1 q.2.1 q.2.2.1 q.2.2.2 u := rfl
      unfold ref_Folded_b6 at hst
      rw [i1] at hst
      simp only [ht, decide_true, cond_true, inb_ok h0 ht] at hst
      rw [folded_l8 (by omega) hn, wrap_step h0 ht hm] at hst
      have hj := getD_mem (d := (0 : Int)) h0 ht
      have hdel := fun a b => tm_del i2.ku (l.getD u.toNat 0) (l.getD u.toNat 0) a b
      have hr : RepR n g l (delM K2 Ty.bool q.2.1 (l.getD u.toNat 0, l.getD u.toNat 0, ())) := ⟨i2.once, i2.mem, i2.low, KU.del (k := K2) (e := Ty.bool) i2.ku, fun a b ha hb hab => by
        rw [hdel, if_neg (fun h => hab (h.1.trans h.2.symm))]; exact i2.edge a b ha hb hab⟩
      have hdi : ∀ m : Nat, (m : Int) < u + 1 → tm (delM K2 Ty.bool q.2.1 (l.getD u.toNat 0, l.getD u.toNat 0, ())) (l.getD m 0) (l.getD m 0) = false := fun m hm2 => by
        rw [hdel]
        by_cases hmu : m = u.toNat
        · subst hmu; rw [if_pos ⟨rfl, rfl⟩]
        · split
          · rfl
          · exact i3 m (by omega)
      have hd0 := hdi u.toNat (by omega)
      obtain ⟨o1, o2⟩ := hr.only_list hg ((h.mem _).1 hj) hd0
      by_cases hc : l.getD u.toNat 0 ≠ 0 ∧ (l.filter fun j => tm (delM K2 Ty.bool q.2.1 (l.getD u.toNat 0, l.getD u.toNat 0, ())) j (l.getD u.toNat 0)).length = 1
      · rw [if_pos hc] at hst
        have hlow := h.low _ hj
        refine ⟨(l, _, _, _), ?_, rfl, hr, hdi, .inr ⟨hlow.1, hc.1, o1 hc.2⟩⟩
        rw [i1, hst]
        rfl
      · rw [if_neg hc] at hst
        refine ⟨(l, _, q.2.2.1, q.2.2.2), ?_, rfl, hr, hdi, ?_⟩
        · rw [i1, hst]
        · rcases i4 with ⟨a, b⟩ | i4
          · refine .inl ⟨a, fun m hm2 hm0 => ?_⟩
            by_cases hmu : m = u.toNat
            · subst hmu
              exact o2 fun h1 => hc ⟨hm0, h1⟩
            · exact b m (by omega) hm0
          · exact .inr i4) nf 0 (l, t, -1, -1) (by omega) (by omega) (by omega) ⟨rfl, h, fun m hm2 => by omega, .inl ⟨rfl, fun m hm2 => by omega⟩⟩
  have hat : ∀ i ∈ l, ∃ m : Nat, (m : Int) < l.length ∧ l.getD m 0 = i := fun i hi => by
    obtain ⟨m, hm1, rfl⟩ := List.mem_iff_getElem.1 hi
    exact ⟨m, by omega, by simp [List.getD, hm1]⟩
  rw [show ref_Folded_l6 nf l g4 nf l t (-1) (-1) 0 = _ from e, ref_Folded_l6, q1]
  unfold ref_Folded_b6
  simp only [Int.lt_irrefl, decide_false, cond_false]
  rcases q4 with ⟨a, b⟩ | ⟨a, b, c⟩
  · left
    rw [a]
    refine ⟨?_, rfl⟩
    rintro g' ⟨i, j, hi, ho, _⟩
    obtain ⟨m, m1, m2⟩ := hat i ((h.mem i).2 (hg.mem _ _ ho.1).2.1)
    exact b m m1 (by rw [m2]; exact hi) j (by rw [m2]; exact ho)
  · right
    rw [show decide (q.2.2.1 < 0) = false by rw [decide_eq_false_iff_not]; omega, cond_false]
    obtain ⟨l', t', r1, r2, r3⟩ := folded_l10 (nf := nf) h8 hn hg q2 (fun i hi => by
      obtain ⟨m, m1, m2⟩ := hat i hi
      rw [← m2]; exact q3 m m1) b c g4
    exact ⟨_, l', t', ⟨_, _, b, c, rfl⟩, r1, r2, r3⟩

theorem folded_l4 {n : Nat} (h8 : n ≤ 8) (hn : 20 ≤ nf) : ∀ (fu : Nat) (g : Gr) (l : List Int) (t : M2), g.Good → RepR n g l t → l.length < fu →
    ∃ (k : Nat) (h : Gr) (l' : List Int) (t' : M2), Redu g k h ∧ h.Stuck ∧ RepR n h l' t' ∧ ref_Folded_l4 nf fu l t = some ((l'.length : Int), ())
  | 0, _, _, _, _, _, hfu => by omega
  | fu + 1, g, l, t, hg, h, hfu => by
    have hst : ref_Folded_l4 nf (fu + 1) l t = ref_Folded_l6 nf l (fun left3 t3 => ref_Folded_l4 nf fu left3 t3) nf l t (-1) (-1) 0 := rfl
    rw [hst]
    rcases folded_l6 (nf := nf) h8 hn hg h (fun left3 t3 => ref_Folded_l4 nf fu left3 t3) with ⟨h1, h2⟩ | ⟨g', l', t', h1, h2, h3, h4⟩
    · exact ⟨0, g, l, t, .none g, h1, h, h2⟩
    · obtain ⟨k, h', l2, t2, s1, s2, s3, s4⟩ := folded_l4 h8 hn fu g' l' t' (hg.step h1) h2 (by omega)
      exact ⟨k + 1, h', l2, t2, .more h1 s1, s2, s3, h4.trans s4⟩
end Go.Proofs.Ytccbcbhiblohgaa
