/- The first term with the same value: by a table, and by looking. -/
import Derived.Test.YtpnganfbonlphaaFnV
import Derived.Test.YtpnganfbonlphaaTerms
import Derived.Test.YtpnganfbonlphaaMaps
namespace Go.Proofs.Ytpnganfbonlphaa
open Go Go.Ab S

/-- what two terms share that are the same -/
def keyOf (F : List Int) (t : Term5) : Term5 :=
  if t.1 > 2 then
    if t.1 = 3 ∨ t.1 = 5 then (t.1, (if F.getD t.2.2.1.toNat 0 < F.getD t.2.1.toNat 0 then F.getD t.2.2.1.toNat 0 else F.getD t.2.1.toNat 0), (if F.getD t.2.2.1.toNat 0 > F.getD t.2.1.toNat 0 then F.getD t.2.2.1.toNat 0 else F.getD t.2.1.toNat 0), 0, ())
    else (t.1, F.getD t.2.1.toNat 0, F.getD t.2.2.1.toNat 0, 0, ())
  else (t.1, 0, 0, t.2.2.2.1, ())

def firstOf (done : List Term5) (F : List Int) (t : Term5) : Int := ((done.findIdx? fun u => decide (keyOf F u = keyOf F t)).getD done.length : Nat)
def nums : List Term5 → List Term5 → List Int → List Int
  | [], _, F => F
  | t :: r, done, F => nums r (done ++ [t]) (F ++ [firstOf done F t])

/-- the operands lie among the first n terms -/
def Opnds (n : Nat) (t : Term5) : Prop := t.1 > 2 → 0 ≤ t.2.1 ∧ t.2.1 < n ∧ 0 ≤ t.2.2.1 ∧ t.2.2.1 < n

theorem getD_app {F : List Int} {x : Int} {i : Int} (h0 : 0 ≤ i) (h1 : i < F.length) : (F ++ [x]).getD i.toNat 0 = F.getD i.toNat 0 := by
  rw [List.getD_eq_getElem?_getD, List.getD_eq_getElem?_getD, List.getElem?_append_left (by omega)]
theorem keyOf_app {F : List Int} {x : Int} {t : Term5} (h : Opnds F.length t) : keyOf (F ++ [x]) t = keyOf F t := by
  unfold keyOf
  split
  · rename_i h2
    obtain ⟨a, b, c, d⟩ := h h2
    rw [getD_app a b, getD_app c d]
  · rfl

abbrev KT : Ty := .pair (.int .i64) (.pair (.int .i64) (.pair (.int .i64) (.pair (.int .i64) .unit)))
theorem flatKT : flat KT = true := rfl

theorem num_l0 {nf : Nat} {l : List Term5} (hl : l.length ≤ 16) : ∀ (r done : List Term5) (known : List (Term5 × Int)) (F : List Int) (fu : Nat) (t : Int), l = done ++ r → t = done.length → r.length < fu → F.length = done.length → (∀ u ∈ done, Opnds done.length u) → (∀ i, i < r.length → Opnds (done.length + i) (r.getD i (0, 0, 0, 0, ()))) →
    (∀ z, getM KT (.int .i64) known z = (done.findIdx? fun u => decide (keyOf F u = z)).map fun (n : Nat) => (n : Int)) →
    value_numbers_l0 nf l fu known F (done.map (keyOf F)) t = some (nums r done F, (l.map (keyOf (nums r done F))), ())
  | [], done, known, F, fu + 1, t, hlr, ht, _, hF, hO, hR, hK => by
    have : ¬ t < l.length := by rw [hlr, ht]; simp
    rw [value_numbers_l0, value_numbers_b0]
    simp only [this, decide_false, cond_false, nums]
    rw [hlr, List.append_nil]
  | x :: r, done, known, F, fu + 1, t, hlr, ht, hfu, hF, hO, hR, hK => by
    have hlen : l.length = done.length + (r.length + 1) := by rw [hlr]; simp
    have h0 : 0 ≤ t := by omega
    have h1 : t < l.length := by omega
    have hx : l.getD t.toNat (0, 0, 0, 0, ()) = x := by
      rw [hlr, ht]; simp
    have hox : Opnds done.length x := by have := hR 0 (by simp); simpa using this
    have hkx : ∀ y, keyOf (F ++ [y]) x = keyOf F x := fun y => keyOf_app (by rw [hF]; exact hox)
    have hkd : ∀ y, ∀ u ∈ done, keyOf (F ++ [y]) u = keyOf F u := fun y u hu => keyOf_app (by rw [hF]; exact hO u hu)
    have hmap : ∀ y, (done ++ [x]).map (keyOf (F ++ [y])) = done.map (keyOf F) ++ [keyOf F x] := fun y => by
      rw [List.map_append, List.map_singleton, hkx, List.map_congr_left (hkd y)]
    have hfind : ∀ y z, ((done ++ [x]).findIdx? fun u => decide (keyOf (F ++ [y]) u = z)) = (match done.findIdx? fun u => decide (keyOf F u = z) with | some i => some i | none => if keyOf F x = z then some done.length else none) := fun y z => by
      rw [List.findIdx?_append]
      have : (done.findIdx? fun u => decide (keyOf (F ++ [y]) u = z)) = done.findIdx? fun u => decide (keyOf F u = z) := by
        have hgen : ∀ (d : List Term5), (∀ u ∈ d, keyOf (F ++ [y]) u = keyOf F u) → (d.findIdx? fun u => decide (keyOf (F ++ [y]) u = z)) = d.findIdx? fun u => decide (keyOf F u = z) := by
          intro d
          induction d with
          | nil => intro _; rfl
          | cons a r ih =>
            intro h
            rw [List.findIdx?_cons, List.findIdx?_cons, h a (by simp), ih fun u hu => h u (by simp [hu])]
        exact hgen done (hkd y)
      rw [this]
      cases done.findIdx? fun u => decide (keyOf F u = z) with
      | some i => simp
      | none =>
        simp only [List.findIdx?_cons, hkx, List.findIdx?_nil]
        by_cases h : keyOf F x = z <;> simp [h]
    have next : ∀ (known' : List (Term5 × Int)) (y : Int), y = firstOf done F x →
        (∀ z, getM KT (.int .i64) known' z = (match done.findIdx? fun u => decide (keyOf F u = z) with | some i => some (i : Int) | none => if keyOf F x = z then some (done.length : Int) else none)) →
        value_numbers_l0 nf l fu known' (F ++ [y]) (done.map (keyOf F) ++ [keyOf F x]) (t + 1) = some (nums (x :: r) done F, l.map (keyOf (nums (x :: r) done F)), ()) := fun known' y hy hk => by
      rw [← hmap y]
      have := num_l0 (nf := nf) hl r (done ++ [x]) known' (F ++ [y]) fu (t + 1) (by rw [hlr]; simp) (by simp; omega) (by simp at hfu; omega) (by simp [hF]) (fun u hu hop => by
          rcases List.mem_append.1 hu with hu | hu
          · have := hO u hu hop; simp; omega
          · simp at hu; subst hu; have := hox hop; simp; omega) (fun i hi => by
          have := hR (i + 1) (by simp; omega)
          simp only [List.length_append, List.length_singleton]
          rw [show done.length + 1 + i = done.length + (i + 1) by omega]
          simpa using this) (fun z => by
          rw [hk z, hfind y z]
          cases done.findIdx? fun u => decide (keyOf F u = z) with
          | some i => rfl
          | none => by_cases h : keyOf F x = z <;> simp [h])
      rw [this, hy]
      rfl
    have hw : IntKind.i64.wrap (t + 1) = t + 1 := wrap_step h0 h1 (Nat.le_trans hl (by decide))
    have fit : ∀ y : Int, (bimp false (!List.isEmpty [y]) && Nat.ble (F.length + [y].length) lim) = true := fun y => by rw [ble_ok (by simp; omega)]; rfl
    have fit2 : ∀ {α β : Type} (y : α) (z : β), (bimp false (!List.isEmpty [y]) && Nat.ble ((done.map (keyOf F)).length + [z].length) lim) = true := fun y z => by rw [ble_ok (by simp; omega)]; rfl
    have key : ∀ K : Term5, K = keyOf F x → (bif !(getM KT (.int .i64) known K).isSome then value_numbers_l0 nf l fu (insM KT (.int .i64) known K t) (F ++ [t]) (done.map (keyOf F) ++ [K]) (t + 1) else value_numbers_l0 nf l fu known (F ++ [(getM KT (.int .i64) known K).getD 0]) (done.map (keyOf F) ++ [K]) (t + 1)) = some (nums (x :: r) done F, l.map (keyOf (nums (x :: r) done F)), ()) := by
      rintro K rfl
      rw [hK]
      cases hd : done.findIdx? fun u => decide (keyOf F u = keyOf F x) with
      | none =>
        refine next _ _ (by simp [firstOf, hd, ht]) fun z => ?_
        rw [getM_ins flatKT, hK]
        cases he : eqD KT (keyOf F x) z with
        | true =>
          have : keyOf F x = z := eqD_eq KT _ _ flatKT he
          subst this
          simp [hd, ht]
        | false =>
          have : keyOf F x ≠ z := fun h => by rw [h, eqD_refl KT z flatKT] at he; cases he
          simp only [this, if_false]
          cases done.findIdx? fun u => decide (keyOf F u = z) <;> rfl
      | some i =>
        refine next _ _ (by simp [firstOf, hd]) fun z => ?_
        rw [hK]
        cases hz : done.findIdx? fun u => decide (keyOf F u = z) with
        | some j => rfl
        | none =>
          by_cases h : keyOf F x = z
          · subst h; rw [hd] at hz; cases hz
          · simp [h]
    rw [value_numbers_l0, value_numbers_b0]
    simp only [hx, h1, decide_true, cond_true, inb_ok h0 h1, hw, fit, fit2, both_self]
    by_cases o : x.1 > 2
    · obtain ⟨a0, a1, b0, b1⟩ := hox o
      rw [← hF] at a1 b1
      simp only [o, decide_true, cond_true, inb_ok a0 a1, inb_ok b0 b1]
      by_cases o3 : x.1 = 3
      · have hk : keyOf F x = (x.1, (if F.getD x.2.2.1.toNat 0 < F.getD x.2.1.toNat 0 then F.getD x.2.2.1.toNat 0 else F.getD x.2.1.toNat 0), (if F.getD x.2.2.1.toNat 0 > F.getD x.2.1.toNat 0 then F.getD x.2.2.1.toNat 0 else F.getD x.2.1.toNat 0), 0, ()) := by
          unfold keyOf; simp [o3]
        simp only [o3, beq_self_eq_true, cond_true]
        rw [o3] at hk
        exact key _ hk.symm
      · by_cases o5 : x.1 = 5
        · have hk : keyOf F x = (x.1, (if F.getD x.2.2.1.toNat 0 < F.getD x.2.1.toNat 0 then F.getD x.2.2.1.toNat 0 else F.getD x.2.1.toNat 0), (if F.getD x.2.2.1.toNat 0 > F.getD x.2.1.toNat 0 then F.getD x.2.2.1.toNat 0 else F.getD x.2.1.toNat 0), 0, ()) := by
            unfold keyOf; simp [o5]
          simp only [o5, beq_self_eq_true, cond_true, show ((5 : Int) == 3) = false from rfl, cond_false]
          rw [o5] at hk
          exact key _ hk.symm
        · have hk : keyOf F x = (x.1, F.getD x.2.1.toNat 0, F.getD x.2.2.1.toNat 0, 0, ()) := by
            unfold keyOf; simp [o, o3, o5]
          simp only [beq_f o3, beq_f o5, cond_false]
          exact key _ hk.symm
    · have hk : keyOf F x = (x.1, 0, 0, x.2.2.2.1, ()) := by unfold keyOf; simp [o]
      simp only [o, decide_false, cond_false]
      exact key _ hk.symm
  | _, _, _, _, 0, _, _, _, h, _, _, _, _ => by omega

theorem opnds_of {vars : Int} : ∀ (r : List Term5) (n : Nat), termGo vars r n = 0 → ∀ i, i < r.length → Opnds (n + i) (r.getD i (0, 0, 0, 0, ()))
  | (op, a, b, k, _) :: r, n, h, i, hi => by
    obtain ⟨_, _, _, _, h5, h6⟩ := termGo_cons h
    cases i with
    | zero => intro ho; have := h5 ho; simp; omega
    | succ i =>
      have := opnds_of r (n + 1) (by simpa using h6) i (by simpa using hi)
      rw [show n + (i + 1) = n + 1 + i by omega]
      simpa using this

theorem numbers_F {nf : Nat} {l : List Term5} {vars : Int} (hl : l.length ≤ 16) (hn : 16 < nf) (h : termGo vars l 0 = 0) : value_numbers_f nf l = some (nums l [] [], l.map (keyOf (nums l [] [])), ()) := by
  have := num_l0 (nf := nf) hl l [] [] [] nf 0 rfl rfl (by omega) rfl (by simp) (fun i hi => by simpa using opnds_of l 0 (by simpa using h) i hi) (fun z => rfl)
  simpa [value_numbers_f, value_numbers_p] using this

theorem nums_len : ∀ (r done : List Term5) (F : List Int), (nums r done F).length = F.length + r.length
  | [], _, _ => rfl
  | t :: r, done, F => by rw [nums, nums_len]; simp; omega

theorem beq_dec (a b : Int) : (a == b) = decide (a = b) := rfl
/-- the document's way of telling -/
theorem same_F {nf : Nat} {l : List Term5} {F : List Int} {a b : Term5} (ha : Opnds F.length a) (hb : Opnds F.length b) (pa : 1 ≤ a.1) : ref_same_f nf l F a b = some (decide (keyOf F b = keyOf F a), ()) := by
  obtain ⟨op, a1, a2, ka, _⟩ := a
  obtain ⟨op', b1, b2, kb, _⟩ := b
  simp only [ref_same_f, ref_same_p]
  by_cases h : op = op'
  · subst h
    simp only [bne_self_eq_false, cond_false]
    by_cases o : op < 3
    · simp only [o, decide_true, cond_true, keyOf, show ¬ op > 2 by omega, if_false]
      by_cases hk : ka = kb
      · subst hk; simp
      · have hk' : ¬ kb = ka := fun h => hk h.symm
        simp [beq_f hk, hk']
    · obtain ⟨ha0, ha1, ha2, ha3⟩ := ha (by simp; omega)
      obtain ⟨hb0, hb1, hb2, hb3⟩ := hb (by simp; omega)
      simp only at ha0 ha1 ha2 ha3 hb0 hb1 hb2 hb3
      simp only [o, decide_false, cond_false, inb_ok ha0 ha1, inb_ok ha2 ha3, inb_ok hb0 hb1, inb_ok hb2 hb3, cond_true, keyOf, show op > 2 by omega, if_true]
      generalize F.getD a1.toNat 0 = x1
      generalize F.getD a2.toNat 0 = x2
      generalize F.getD b1.toNat 0 = y1
      generalize F.getD b2.toNat 0 = y2
      by_cases oc : op = 3 ∨ op = 5
      · have hoc : (op == 3) = true ∨ (op == 3) = false ∧ (op == 5) = true := by
          rcases oc with h | h <;> subst h <;> simp
        simp only [oc, if_true, Prod.mk.injEq, eq_self, true_and, and_true]
        have e : ((if y2 < y1 then y2 else y1) = (if x2 < x1 then x2 else x1) ∧ (if y2 > y1 then y2 else y1) = (if x2 > x1 then x2 else x1)) ↔ ((x1 = y1 ∧ x2 = y2) ∨ (x1 = y2 ∧ x2 = y1)) := by
          have h1 : ∀ a b : Int, (if b < a then b else a) = min a b := fun a b => by split <;> omega
          have h2 : ∀ a b : Int, (if b > a then b else a) = max a b := fun a b => by split <;> omega
          simp only [h1, h2]
          omega
        simp only [e]
        simp only [beq_dec, Bool.decide_or, Bool.decide_and] at hoc ⊢
        generalize decide (x1 = y1) = c1
        generalize decide (x2 = y2) = c2
        generalize decide (x1 = y2) = c3
        generalize decide (x2 = y1) = c4
        rcases hoc with hoc | ⟨hoc, hoc'⟩
        · rw [hoc]; cases c1 <;> cases c2 <;> cases c3 <;> cases c4 <;> rfl
        · rw [hoc, hoc']; cases c1 <;> cases c2 <;> cases c3 <;> cases c4 <;> rfl
      · have o3 : (op == 3) = false := beq_f fun h => oc (.inl h)
        have o5 : (op == 5) = false := beq_f fun h => oc (.inr h)
        simp only [oc, if_false, Prod.mk.injEq, eq_self, true_and, and_true]
        have e : (y1 = x1 ∧ y2 = x2) ↔ (x1 = y1 ∧ x2 = y2) := ⟨fun h => ⟨h.1.symm, h.2.symm⟩, fun h => ⟨h.1.symm, h.2.symm⟩⟩
        simp only [e, o3, o5]
        simp only [beq_dec, Bool.decide_and]
        generalize decide (x1 = y1) = c1
        generalize decide (x2 = y2) = c2
        generalize decide (x1 = y2) = c3
        generalize decide (x2 = y1) = c4
        cases c1 <;> cases c2 <;> cases c3 <;> cases c4 <;> rfl
  · have : ¬ keyOf F (op', b1, b2, kb, ()) = keyOf F (op, a1, a2, ka, ()) := fun he => h (by
      have h1 : ∀ t, (keyOf F t).1 = t.1 := fun t => by unfold keyOf; split <;> (try split) <;> rfl
      have := congrArg Prod.fst he
      rw [h1, h1] at this; exact this.symm)
    simp only [bne_t h, cond_true, this, decide_false]

/-- looking backwards, the last found is the first -/
theorem firsts_l2 {nf : Nat} {l : List Term5} {t10 : Int} {g0 : List Int → Int → Option (List Int × Unit)} {F : List Int} {x : Term5} {done : List Term5} {r : List Term5} (hlr : l = done ++ r) (hF : F.length = done.length) (hl : l.length ≤ 16) (hx : Opnds F.length x) (px : 1 ≤ x.1) (hO : ∀ u ∈ done, Opnds F.length u)
    (ht : 0 ≤ t10 ∧ t10 < l.length) :
    ∀ (n : Nat) (fu : Nat) (f : Int), n ≤ done.length → n < fu → ref_Firsts_l2 nf l t10 g0 fu F x f ((n : Int) - 1) = g0 (F ++ [match (done.take n).findIdx? fun u => decide (keyOf F u = keyOf F x) with | some i => (i : Int) | none => f]) (t10 + 1)
  | n, 0, _, _, h => by omega
  | 0, fu + 1, f, _, _ => by
    rw [ref_Firsts_l2, ref_Firsts_b2]
    have fit : (bimp false (!List.isEmpty [f]) && Nat.ble (F.length + [f].length) lim) = true := by
      have : l.length = done.length + r.length := by rw [hlr]; simp
      rw [ble_ok (by simp; omega)]; rfl
    simp only [show ¬ ((0 : Nat) : Int) - 1 ≥ 0 by omega, decide_false, cond_false, fit, cond_true, wrap_step ht.1 ht.2 (Nat.le_trans hl (by decide))]
    rfl
  | n + 1, fu + 1, f, hn, hfu => by
    have hlen : l.length = done.length + r.length := by rw [hlr]; simp
    have hjn : n < done.length := by omega
    have hj : l.getD n (0, 0, 0, 0, ()) = done[n] := by
      rw [hlr]; simp [List.getElem?_append_left hjn, hjn]
    have hw : IntKind.i64.wrap ((n : Int) - 1) = (n : Int) - 1 := Go.IntWalk.i64_in _ (by omega)
    rw [ref_Firsts_l2, ref_Firsts_b2, show ((n + 1 : Nat) : Int) - 1 = (n : Int) by omega]
    rw [inb_ok (by omega) (by omega)]
    simp only [show (n : Int) ≥ 0 by omega, decide_true, cond_true, Int.toNat_natCast, hj, hw, same_F hx (hO _ (List.getElem_mem hjn)) px, Option.bind_some]
    rw [firsts_l2 hlr hF hl hx px hO ht n fu n (by omega) (by omega), firsts_l2 hlr hF hl hx px hO ht n fu f (by omega) (by omega)]
    have htk : done.take (n + 1) = done.take n ++ [done[n]] := by rw [List.take_succ_eq_append_getElem hjn]
    rw [htk, List.findIdx?_append]
    have hln : (done.take n).length = n := by simp; omega
    cases hc : decide (keyOf F done[n] = keyOf F x) with
    | true =>
      rw [cond_true]
      cases (done.take n).findIdx? fun u => decide (keyOf F u = keyOf F x) with
      | some i => simp
      | none => simp [List.findIdx?_cons, hc, hln]
    | false =>
      rw [cond_false]
      cases (done.take n).findIdx? fun u => decide (keyOf F u = keyOf F x) with
      | some i => simp
      | none => simp [List.findIdx?_cons, hc]

theorem firsts_l0 {nf : Nat} (hn : 17 < nf) {l : List Term5} (hl : l.length ≤ 16) : ∀ (r done : List Term5) (F : List Int) (fu : Nat) (t : Int), l = done ++ r → t = done.length → r.length < fu → F.length = done.length → (∀ u ∈ done, Opnds done.length u) → (∀ i, i < r.length → Opnds (done.length + i) (r.getD i (0, 0, 0, 0, ()))) → (∀ u ∈ r, 1 ≤ u.1) →
    ref_Firsts_l0 nf l fu F t = some (nums r done F, ())
  | [], done, F, fu + 1, t, hlr, ht, _, hF, hO, hR, hP => by
    have : ¬ t < l.length := by rw [hlr, ht]; simp
    rw [ref_Firsts_l0, ref_Firsts_b0]
    simp [this, nums]
  | x :: r, done, F, fu + 1, t, hlr, ht, hfu, hF, hO, hR, hP => by
    have hlen : l.length = done.length + (r.length + 1) := by rw [hlr]; simp
    have h0 : 0 ≤ t := by omega
    have h1 : t < l.length := by omega
    have hx : l.getD t.toNat (0, 0, 0, 0, ()) = x := by
      rw [hlr, ht]; simp
    have hox : Opnds done.length x := by have := hR 0 (by simp); simpa using this
    have hw : IntKind.i64.wrap (t - 1) = ((done.length : Nat) : Int) - 1 := by rw [ht]; exact Go.IntWalk.i64_in _ (by omega)
    rw [ref_Firsts_l0, ref_Firsts_b0]
    simp only [hx, h1, decide_true, cond_true, inb_ok h0 h1, hw]
    rw [firsts_l2 hlr hF hl (by rw [hF]; exact hox) (hP x (by simp)) (by rw [hF]; exact hO) ⟨h0, h1⟩ done.length nf t (Nat.le_refl _) (by omega)]
    have he : (match (done.take done.length).findIdx? fun u => decide (keyOf F u = keyOf F x) with | some i => (i : Int) | none => t) = firstOf done F x := by
      rw [List.take_length]; unfold firstOf
      cases done.findIdx? fun u => decide (keyOf F u = keyOf F x) with
      | some i => rfl
      | none => simp [ht]
    rw [he, nums]
    exact firsts_l0 hn hl r (done ++ [x]) _ fu (t + 1) (by rw [hlr]; simp) (by simp; omega) (by simp at hfu; omega) (by simp [hF]) (fun u hu hop => by
          rcases List.mem_append.1 hu with hu | hu
          · have := hO u hu hop; simp; omega
          · simp at hu; subst hu; have := hox hop; simp; omega) (fun i hi => by
          have := hR (i + 1) (by simp; omega)
          simp only [List.length_append, List.length_singleton]
          rw [show done.length + 1 + i = done.length + (i + 1) by omega]
          simpa using this) fun u hu => hP u (by simp [hu])
  | _, _, _, 0, _, _, _, h, _, _, _, _ => by omega

theorem ops_pos {vars : Int} : ∀ (r : List Term5) (n : Int), termGo vars r n = 0 → ∀ u ∈ r, 1 ≤ u.1
  | (op, a, b, k, _) :: r, n, h, u, hu => by
    obtain ⟨h1, _, _, _, _, h6⟩ := termGo_cons h
    rcases List.mem_cons.1 hu with rfl | hu
    · exact h1
    · exact ops_pos r _ h6 u hu

theorem firsts_F {nf : Nat} {l : List Term5} {vars : Int} (hl : l.length ≤ 16) (hn : 17 < nf) (h : termGo vars l 0 = 0) : ref_Firsts_f nf l = some (nums l [] [], ()) := by
  have := firsts_l0 (nf := nf) hn hl l [] [] nf 0 rfl rfl (by omega) rfl (by simp) (fun i hi => by simpa using opnds_of l 0 (by simpa using h) i hi) (ops_pos l 0 h)
  simpa [ref_Firsts_f, ref_Firsts_p] using this
end Go.Proofs.Ytpnganfbonlphaa
