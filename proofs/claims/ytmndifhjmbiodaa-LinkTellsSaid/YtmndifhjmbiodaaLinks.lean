/- Objects, their names and places: link.build, and what the document says of them. -/
import Derived.Test.YtmndifhjmbiodaaFn1
import Derived.Test.YtmndifhjmbiodaaLib
import Derived.Test.YtmndifhjmbiodaaMaps
namespace Go.Proofs.Ytmndifhjmbiodaa
open Go Go.Ab S

abbrev Pt := Int × Int × Unit
abbrev Ob := List Int × List Pt × List Pt × Unit
abbrev I64 : Ty := .int .i64
abbrev Tb := List Int × List (Int × Int) × List (Int × Int) × Unit
def ob (L : List Ob) (i : Int) : Ob := L.getD i.toNat ([], [], [], ())
def pt (l : List Pt) (k : Int) : Pt := l.getD k.toNat (0, 0, ())
def big (o : Ob) : Bool := decide ((o.1.length : Int) > 200) || decide ((o.2.1.length : Int) > 12) || decide ((o.2.2.1.length : Int) > 12)
def badH (o : Ob) (h : Pt) : Bool := decide (h.2.1 < 0) || decide (h.2.1 > (o.1.length : Int))
def badW (o : Ob) (h : Pt) : Bool := decide (h.2.1 < 0) || decide (h.2.1 > (o.1.length : Int) - 2)
def badO (o : Ob) : Bool := o.2.1.any (badH o) || o.2.2.1.any (badW o)
/-- the names, object by object -/
def names (L : List Ob) : List Int := L.flatMap fun o => o.2.1.map (·.1)
open Classical in
noncomputable def objCode (L : List Ob) : Int := if L.length > 5 then 1 else if L.any big = true then 1 else if L.any badO = true then 4 else if (names L).Nodup then 0 else 3

theorem wr {x : Int} (h : -10000 ≤ x ∧ x ≤ 10000) : IntKind.i64.wrap x = x := Go.IntWalk.i64_in _ ⟨by omega, by omega⟩
theorem chk_all {α : Type} (q : α → Bool) (l : List α) (d : α) : chk (fun t => q (l.getD t.toNat d)) ((l.length : Int) - 0).toNat 0 = l.all q := by
  rw [Bool.eq_iff_iff, chk_iff, List.all_eq_true]
  constructor
  · intro h x hx
    obtain ⟨i, hi, rfl⟩ := List.getElem_of_mem hx
    have := h i (by omega) (by omega)
    simpa [List.getD_eq_getElem?_getD, hi] using this
  · intro h i a b
    exact h _ (getD_mem a (by omega))
theorem not_any {α : Type} (q : α → Bool) (l : List α) : (l.all fun x => !q x) = !l.any q := by
  induction l with
  | nil => rfl
  | cons x l ih => simp [ih, Bool.not_or]

variable {nf : Nat}

theorem big_len {o : Ob} (h : big o = false) : o.1.length ≤ 200 ∧ o.2.1.length ≤ 12 ∧ o.2.2.1.length ≤ 12 := by
  simp only [big, Bool.or_eq_false_iff, decide_eq_false_iff_not] at h
  omega

theorem cond_nor {α : Type} (a b : Bool) (x y : α) : (bif a then y else bif b then y else x) = bif !(a || b) then x else y := by cases a <;> cases b <;> rfl

theorem places_F (o : Ob) (hb : big o = false) (hn : 300 ≤ nf) : link_places_f nf o = some (if badO o = true then 4 else 0, ()) := by
  obtain ⟨l1, l2, l3⟩ := big_len hb
  have k2 := loop_chk (n := (o.2.2.1.length : Int)) (F := fun fu t => link_places_l2 nf o o fu o t) (yes := some (0, ())) (no := some (4, ())) (fun t => !badW o (pt o.2.2.1 t)) (fun fu t h0 ht => by
    simp only [link_places_l2, link_places_b2, ht, decide_true, cond_true, inb_ok h0 ht, wrap_step h0 ht (by simp [maxLen]; omega), wr (x := (o.1.length : Int) - 2) (by omega)]
    exact cond_nor _ _ _ _) (fun fu => by
    simp only [link_places_l2, link_places_b2, Int.lt_irrefl, decide_false, cond_false])
  have k0 := loop_chk (n := (o.2.1.length : Int)) (F := fun fu t => link_places_l0 nf o fu o t) (yes := link_places_l2 nf o o nf o 0) (no := some (4, ())) (fun t => !badH o (pt o.2.1 t)) (fun fu t h0 ht => by
    simp only [link_places_l0, link_places_b0, ht, decide_true, cond_true, inb_ok h0 ht, wrap_step h0 ht (by simp [maxLen]; omega)]
    exact cond_nor _ _ _ _) (fun fu => by
    simp only [link_places_l0, link_places_b0, Int.lt_irrefl, decide_false, cond_false])
  have e2 := k2 nf 0 (Int.le_refl _) (by omega) (by omega)
  have e0 := k0 nf 0 (Int.le_refl _) (by omega) (by omega)
  unfold link_places_f link_places_p
  simp only
  rw [e0, e2]
  have a0 := chk_all (fun h => !badH o h) o.2.1 (0, 0, ())
  have a2 := chk_all (fun h => !badW o h) o.2.2.1 (0, 0, ())
  rw [not_any] at a0 a2
  change chk (fun t => !badH o (pt o.2.1 t)) _ _ = _ at a0
  change chk (fun t => !badW o (pt o.2.2.1 t)) _ _ = _ at a2
  rw [a0, a2, badO]
  cases o.2.1.any (badH o) <;> cases o.2.2.1.any (badW o) <;> rfl
theorem insM_ins {k e : Ty} (hk : flat k = true) (y : den k) (a v : den e) : ∀ m : List (den k × den e), insM k e (insM k e m y a) y v = insM k e m y v
  | [] => by simp only [insM, eqD_refl k y hk]
  | z :: m => by
    cases hb : eqD k z.1 y with
    | true => simp only [insM, hb]
    | false => simp only [insM, hb, insM_ins hk y a v m]

/-- what the table says of a name -/
def Says (t : Tb) (X : Int → Option (Int × Int)) : Prop := ∀ n, getM I64 I64 t.2.1 n = (X n).map (·.1) ∧ getM I64 I64 t.2.2.1 n = (X n).map (·.2)
/-- where a name is among an object's -/
def locH (hs : List Pt) (n : Int) : Option Int := (hs.find? fun h => h.1 == n).map (·.2.1)
def loc : List Ob → Int → Int → Int → Option (Int × Int)
  | [], _, _, _ => none
  | o :: r, i, at', n => match locH o.2.1 n with
    | some f => some (i, at' + f)
    | none => loc r (i + 1) (at' + (o.1.length : Int)) n
def stepH (at' i : Int) (h : Pt) (_ : Int) (s : Tb) (g : Tb → Option (Option Tb × Int × Unit)) : Option (Option Tb × Int × Unit) :=
  bif (getM I64 I64 s.2.1 h.1).isSome then some (none, 3, ()) else g (s.1, insM I64 I64 s.2.1 h.1 i, insM I64 I64 s.2.2.1 h.1 (IntKind.i64.wrap (at' + h.2.1)), s.2.2.2)
def stepO (o : Ob) (i : Int) (s : Int × Tb) (g : Int × Tb → Option (Option Tb × Int × Unit)) : Option (Option Tb × Int × Unit) :=
  goL (stepH s.1 i) (fun t => bif ![s.1].isEmpty && (t.1.length + [s.1].length).ble lim then g (IntKind.i64.wrap (s.1 + (o.1.length : Int)), (t.1 ++ [s.1], t.2)) else none) o.2.1 0 s.2

theorem build_l6 {L : List Ob} {at' i : Int} (hL : ∀ o ∈ L, big o = false) (h0 : 0 ≤ i) (h1 : i < L.length) (hn : 300 ≤ nf) (g : Int → Tb → Int → Option (Option Tb × Int × Unit)) (t : Tb) :
    link_build_l6 nf L at' i g nf (ob L i) t 0 = goL (stepH at' i) (fun t => bif ![at'].isEmpty && (t.1.length + [at'].length).ble lim then g (IntKind.i64.wrap (at' + ((ob L i).1.length : Int))) (t.1 ++ [at'], t.2) (IntKind.i64.wrap (i + 1)) else none) (ob L i).2.1 0 t := by
  obtain ⟨l1, l2, l3⟩ := big_len (hL (ob L i) (getD_mem h0 h1))
  exact loop_all (l := (ob L i).2.1) (d := (0, 0, ())) (F := fun fu k t => link_build_l6 nf L at' i g fu (ob L i) t k) (fun fu k t k0 kt => by
    simp only [link_build_l6, link_build_b6]
    have kt' : k < (↑(List.length (L.getD i.toNat ([], [], [], ())).2.1) : Int) := kt
    simp only [kt', decide_true, cond_true, inb_ok k0 kt', both_self, insM_ins (k := .int .i64) rfl, wrap_step k0 kt (by simp [maxLen]; omega)]
    rfl) (fun fu k t kt => by
    subst kt
    simp only [link_build_l6, link_build_b6]
    have : ¬ (((ob L i).2.1.length : Int) < (↑(List.length (L.getD i.toNat ([], [], [], ())).2.1) : Int)) := Int.lt_irrefl _
    simp only [this, decide_false, cond_false]) nf t (by omega)

theorem build_l4 {L : List Ob} (hL : ∀ o ∈ L, big o = false) (hl : L.length ≤ 5) (hn : 300 ≤ nf) (at' : Int) (t : Tb) : link_build_l4 nf L nf at' t 0 = goL stepO (fun s => some (some s.2, 0, ())) L 0 (at', t) := by
  exact loop_all (l := L) (d := ([], [], [], ())) (F := fun fu i (s : Int × Tb) => link_build_l4 nf L fu s.1 s.2 i) (fun fu i s i0 i1 => by
    simp only [link_build_l4, link_build_b4, i1, decide_true, cond_true, inb_ok i0 i1]
    rw [show L.getD i.toNat ([], [], [], ()) = ob L i from rfl, build_l6 hL i0 i1 hn, wrap_step i0 i1 (by simp [maxLen]; omega)]
    rfl) (fun fu i s i1 => by
    subst i1
    simp only [link_build_l4, link_build_b4, Int.lt_irrefl, decide_false, cond_false]) nf (at', t) (by omega)

def updH (X : Int → Option (Int × Int)) (hs : List Pt) (i at' : Int) : Int → Option (Int × Int) := fun n => match X n with
  | some y => some y
  | none => (locH hs n).map fun f => (i, at' + f)
def updO (X : Int → Option (Int × Int)) (L : List Ob) (i at' : Int) : Int → Option (Int × Int) := fun n => match X n with
  | some y => some y
  | none => loc L i at' n
def ats : List Ob → Int → List Int
  | [], _ => []
  | o :: r, a => a :: ats r (a + (o.1.length : Int))

theorem goH {at' i : Int} (ha : 0 ≤ at' ∧ at' ≤ 1000) {fin : Tb → Option (Option Tb × Int × Unit)} : ∀ (hs : List Pt) (k : Int) (t : Tb) (X : Int → Option (Int × Int)), Says t X → (∀ h ∈ hs, 0 ≤ h.2.1 ∧ h.2.1 ≤ 200) →
    (((hs.map (·.1)).Nodup ∧ ∀ h ∈ hs, X h.1 = none) → ∃ t', t'.1 = t.1 ∧ Says t' (updH X hs i at') ∧ goL (stepH at' i) fin hs k t = fin t') ∧
    (¬ ((hs.map (·.1)).Nodup ∧ ∀ h ∈ hs, X h.1 = none) → goL (stepH at' i) fin hs k t = some (none, 3, ()))
  | [], k, t, X, hs, _ => ⟨fun _ => ⟨t, rfl, (by
      have : updH X [] i at' = X := funext fun n => by unfold updH; cases X n <;> rfl
      rw [this]; exact hs), rfl⟩, fun h => absurd ⟨List.nodup_nil, fun _ h => by cases h⟩ h⟩
  | h :: r, k, t, X, hS, hh => by
    have hX := hS h.1
    cases hx : X h.1 with
    | some y =>
      refine ⟨fun hc => ?_, fun _ => ?_⟩
      · have := hc.2 h (by simp); rw [hx] at this; cases this
      · simp only [goL, stepH]
        rw [hX.1, hx]; rfl
    | none =>
      obtain ⟨q1, q2⟩ := hh h (by simp)
      have e : goL (stepH at' i) fin (h :: r) k t = goL (stepH at' i) fin r (k + 1) (t.1, insM I64 I64 t.2.1 h.1 i, insM I64 I64 t.2.2.1 h.1 (at' + h.2.1), t.2.2.2) := by
        simp only [goL, stepH]
        rw [hX.1, hx, wr (by omega)]
        rfl
      have hS' : Says (t.1, insM I64 I64 t.2.1 h.1 i, insM I64 I64 t.2.2.1 h.1 (at' + h.2.1), t.2.2.2) (fun n => if n = h.1 then some (i, at' + h.2.1) else X n) := fun n => by
        by_cases hn : n = h.1
        · subst hn
          simp only [if_true]
          exact ⟨getM_ins_same (k := I64) rfl _ _ _, getM_ins_same (k := I64) rfl _ _ _⟩
        · simp only [hn, if_false]
          exact ⟨by rw [getM_ins_ne (k := I64) rfl _ _ (Ne.symm hn)]; exact (hS n).1, by rw [getM_ins_ne (k := I64) rfl _ _ (Ne.symm hn)]; exact (hS n).2⟩
      obtain ⟨i1, i2⟩ := goH ha (fin := fin) r (k + 1) _ _ hS' fun z hz => hh z (by simp [hz])
      have hcond : ((((h :: r).map (·.1)).Nodup ∧ ∀ z ∈ h :: r, X z.1 = none) ↔ ((r.map (·.1)).Nodup ∧ ∀ z ∈ r, (if z.1 = h.1 then some (i, at' + h.2.1) else X z.1) = none)) := by
        constructor
        · rintro ⟨c1, c2⟩
          simp only [List.map_cons, List.nodup_cons] at c1
          refine ⟨c1.2, fun z hz => ?_⟩
          rw [if_neg (show ¬ z.1 = h.1 from fun he => c1.1 (he ▸ List.mem_map_of_mem hz))]
          exact c2 z (by simp [hz])
        · rintro ⟨c1, c2⟩
          have hne : ∀ z ∈ r, z.1 ≠ h.1 := fun z hz he => by have := c2 z hz; rw [if_pos he] at this; cases this
          simp only [List.map_cons, List.nodup_cons]
          refine ⟨⟨fun hm => ?_, c1⟩, fun z hz => ?_⟩
          · obtain ⟨z, hz, he⟩ := List.mem_map.1 hm
            exact hne z hz he
          · rcases List.mem_cons.1 hz with rfl | hz
            · exact hx
            · have := c2 z hz; rwa [if_neg (hne z hz)] at this
      have hupd : updH (fun n => if n = h.1 then some (i, at' + h.2.1) else X n) r i at' = updH X (h :: r) i at' := funext fun n => by
        unfold updH
        by_cases hn : n = h.1
        · subst hn
          simp only [if_true, hx, locH, List.find?_cons, beq_self_eq_true, Option.map_some]
        · simp only [hn, if_false, locH, List.find?_cons, show (h.1 == n) = false from beq_f (Ne.symm hn)]
      rw [hcond, e]
      rw [hupd] at i1
      exact ⟨i1, i2⟩

theorem locH_none {hs : List Pt} {n : Int} : locH hs n = none ↔ n ∉ hs.map (·.1) := by
  unfold locH
  rw [Option.map_eq_none_iff, List.find?_eq_none]
  constructor
  · intro h hm
    obtain ⟨z, hz, rfl⟩ := List.mem_map.1 hm
    simpa using h z hz
  · intro h z hz hb
    exact h (List.mem_map.2 ⟨z, hz, by simpa using hb⟩)

theorem badO_H {o : Ob} (h : badO o = false) : ∀ z ∈ o.2.1, 0 ≤ z.2.1 ∧ z.2.1 ≤ (o.1.length : Int) := fun z hz => by
  simp only [badO, Bool.or_eq_false_iff, List.any_eq_false] at h
  have := h.1 z hz
  simp only [badH, Bool.or_eq_true, decide_eq_true_eq, not_or] at this
  omega
theorem badO_W {o : Ob} (h : badO o = false) : ∀ z ∈ o.2.2.1, 0 ≤ z.2.1 ∧ z.2.1 + 2 ≤ (o.1.length : Int) := fun z hz => by
  simp only [badO, Bool.or_eq_false_iff, List.any_eq_false] at h
  have := h.2 z hz
  simp only [badW, Bool.or_eq_true, decide_eq_true_eq, not_or] at this
  omega

theorem goO : ∀ (L : List Ob) (i at' : Int) (t : Tb) (X : Int → Option (Int × Int)), (∀ o ∈ L, big o = false) → (∀ o ∈ L, badO o = false) → 0 ≤ at' → at' + 200 * L.length ≤ 1000 → t.1.length + L.length ≤ 5 → Says t X →
    (((names L).Nodup ∧ ∀ n ∈ names L, X n = none) → ∃ t', t'.1 = t.1 ++ ats L at' ∧ Says t' (updO X L i at') ∧ goL stepO (fun s => some (some s.2, 0, ())) L i (at', t) = some (some t', 0, ())) ∧
    (¬ ((names L).Nodup ∧ ∀ n ∈ names L, X n = none) → goL stepO (fun s => some (some s.2, 0, ())) L i (at', t) = some (none, 3, ()))
  | [], i, at', t, X, _, _, _, _, _, hS => ⟨fun _ => ⟨t, by simp [ats], (by
      have : updO X [] i at' = X := funext fun n => by unfold updO; cases X n <;> rfl
      rw [this]; exact hS), rfl⟩, fun h => absurd ⟨List.nodup_nil, fun _ h => by cases h⟩ h⟩
  | o :: r, i, at', t, X, hb, hp, a0, a1, hl, hS => by
    obtain ⟨l1, l2, l3⟩ := big_len (hb o (by simp))
    have hH := badO_H (hp o (by simp))
    simp only [List.length_cons] at a1 hl
    obtain ⟨i1, i2⟩ := goH (at' := at') (i := i) (by omega) (fin := fun t => bif ![at'].isEmpty && (t.1.length + [at'].length).ble lim then goL stepO (fun s => some (some s.2, 0, ())) r (i + 1) (IntKind.i64.wrap (at' + (o.1.length : Int)), (t.1 ++ [at'], t.2)) else none) o.2.1 0 t X hS fun z hz => by have := hH z hz; omega
    have e : goL stepO (fun s => some (some s.2, 0, ())) (o :: r) i (at', t) = goL (stepH at' i) (fun t => bif ![at'].isEmpty && (t.1.length + [at'].length).ble lim then goL stepO (fun s => some (some s.2, 0, ())) r (i + 1) (IntKind.i64.wrap (at' + (o.1.length : Int)), (t.1 ++ [at'], t.2)) else none) o.2.1 0 t := rfl
    have hnm : names (o :: r) = o.2.1.map (·.1) ++ names r := by simp [names]
    rw [e]
    by_cases hc : (o.2.1.map (·.1)).Nodup ∧ ∀ h ∈ o.2.1, X h.1 = none
    · obtain ⟨t1, e1, e2, e3⟩ := i1 hc
      rw [e3]
      have hble : (![at'].isEmpty && (t1.1.length + [at'].length).ble lim) = true := by
        rw [e1]
        have : (t.1.length + [at'].length).ble lim = true := ble_ok (by simp only [List.length_singleton]; omega)
        rw [this]; rfl
      rw [hble, cond_true, wr (by omega)]
      obtain ⟨j1, j2⟩ := goO r (i + 1) (at' + (o.1.length : Int)) (t1.1 ++ [at'], t1.2) (updH X o.2.1 i at') (fun z hz => hb z (by simp [hz])) (fun z hz => hp z (by simp [hz])) (by omega) (by omega) (by rw [e1]; simp only [List.length_append, List.length_singleton]; omega) e2
      have hcond : (((names (o :: r)).Nodup ∧ ∀ n ∈ names (o :: r), X n = none) ↔ ((names r).Nodup ∧ ∀ n ∈ names r, updH X o.2.1 i at' n = none)) := by
        rw [hnm, List.nodup_append]
        have hu : ∀ n, updH X o.2.1 i at' n = none ↔ X n = none ∧ n ∉ o.2.1.map (·.1) := fun n => by
          unfold updH
          cases X n with
          | some y => simp
          | none => simp only [Option.map_eq_none_iff, locH_none, true_and]
        constructor
        · rintro ⟨⟨c1, c2, c3⟩, c4⟩
          exact ⟨c2, fun n hn => (hu n).2 ⟨c4 n (by simp [hn]), fun hm => c3 n hm n hn rfl⟩⟩
        · rintro ⟨c1, c2⟩
          refine ⟨⟨hc.1, c1, fun x hx y hy he => ?_⟩, fun n hn => ?_⟩
          · subst he; exact ((hu x).1 (c2 x hy)).2 hx
          · rcases List.mem_append.1 hn with hn | hn
            · obtain ⟨z, hz, rfl⟩ := List.mem_map.1 hn
              exact hc.2 z hz
            · exact ((hu n).1 (c2 n hn)).1
      have hupd : updO (updH X o.2.1 i at') r (i + 1) (at' + (o.1.length : Int)) = updO X (o :: r) i at' := funext fun n => by
        unfold updO updH
        cases X n with
        | some y => rfl
        | none =>
          simp only [loc]
          cases locH o.2.1 n <;> rfl
      rw [hcond]
      refine ⟨fun h => ?_, j2⟩
      obtain ⟨t2, f1, f2, f3⟩ := j1 h
      refine ⟨t2, ?_, hupd ▸ f2, f3⟩
      rw [f1, e1, ats]
      simp
    · rw [i2 hc]
      refine ⟨fun h => absurd ?_ hc, fun _ => rfl⟩
      rw [hnm, List.nodup_append] at h
      exact ⟨h.1.1, fun z hz => h.2 z.1 (by simp only [List.mem_append]; exact .inl (List.mem_map_of_mem hz))⟩

/-- what link.build yields -/
theorem build_F (L : List Ob) (hn : 300 ≤ nf) : (objCode L = 0 → ∃ t : Tb, t.1 = ats L 0 ∧ Says t (loc L 0 0) ∧ link_build_f nf L = some (some t, 0, ())) ∧ (objCode L ≠ 0 → link_build_f nf L = some (none, objCode L, ())) := by
  unfold link_build_f link_build_p objCode
  by_cases h5 : L.length > 5
  · rw [if_pos h5]
    refine ⟨fun h => absurd h (by decide), fun _ => ?_⟩
    simp only [show ((L.length : Int) > 5) by omega, decide_true, cond_true]
  rw [if_neg h5]
  simp only [show ¬ ((L.length : Int) > 5) by omega, decide_false, cond_false]
  have k2 := loop_chk (n := (L.length : Int)) (F := fun fu t => link_build_l2 nf L fu t) (yes := link_build_l4 nf L nf 0 ([], [], [], ()) 0) (no := some (none, 4, ())) (fun t => !badO (ob L t))
  have k0 := loop_chk (n := (L.length : Int)) (F := fun fu t => link_build_l0 nf L fu t) (yes := link_build_l2 nf L nf 0) (no := some (none, 1, ())) (fun t => !big (ob L t)) (fun fu t h0 ht => by
    simp only [link_build_l0, link_build_b0, ht, decide_true, cond_true, inb_ok h0 ht, wrap_step h0 ht (by simp [maxLen]; omega)]
    rw [show L.getD t.toNat ([], [], [], ()) = ob L t from rfl, cond_nor]
    congr 2
    unfold big
    rw [Bool.or_assoc]
    congr 1
    rw [Bool.eq_iff_iff, Bool.or_eq_true]
    simp only [decide_eq_true_eq]
    split <;> omega) (fun fu => by
    simp only [link_build_l0, link_build_b0, Int.lt_irrefl, decide_false, cond_false]) nf 0 (Int.le_refl _) (by omega) (by omega)
  have a0 := chk_all (fun o => !big o) L ([], [], [], ())
  rw [not_any] at a0
  change chk (fun t => !big (ob L t)) _ _ = _ at a0
  rw [k0, a0]
  by_cases hb : L.any big = true
  · rw [if_pos hb, hb]
    exact ⟨fun h => absurd h (by decide), fun _ => rfl⟩
  rw [if_neg hb]
  have hb' : L.any big = false := by simpa using hb
  have hL : ∀ o ∈ L, big o = false := fun o ho => by have := List.any_eq_false.1 hb' o ho; simpa using this
  rw [hb', Bool.not_false, cond_true]
  have k2 := k2 (fun fu t h0 ht => by
    simp only [link_build_l2, link_build_b2, ht, decide_true, cond_true, inb_ok h0 ht, wrap_step h0 ht (by simp [maxLen]; omega)]
    rw [show L.getD t.toNat ([], [], [], ()) = ob L t from rfl, places_F (ob L t) (hL (ob L t) (getD_mem h0 ht)) hn]
    cases badO (ob L t) <;> rfl) (fun fu => by
    simp only [link_build_l2, link_build_b2, Int.lt_irrefl, decide_false, cond_false]) nf 0 (Int.le_refl _) (by omega) (by omega)
  have a2 := chk_all (fun o => !badO o) L ([], [], [], ())
  rw [not_any] at a2
  change chk (fun t => !badO (ob L t)) _ _ = _ at a2
  rw [k2, a2]
  by_cases hp : L.any badO = true
  · rw [if_pos hp, hp]
    exact ⟨fun h => absurd h (by decide), fun _ => rfl⟩
  rw [if_neg hp]
  have hp' : L.any badO = false := by simpa using hp
  have hP : ∀ o ∈ L, badO o = false := fun o ho => by have := List.any_eq_false.1 hp' o ho; simpa using this
  rw [hp', Bool.not_false, cond_true, build_l4 hL (by omega) hn]
  obtain ⟨j1, j2⟩ := goO L 0 0 ([], [], [], ()) (fun _ => none) hL hP (Int.le_refl _) (by omega) (by simp only [List.length_nil]; omega) (fun n => ⟨rfl, rfl⟩)
  by_cases hd : (names L).Nodup
  · rw [if_pos hd]
    refine ⟨fun _ => ?_, fun h => absurd rfl h⟩
    obtain ⟨t, e1, e2, e3⟩ := j1 ⟨hd, fun _ _ => rfl⟩
    exact ⟨t, by simpa using e1, e2, e3⟩
  · rw [if_neg hd]
    exact ⟨fun h => absurd h (by decide), fun _ => j2 fun h => hd h.1⟩
end Go.Proofs.Ytmndifhjmbiodaa
