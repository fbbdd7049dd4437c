/- The document on objects: what is wrong with them, where a name is; link.Find. -/
import Derived.Test.YtmndifhjmbiodaaLinks
namespace Go.Proofs.Ytmndifhjmbiodaa
open Go Go.Ab S
variable {nf : Nat}

def nm (L : List Ob) (i k : Int) : Int := (pt (ob L i).2.1 k).1
def apart (L : List Ob) (i k j m : Int) : Bool := !((i != j || k != m) && nm L i k == nm L j m)
def allApart (L : List Ob) : Bool := chk (fun i => chk (fun k => chk (fun j => chk (fun m => apart L i k j m) (((ob L j).2.1.length : Int) - 0).toNat 0) ((L.length : Int) - 0).toNat 0) (((ob L i).2.1.length : Int) - 0).toNat 0) ((L.length : Int) - 0).toNat 0

theorem ob_nat {L : List Ob} {i : Nat} (hi : i < L.length) : ob L (i : Int) = L[i] := by
  simp [ob, List.getD_eq_getElem?_getD, hi]
theorem nm_nat {L : List Ob} {i k : Nat} (hi : i < L.length) (hk : k < (L[i].2.1.map (·.1)).length) : nm L (i : Int) (k : Int) = (L[i].2.1.map (·.1))[k] := by
  have hk' : k < L[i].2.1.length := by simpa using hk
  unfold nm pt
  rw [ob_nat hi]
  simp [List.getD_eq_getElem?_getD, hk']

theorem allApart_iff (L : List Ob) : allApart L = true ↔ (names L).Nodup := by
  have h1 : allApart L = true ↔ ∀ i k j m : Nat, i < L.length → k < (ob L i).2.1.length → j < L.length → m < (ob L j).2.1.length → apart L i k j m = true := by
    unfold allApart
    simp only [chk_iff]
    constructor
    · intro h i k j m hi hk hj hm
      exact h i (by omega) (by omega) k (by omega) (by omega) j (by omega) (by omega) m (by omega) (by omega)
    · intro h i i0 i1 k k0 k1 j j0 j1 m m0 m1
      have := h i.toNat k.toNat j.toNat m.toNat (by omega)
      simp only [Int.toNat_of_nonneg i0, Int.toNat_of_nonneg k0, Int.toNat_of_nonneg j0, Int.toNat_of_nonneg m0] at this
      exact this (by omega) (by omega) (by omega)
  rw [h1, names, List.Nodup, List.pairwise_flatMap]
  have ap : ∀ i k j m : Nat, apart L i k j m = true ↔ ((i ≠ j ∨ k ≠ m) → nm L i k ≠ nm L j m) := fun i k j m => by
    unfold apart
    simp only [Bool.not_eq_true', Bool.and_eq_false_iff, Bool.or_eq_false_iff, bne_eq_false_iff_eq, beq_eq_false_iff_ne, ne_eq]
    constructor
    · rintro (⟨a, b⟩ | h) hne
      · rcases hne with hne | hne
        · exact absurd (by exact_mod_cast a) hne
        · exact absurd (by exact_mod_cast b) hne
      · exact h
    · intro h
      by_cases hc : i ≠ j ∨ k ≠ m
      · exact .inr (h hc)
      · left
        have : i = j ∧ k = m := ⟨Decidable.byContradiction fun h => hc (.inl h), Decidable.byContradiction fun h => hc (.inr h)⟩
        exact ⟨by rw [this.1], by rw [this.2]⟩
  constructor
  · intro h
    refine ⟨fun o ho => ?_, ?_⟩
    · obtain ⟨i, hi, rfl⟩ := List.getElem_of_mem ho
      rw [List.pairwise_iff_getElem]
      intro k m hk hm hkm
      have := (ap i k i m).1 (h i k i m hi (by rw [ob_nat hi]; simpa using hk) hi (by rw [ob_nat hi]; simpa using hm)) (.inr (by omega))
      rwa [nm_nat hi hk, nm_nat hi hm] at this
    · rw [List.pairwise_iff_getElem]
      intro i j hi hj hij x hx y hy
      obtain ⟨k, hk, rfl⟩ := List.getElem_of_mem hx
      obtain ⟨m, hm, rfl⟩ := List.getElem_of_mem hy
      have := (ap i k j m).1 (h i k j m hi (by rw [ob_nat hi]; simpa using hk) hj (by rw [ob_nat hj]; simpa using hm)) (.inl (by omega))
      rwa [nm_nat hi hk, nm_nat hj hm] at this
  · rintro ⟨h2, h3⟩ i k j m hi hk hj hm
    rw [ob_nat hi] at hk
    rw [ob_nat hj] at hm
    have hk' : k < (L[i].2.1.map (·.1)).length := by simpa using hk
    have hm' : m < (L[j].2.1.map (·.1)).length := by simpa using hm
    rw [ap, nm_nat hi hk', nm_nat hj hm']
    intro hne
    rw [List.pairwise_iff_getElem] at h3
    rcases Nat.lt_trichotomy i j with hij | rfl | hij
    · exact h3 i j hi hj hij _ (List.getElem_mem hk') _ (List.getElem_mem hm')
    · have h4 := h2 L[i] (List.getElem_mem hi)
      rw [List.pairwise_iff_getElem] at h4
      rcases Nat.lt_trichotomy k m with hkm | rfl | hkm
      · exact h4 k m hk' hm' hkm
      · rcases hne with hne | hne <;> exact absurd rfl hne
      · exact fun he => h4 m k hm' hk' hkm he.symm
    · exact fun he => h3 j i hj hi hij _ (List.getElem_mem hm') _ (List.getElem_mem hk') he.symm

theorem cond_nor3 {α : Type} (a b c : Bool) (x y : α) : (bif a then y else bif b then y else bif c then y else x) = bif !(a || b || c) then x else y := by cases a <;> cases b <;> cases c <;> rfl

theorem check_l4 {L : List Ob} (hL : ∀ o ∈ L, big o = false) {t : Int} (h0 : 0 ≤ t) (h1 : t < L.length) (hl : L.length ≤ 5) (hn : 300 ≤ nf) (g : Int → Option (Int × Unit)) :
    ref_ObjectsCheck_l4 nf L t g nf (ob L t) 0 = bif !badO (ob L t) then g (t + 1) else some (4, ()) := by
  obtain ⟨l1, l2, l3⟩ := big_len (hL (ob L t) (getD_mem h0 h1))
  have k2 := loop_chk (n := ((ob L t).2.2.1.length : Int)) (F := fun fu k => ref_ObjectsCheck_l6 nf L t (ob L t) g fu (ob L t) k) (yes := g (t + 1)) (no := some (4, ())) (fun k => !badW (ob L t) (pt (ob L t).2.2.1 k)) (fun fu k k0 kt => by
    simp only [ref_ObjectsCheck_l6, ref_ObjectsCheck_b6, kt, decide_true, cond_true, inb_ok k0 kt, wrap_step k0 kt (by simp [maxLen]; omega), wr (x := ((ob L t).1.length : Int) - 2) (by omega)]
    exact cond_nor _ _ _ _) (fun fu => by
    simp only [ref_ObjectsCheck_l6, ref_ObjectsCheck_b6, Int.lt_irrefl, decide_false, cond_false, wrap_step h0 h1 (by simp [maxLen]; omega)]) nf 0 (Int.le_refl _) (by omega) (by omega)
  have k0 := loop_chk (n := ((ob L t).2.1.length : Int)) (F := fun fu k => ref_ObjectsCheck_l4 nf L t g fu (ob L t) k) (yes := ref_ObjectsCheck_l6 nf L t (ob L t) g nf (ob L t) 0) (no := some (4, ())) (fun k => !badH (ob L t) (pt (ob L t).2.1 k)) (fun fu k k0 kt => by
    simp only [ref_ObjectsCheck_l4, ref_ObjectsCheck_b4]
    rw [show L.getD t.toNat ([], [], [], ()) = ob L t from rfl]
    simp only [kt, decide_true, cond_true, inb_ok k0 kt, wrap_step k0 kt (by simp [maxLen]; omega)]
    exact cond_nor _ _ _ _) (fun fu => by
    simp only [ref_ObjectsCheck_l4, ref_ObjectsCheck_b4]
    rw [show L.getD t.toNat ([], [], [], ()) = ob L t from rfl]
    simp only [Int.lt_irrefl, decide_false, cond_false]) nf 0 (Int.le_refl _) (by omega) (by omega)
  rw [k0, k2]
  have a0 := chk_all (fun h => !badH (ob L t) h) (ob L t).2.1 (0, 0, ())
  have a2 := chk_all (fun h => !badW (ob L t) h) (ob L t).2.2.1 (0, 0, ())
  rw [not_any] at a0 a2
  change chk (fun k => !badH (ob L t) (pt (ob L t).2.1 k)) _ _ = _ at a0
  change chk (fun k => !badW (ob L t) (pt (ob L t).2.2.1 k)) _ _ = _ at a2
  rw [a0, a2, badO]
  cases (ob L t).2.1.any (badH (ob L t)) <;> cases (ob L t).2.2.1.any (badW (ob L t)) <;> rfl

theorem check_l14 {L : List Ob} {i k j : Int} (hL : (ob L j).2.1.length ≤ 12) (hj : 0 ≤ j ∧ j < L.length) (hl : L.length ≤ 5) (hn : 300 ≤ nf) (g12 : Pt → Int → Option (Int × Unit)) (g10 g8 : Int → Option (Int × Unit)) :
    ref_ObjectsCheck_l14 nf L i k j g12 g10 g8 nf (pt (ob L i).2.1 k) 0 = bif chk (fun m => apart L i k j m) (((ob L j).2.1.length : Int) - 0).toNat 0 then g12 (pt (ob L i).2.1 k) (j + 1) else some (3, ()) := by
  exact loop_chk (n := ((ob L j).2.1.length : Int)) (F := fun fu m => ref_ObjectsCheck_l14 nf L i k j g12 g10 g8 fu (pt (ob L i).2.1 k) m) (yes := g12 (pt (ob L i).2.1 k) (j + 1)) (no := some (3, ())) (fun m => apart L i k j m) (fun fu m m0 m1 => by
    simp only [ref_ObjectsCheck_l14, ref_ObjectsCheck_b14]
    rw [show L.getD j.toNat ([], [], [], ()) = ob L j from rfl]
    simp only [m1, decide_true, cond_true, inb_ok m0 m1, wrap_step m0 m1 (by simp [maxLen]; omega)]
    rw [show (ob L j).2.1.getD m.toNat (0, 0, ()) = pt (ob L j).2.1 m from rfl]
    unfold apart nm
    cases i != j <;> cases k != m <;> cases (pt (ob L i).2.1 k).1 == (pt (ob L j).2.1 m).1 <;> rfl) (fun fu => by
    simp only [ref_ObjectsCheck_l14, ref_ObjectsCheck_b14]
    rw [show L.getD j.toNat ([], [], [], ()) = ob L j from rfl]
    simp only [Int.lt_irrefl, decide_false, cond_false, wrap_step hj.1 hj.2 (by simp [maxLen]; omega)]) nf 0 (Int.le_refl _) (by omega) (by omega)

theorem check_l12 {L : List Ob} {i k : Int} (hL : ∀ o ∈ L, big o = false) (hi : 0 ≤ i ∧ i < L.length) (hk : 0 ≤ k ∧ k < (ob L i).2.1.length) (hl : L.length ≤ 5) (hn : 300 ≤ nf) (g10 g8 : Int → Option (Int × Unit)) :
    ref_ObjectsCheck_l12 nf L i k g10 g8 nf (pt (ob L i).2.1 k) 0 = bif chk (fun j => chk (fun m => apart L i k j m) (((ob L j).2.1.length : Int) - 0).toNat 0) ((L.length : Int) - 0).toNat 0 then g10 (k + 1) else some (3, ()) := by
  have hb := big_len (hL (ob L i) (getD_mem hi.1 hi.2))
  exact loop_chk (n := (L.length : Int)) (F := fun fu j => ref_ObjectsCheck_l12 nf L i k g10 g8 fu (pt (ob L i).2.1 k) j) (yes := g10 (k + 1)) (no := some (3, ())) (fun j => chk (fun m => apart L i k j m) (((ob L j).2.1.length : Int) - 0).toNat 0) (fun fu j j0 j1 => by
    simp only [ref_ObjectsCheck_l12, ref_ObjectsCheck_b12, j1, decide_true, cond_true, inb_ok j0 j1]
    exact check_l14 (big_len (hL (ob L j) (getD_mem j0 j1))).2.1 ⟨j0, j1⟩ hl hn _ _ _) (fun fu => by
    simp only [ref_ObjectsCheck_l12, ref_ObjectsCheck_b12, Int.lt_irrefl, decide_false, cond_false, wrap_step hk.1 hk.2 (by simp [maxLen]; omega)]) nf 0 (Int.le_refl _) (by omega) (by omega)

theorem check_l8 {L : List Ob} (hL : ∀ o ∈ L, big o = false) (hl : L.length ≤ 5) (hn : 300 ≤ nf) : ref_ObjectsCheck_l8 nf L nf 0 = bif allApart L then some (0, ()) else some (3, ()) := by
  exact loop_chk (n := (L.length : Int)) (F := fun fu i => ref_ObjectsCheck_l8 nf L fu i) (yes := some (0, ())) (no := some (3, ())) (fun i => chk (fun k => chk (fun j => chk (fun m => apart L i k j m) (((ob L j).2.1.length : Int) - 0).toNat 0) ((L.length : Int) - 0).toNat 0) (((ob L i).2.1.length : Int) - 0).toNat 0) (fun fu i i0 i1 => by
    have hb := big_len (hL (ob L i) (getD_mem i0 i1))
    simp only [ref_ObjectsCheck_l8, ref_ObjectsCheck_b8, i1, decide_true, cond_true, inb_ok i0 i1]
    exact loop_chk (n := ((ob L i).2.1.length : Int)) (F := fun fu2 k => ref_ObjectsCheck_l10 nf L i (fun i => ref_ObjectsCheck_l8 nf L fu i) fu2 k) (yes := ref_ObjectsCheck_l8 nf L fu (i + 1)) (no := some (3, ())) (fun k => chk (fun j => chk (fun m => apart L i k j m) (((ob L j).2.1.length : Int) - 0).toNat 0) ((L.length : Int) - 0).toNat 0) (fun fu2 k k0 k1 => by
      simp only [ref_ObjectsCheck_l10, ref_ObjectsCheck_b10]
      rw [show L.getD i.toNat ([], [], [], ()) = ob L i from rfl]
      simp only [k1, decide_true, cond_true, inb_ok k0 k1]
      exact check_l12 hL ⟨i0, i1⟩ ⟨k0, k1⟩ hl hn _ _) (fun fu2 => by
      simp only [ref_ObjectsCheck_l10, ref_ObjectsCheck_b10]
      rw [show L.getD i.toNat ([], [], [], ()) = ob L i from rfl]
      simp only [Int.lt_irrefl, decide_false, cond_false, wrap_step i0 i1 (by simp [maxLen]; omega)]) nf 0 (Int.le_refl _) (by omega) (by omega)) (fun fu => by
    simp only [ref_ObjectsCheck_l8, ref_ObjectsCheck_b8, Int.lt_irrefl, decide_false, cond_false]) nf 0 (Int.le_refl _) (by omega) (by omega)

theorem check_F (L : List Ob) (hn : 300 ≤ nf) : ref_ObjectsCheck_f nf L = some (objCode L, ()) := by
  unfold ref_ObjectsCheck_f ref_ObjectsCheck_p objCode
  by_cases h5 : L.length > 5
  · rw [if_pos h5]
    simp only [show ((L.length : Int) > 5) by omega, decide_true, cond_true]
  rw [if_neg h5]
  simp only [show ¬ ((L.length : Int) > 5) by omega, decide_false, cond_false]
  have k0 := loop_chk (n := (L.length : Int)) (F := fun fu t => ref_ObjectsCheck_l0 nf L fu t) (yes := ref_ObjectsCheck_l2 nf L nf 0) (no := some (1, ())) (fun t => !big (ob L t)) (fun fu t h0 ht => by
    simp only [ref_ObjectsCheck_l0, ref_ObjectsCheck_b0, ht, decide_true, cond_true, inb_ok h0 ht, wrap_step h0 ht (by simp [maxLen]; omega)]
    exact cond_nor3 _ _ _ _ _) (fun fu => by
    simp only [ref_ObjectsCheck_l0, ref_ObjectsCheck_b0, Int.lt_irrefl, decide_false, cond_false]) nf 0 (Int.le_refl _) (by omega) (by omega)
  have a0 := chk_all (fun o => !big o) L ([], [], [], ())
  rw [not_any] at a0
  change chk (fun t => !big (ob L t)) _ _ = _ at a0
  rw [k0, a0]
  by_cases hb : L.any big = true
  · rw [if_pos hb, hb]; rfl
  rw [if_neg hb]
  have hb' : L.any big = false := by simpa using hb
  have hL : ∀ o ∈ L, big o = false := fun o ho => by have := List.any_eq_false.1 hb' o ho; simpa using this
  rw [hb', Bool.not_false, cond_true]
  have k2 := loop_chk (n := (L.length : Int)) (F := fun fu t => ref_ObjectsCheck_l2 nf L fu t) (yes := ref_ObjectsCheck_l8 nf L nf 0) (no := some (4, ())) (fun t => !badO (ob L t)) (fun fu t h0 ht => by
    simp only [ref_ObjectsCheck_l2, ref_ObjectsCheck_b2, ht, decide_true, cond_true, inb_ok h0 ht]
    exact check_l4 hL h0 ht (by omega) hn _) (fun fu => by
    simp only [ref_ObjectsCheck_l2, ref_ObjectsCheck_b2, Int.lt_irrefl, decide_false, cond_false]) nf 0 (Int.le_refl _) (by omega) (by omega)
  have a2 := chk_all (fun o => !badO o) L ([], [], [], ())
  rw [not_any] at a2
  change chk (fun t => !badO (ob L t)) _ _ = _ at a2
  rw [k2, a2]
  by_cases hp : L.any badO = true
  · rw [if_pos hp, hp]; rfl
  rw [if_neg hp]
  have hp' : L.any badO = false := by simpa using hp
  rw [hp', Bool.not_false, cond_true, check_l8 hL (by omega) hn]
  by_cases hd : (names L).Nodup
  · rw [if_pos hd, (allApart_iff L).2 hd]; rfl
  · rw [if_neg hd]
    cases ha : allApart L with
    | true => exact absurd ((allApart_iff L).1 ha) hd
    | false => rfl

/-- what objects without fault are -/
structure Good (L : List Ob) : Prop where
  len : L.length ≤ 5
  small : ∀ o ∈ L, big o = false
  place : ∀ o ∈ L, badO o = false
  once : (names L).Nodup
theorem good_of {L : List Ob} (h : objCode L = 0) : Good L := by
  unfold objCode at h
  split at h
  · cases h
  · rename_i h5
    split at h
    · cases h
    · rename_i hb
      split at h
      · cases h
      · rename_i hp
        split at h
        · rename_i hd
          exact ⟨by omega, fun o ho => by have := List.any_eq_false.1 (by simpa using hb) o ho; simpa using this, fun o ho => by have := List.any_eq_false.1 (by simpa using hp) o ho; simpa using this, hd⟩
        · cases h

def adr (L : List Ob) (n : Int) : Int := match loc L 0 0 n with | some y => y.2 | none => -1
theorem loc_range : ∀ (L : List Ob) (i a n : Int) (y : Int × Int), (∀ o ∈ L, big o = false) → (∀ o ∈ L, badO o = false) → loc L i a n = some y → (i ≤ y.1 ∧ y.1 < i + L.length) ∧ a ≤ y.2 ∧ y.2 ≤ a + 200 * L.length
  | [], _, _, _, _, _, _, h => by cases h
  | o :: r, i, a, n, y, hb, hp, h => by
    have hl := big_len (hb o (by simp))
    simp only [loc] at h
    simp only [List.length_cons]
    cases hq : locH o.2.1 n with
    | some f =>
      rw [hq] at h
      cases h
      unfold locH at hq
      obtain ⟨z, hz, rfl⟩ := Option.map_eq_some_iff.1 hq
      have := badO_H (hp o (by simp)) z (List.mem_of_find?_eq_some hz)
      simp only
      omega
    | none =>
      rw [hq] at h
      have := loc_range r (i + 1) (a + (o.1.length : Int)) n y (fun z hz => hb z (by simp [hz])) (fun z hz => hp z (by simp [hz])) h
      omega

def stepA (at' n : Int) (h : Pt) (_ : Int) (s : Unit) (g : Unit → Option (Int × Unit)) : Option (Int × Unit) := bif h.1 == n then some (IntKind.i64.wrap (at' + h.2.1), ()) else g s
def stepB (n : Int) (o : Ob) (_ : Int) (s : Int) (g : Int → Option (Int × Unit)) : Option (Int × Unit) := goL (stepA s n) (fun _ => g (IntKind.i64.wrap (s + (o.1.length : Int)))) o.2.1 0 ()

theorem goA {at' n : Int} {fin : Unit → Option (Int × Unit)} : ∀ (hs : List Pt) (k : Int), goL (stepA at' n) fin hs k () = match locH hs n with | some f => some (IntKind.i64.wrap (at' + f), ()) | none => fin ()
  | [], _ => rfl
  | h :: r, k => by
    simp only [goL, stepA, locH, List.find?_cons]
    cases hb : h.1 == n with
    | true => rfl
    | false =>
      simp only [cond_false]
      exact goA r (k + 1)
theorem goB {n : Int} : ∀ (L : List Ob) (i a : Int), (∀ o ∈ L, big o = false) → (∀ o ∈ L, badO o = false) → 0 ≤ a → a + 200 * L.length ≤ 1000 → goL (stepB n) (fun _ => some (-1, ())) L i a = some ((match loc L i a n with | some y => y.2 | none => -1), ())
  | [], _, _, _, _, _, _ => rfl
  | o :: r, i, a, hb, hp, h0, h1 => by
    have hl := big_len (hb o (by simp))
    simp only [List.length_cons] at h1
    simp only [goL, stepB, goA, loc]
    cases hq : locH o.2.1 n with
    | some f =>
      unfold locH at hq
      obtain ⟨z, hz, rfl⟩ := Option.map_eq_some_iff.1 hq
      have := badO_H (hp o (by simp)) z (List.mem_of_find?_eq_some hz)
      simp only
      rw [wr (by omega)]
    | none =>
      simp only
      rw [wr (by omega)]
      exact goB r (i + 1) (a + (o.1.length : Int)) (fun z hz => hb z (by simp [hz])) (fun z hz => hp z (by simp [hz])) (by omega) (by omega)

theorem address_F {L : List Ob} (hG : Good L) (n : Int) (hn : 300 ≤ nf) : ref_Address_f nf L n = some (adr L n, ()) := by
  unfold ref_Address_f ref_Address_p adr
  have h5 := hG.len
  rw [← goB L 0 0 hG.small hG.place (Int.le_refl _) (by omega)]
  exact loop_all (l := L) (d := ([], [], [], ())) (F := fun fu i (s : Int) => ref_Address_l0 nf L n fu s i) (fun fu i s i0 i1 => by
    simp only [ref_Address_l0, ref_Address_b0, i1, decide_true, cond_true, inb_ok i0 i1]
    have hb := big_len (hG.small (ob L i) (getD_mem i0 i1))
    exact loop_all (l := (ob L i).2.1) (d := (0, 0, ())) (F := fun fu2 k (_ : Unit) => ref_Address_l2 nf L n s i (fun a t => ref_Address_l0 nf L n fu a t) fu2 (ob L i) k) (step := stepA s n) (fin := fun _ => ref_Address_l0 nf L n fu (IntKind.i64.wrap (s + ((ob L i).1.length : Int))) (i + 1)) (fun fu2 k _ k0 k1 => by
      simp only [ref_Address_l2, ref_Address_b2]
      rw [show L.getD i.toNat ([], [], [], ()) = ob L i from rfl]
      simp only [k1, decide_true, cond_true, inb_ok k0 k1, wrap_step k0 k1 (by simp [maxLen]; omega)]
      rfl) (fun fu2 k _ k1 => by
      subst k1
      simp only [ref_Address_l2, ref_Address_b2]
      rw [show L.getD i.toNat ([], [], [], ()) = ob L i from rfl]
      simp only [Int.lt_irrefl, decide_false, cond_false, wrap_step i0 i1 (by simp [maxLen]; omega)]) nf () (by omega)) (fun fu i s i1 => by
    subst i1
    simp only [ref_Address_l0, ref_Address_b0, Int.lt_irrefl, decide_false, cond_false]) nf 0 (by omega)

theorem adr_neg {L : List Ob} (hG : Good L) (n : Int) : adr L n < 0 ↔ loc L 0 0 n = none := by
  unfold adr
  cases h : loc L 0 0 n with
  | none => simp
  | some y =>
    have := loc_range L 0 0 n y hG.small hG.place h
    simp only [reduceCtorEq, iff_false]
    omega
end Go.Proofs.Ytmndifhjmbiodaa
