/- The document's answer, place by place. -/
import Derived.Test.YtoglkjmdloppcaaSRef
namespace Go.Proofs.Ytoglkjmdloppcaa
open Go Go.Ab S

variable {nf : Nat} {vars : Int} {l : List Sg} {next : List (List Int)} {r : List Int}

open Classical in
theorem loop_ex {ρ : Type} {n : Int} {F : Nat → Int → Option ρ} {C : Int → Prop} {yes no : Option ρ} (h : ∀ fu t, 0 ≤ t → t < n → ∃ b : Bool, (b = true ↔ C t) ∧ F (fu + 1) t = bif b then F fu (t + 1) else no) (h' : ∀ fu, F (fu + 1) n = yes) {fu : Nat} (h0 : 0 ≤ n) (hf : n < fu) :
  ∃ b : Bool, (b = true ↔ ∀ k, 0 ≤ k → k < n → C k) ∧ F fu 0 = bif b then yes else no := by
 have key := loop_chk (n := n) (F := F) (yes := yes) (no := no) (fun t => decide (C t)) (fun fu t t0 t1 => by
  obtain ⟨b, b1, b2⟩ := h fu t t0 t1
  rw [b2]
  congr 1
  rw [Bool.eq_iff_iff, b1, decide_eq_true_eq]) h' fu 0 (Int.le_refl _) h0 (by omega)
 refine ⟨_, ?_, key⟩
 rw [chk_iff]
 constructor
 ·intro hx k k0 k1
  have := hx k k0 (by omega)
  rwa [decide_eq_true_eq] at this
 ·intro hx k k0 k1
  rw [decide_eq_true_eq]
  exact hx k k0 (by omega)

/-- what is so of the program -/
structure REnv (nf : Nat) (next : List (List Int)) (vars : Int) (l : List Sg) : Prop where
 way : WayOK next
 len : next.length = l.length
 vs : 1 ≤ vars ∧ vars ≤ 6
 few : l.length ≤ 8
 fuel : 4000 ≤ nf
 sz : ∀ i : Nat, i < l.length → (l.getD i S0).1.length ≤ 64 ∧ (l.getD i S0).2.1.length ≤ 20

theorem rset_F (hE : REnv nf next vars l) {n i : Int} {k : Nat} (hn : 0 ≤ n) (h1 : i < (l.length : Int)) (hk : 0 ≤ i → k = (l.getD i.toNat S0).2.1.length ∨ k < (l.getD i.toNat S0).2.1.length) :
  ∃ b, ref_OnceSet_1_f nf n i k vars l next = some (b, ()) ∧ (b = true ↔ sS nf next vars (allPuts l 0) n i k) := by
 have h8 := hE.few
 have hfu := hE.fuel
 simp only [ref_OnceSet_1_f, ref_OnceSet_1_p]
 by_cases hv : n < vars
 ·exact ⟨true, by rw [decide_eq_true hv, cond_true], fun _ => .inl ⟨hn, hv⟩, fun _ => rfl⟩
 rw [decide_eq_false hv, cond_false]
 by_cases hi : i < 0
 ·refine ⟨false, by rw [decide_eq_true hi, cond_true], fun h => (by cases h), ?_⟩
  rintro (h | ⟨a, c, h, h2 | h2⟩)
  ·exact absurd h.2 hv
  ·have := (all_mem.1 h).1.1; omega
  ·omega
 rw [decide_eq_false hi, cond_false]
 have hi0 : 0 ≤ i := by omega
 obtain ⟨z1, z2⟩ := hE.sz i.toNat (by omega)
 have hkl : k ≤ (l.getD i.toNat S0).2.1.length := by have := hk hi0; omega
 obtain ⟨L, e1, e2⟩ := setsOf_F (nf := nf) (b := l.getD i.toNat S0) (n := n) (k := k) hfu (by omega) (by omega) hkl
 have hG : l.getD i.toNat ([], [], 0, 0, 0, [], ()) = l.getD i.toNat S0 := rfl
 rw [inb_ok hi0 h1, hG, e1, cond_true, Option.bind_some]
 have hc := cnt_pos (l := l) (i := i.toNat) (by omega) (n := n) hkl
 rw [show ((i.toNat : Nat) : Int) = i by omega] at hc
 by_cases hp : ((L.length : Nat) : Int) > 0
 ·refine ⟨true, by rw [decide_eq_true hp, cond_true], fun _ => ?_, fun _ => rfl⟩
  obtain ⟨c, c1, c2⟩ := hc.1 (by omega)
  exact .inr ⟨i, c, c1, .inl ⟨rfl, c2⟩⟩
 ·rw [decide_eq_false hp, cond_false]
  have key := loop_first (n := (l.length : Int)) (F := fun fu t => ref_OnceSet_1_l0 nf n i l next fu t) (hit := fun _ => some (true, ())) (miss := some (false, ())) (fun j => !decide (j = i) && (domB nf next j i && decide (0 < cntOf (l.getD j.toNat S0) n (l.getD j.toNat S0).2.1.length))) (fun fu t t0 t1 => by
   obtain ⟨y1, y2⟩ := hE.sz t.toNat (by omega)
   obtain ⟨L2, f1, f2⟩ := setsOf_F (nf := nf) (b := l.getD t.toNat S0) (n := n) (k := (l.getD t.toNat S0).2.1.length) hfu (by omega) (by omega) (Nat.le_refl _)
   have hG2 : l.getD t.toNat ([], [], 0, 0, 0, [], ()) = l.getD t.toNat S0 := rfl
   rw [ref_OnceSet_1_l0, ref_OnceSet_1_b0, inb_ok t0 t1, hG2, ref_Rules_F hE.way (by omega), wrap_step (n := 2000) t0 (by omega) (by decide)]
   simp only [t1, decide_true, cond_true]
   by_cases hti : t = i
   ·rw [hti, bne_self_eq_false, decide_eq_true rfl]; rfl
   ·rw [bne_t hti, decide_eq_false hti, cond_true, Option.bind_some]
    cases domB nf next t i with
    | false => rfl
    | true =>
     rw [cond_true, f1, Option.bind_some]
     by_cases hc2 : 0 < cntOf (l.getD t.toNat S0) n (l.getD t.toNat S0).2.1.length
     ·rw [decide_eq_true hc2, decide_eq_true (by omega : ((L2.length : Nat) : Int) > 0)]; rfl
     ·rw [decide_eq_false hc2, decide_eq_false (by omega : ¬ ((L2.length : Nat) : Int) > 0)]; rfl) (fun fu => by
   rw [ref_OnceSet_1_l0, ref_OnceSet_1_b0]
   simp only [Int.lt_irrefl, decide_false, cond_false]) nf 0 (by omega) (by omega) (by omega)
  rw [show ((l.length : Int) - 0).toNat = l.length by omega] at key
  have hno : ¬ ∃ c, (n, i, c) ∈ allPuts l 0 ∧ c < (k : Int) := fun h => by have := hc.2 h; omega
  cases hq : findFrom (fun j => !decide (j = i) && (domB nf next j i && decide (0 < cntOf (l.getD j.toNat S0) n (l.getD j.toNat S0).2.1.length))) l.length 0 with
  | none =>
   rw [hq] at key
   refine ⟨false, key, fun h => (by cases h), ?_⟩
   rintro (h | ⟨a, c, h, h2 | h2⟩)
   ·exact absurd h.2 hv
   ·exact absurd ⟨c, h2.1 ▸ h, h2.2⟩ hno
   ·obtain ⟨⟨a0, a1⟩, h4⟩ := all_mem.1 h
    have := findFrom_none hq a a0 (by omega)
    have hpos : 0 < cntOf (l.getD a.toNat S0) n (l.getD a.toNat S0).2.1.length := (cnt_pos (by omega) (Nat.le_refl _)).2 ⟨c, by rw [show ((a.toNat : Nat) : Int) = a by omega]; exact h, by
     rcases h4 with h4 | ⟨m, m1, m2, _⟩ <;> omega⟩
    simp only [h2.1, decide_false, Bool.not_false, h2.2.2, hpos, decide_true, Bool.and_self] at this
    cases this
  | some a =>
   obtain ⟨a0, a1, a2⟩ := findFrom_some hq
   rw [hq] at key
   refine ⟨true, key, fun _ => ?_, fun _ => rfl⟩
   simp only [Bool.and_eq_true, Bool.not_eq_true', decide_eq_false_iff_not, decide_eq_true_eq] at a2
   obtain ⟨c, c1, _⟩ := (cnt_pos (by omega) (Nat.le_refl _)).1 a2.2.2
   rw [show ((a.toNat : Nat) : Int) = a by omega] at c1
   exact .inr ⟨a, c, c1, .inr ⟨a2.1, hi0, a2.2.1⟩⟩
/-- behind all steps it does not matter how many more there might be -/
theorem sS_end (hE : REnv nf next vars l) {n i : Int} : sS nf next vars (allPuts l 0) n i 20 ↔ sS nf next vars (allPuts l 0) n i ((l.getD i.toNat S0).2.1.length : Nat) := by
 have hc : ∀ a c, (n, a, c) ∈ allPuts l 0 → c < 20 ∧ c < ((l.getD a.toNat S0).2.1.length : Int) := fun a c h => by
  obtain ⟨⟨a0, a1⟩, h4⟩ := all_mem.1 h
  have := (hE.sz a.toNat (by omega)).2
  rcases h4 with h4 | ⟨m, m1, m2, _⟩ <;> omega
 unfold sS
 refine or_congr_right ⟨?_, ?_⟩
 ·rintro ⟨a, c, h, h2 | h2⟩
  ·exact ⟨a, c, h, .inl ⟨h2.1, by have := (hc a c h).2; rw [h2.1] at this; exact this⟩⟩
  ·exact ⟨a, c, h, .inr h2⟩
 ·rintro ⟨a, c, h, h2 | h2⟩
  ·exact ⟨a, c, h, .inl ⟨h2.1, (hc a c h).1⟩⟩
  ·exact ⟨a, c, h, .inr h2⟩

/-! the loops -/
abbrev H4 := Int → List Sg → List (List Int) → List (List Int) → List Int → Int → Option (Bool × Unit)
abbrev H6 := Int → List Sg → List (List Int) → List (List Int) → Sg → List Int → Int → Option (Bool × Unit)
abbrev no : Option (Bool × Unit) := some (false, ())
variable {R : List Int} {fr : List (List Int)} {t61 : List Int} {t63 : Int} {r5 : List Int × Unit}

theorem rset20 (hE : REnv nf next vars l) {n i : Int} (hn : 0 ≤ n) (h0 : 0 ≤ i) (h1 : i < (l.length : Int)) : ∃ b, ref_OnceSet_1_f nf n i ((l.getD i.toNat S0).2.1.length : Nat) vars l next = some (b, ()) ∧ (b = true ↔ sS nf next vars (allPuts l 0) n i 20) := by
 obtain ⟨b, e1, e2⟩ := rset_F hE hn h1 (k := (l.getD i.toNat S0).2.1.length) (fun _ => .inl rfl)
 exact ⟨b, e1, by rw [e2, sS_end hE]⟩

theorem r_l12 (hE : REnv nf next vars l) {i : Int} (hi : t61.getD t63.toNat 0 = i) (h0 : 0 ≤ i) (h1 : i < (l.length : Int)) (t0' : 0 ≤ t63) (t1' : t63 ≤ 1000) {b : Sg} (hb : l.getD i.toNat S0 = b) (hL : b.2.2.2.2.2.1.length ≤ 6) (hLn : ∀ x ∈ b.2.2.2.2.2.1, 0 ≤ x) {g4 : H4} :
  ∃ o, (o = true ↔ ∀ x ∈ b.2.2.2.2.2.1, sS nf next vars (allPuts l 0) x i 20) ∧ ref_OnceSet_l12 nf l t61 t63 r5 b g4 nf vars l next fr b t61 0 = bif o then g4 vars l next fr t61 (t63 + 1) else no := by
 have hfu := hE.fuel
 obtain ⟨o, a, e⟩ := loop_ex (n := (b.2.2.2.2.2.1.length : Int)) (F := fun fu t => ref_OnceSet_l12 nf l t61 t63 r5 b g4 fu vars l next fr b t61 t) (C := fun k => sS nf next vars (allPuts l 0) (b.2.2.2.2.2.1.getD k.toNat 0) i 20) (yes := g4 vars l next fr t61 (t63 + 1)) (no := no) (fun fu t t0 t1 => by
  obtain ⟨o, e1, e2⟩ := rset20 hE (hLn _ (getD_mem (d := 0) t0 t1)) h0 h1
  rw [hb] at e1
  refine ⟨o, e2, ?_⟩
  rw [ref_OnceSet_l12, ref_OnceSet_b12, inb_ok t0 t1, hi, e1, wrap_step (n := 2000) t0 (by omega) (by decide)]
  simp only [t1, decide_true, cond_true, Option.bind_some]
  cases o <;> rfl) (fun fu => by
  rw [ref_OnceSet_l12, ref_OnceSet_b12, wrap_step (n := 2000) t0' (by omega) (by decide)]
  simp only [Int.lt_irrefl, decide_false, cond_false]) (fu := nf) (by omega) (by omega)
 exact ⟨o, by rw [a, all_at (C := fun x => sS nf next vars (allPuts l 0) x i 20)], e⟩

theorem r_l10 (hE : REnv nf next vars l) {i : Int} (hi : t61.getD t63.toNat 0 = i) (h0 : 0 ≤ i) (h1 : i < (l.length : Int)) (t0' : 0 ≤ t63) (t1' : t63 ≤ 1000) {b : Sg} (hb : l.getD i.toNat S0 = b) (hL : b.2.2.2.2.2.1.length ≤ 6) (hLn : ∀ x ∈ b.2.2.2.2.2.1, 0 ≤ x) (hst : ∀ s ∈ b.2.1, stpCode s = 0) {g4 : H4} :
  ∃ o, (o = true ↔ (∀ k : Int, 0 ≤ k → k < (b.2.1.length : Int) → ∀ x ∈ usesOf (b.2.1.getD k.toNat D5), sS nf next vars (allPuts l 0) x i k) ∧ ∀ x ∈ b.2.2.2.2.2.1 ++ [b.2.2.1], x < 0 ∨ sS nf next vars (allPuts l 0) x i 20) ∧ ref_OnceSet_l10 nf l t61 t63 r5 b g4 nf vars l next fr b t61 0 = bif o then g4 vars l next fr t61 (t63 + 1) else no := by
 have hfu := hE.fuel
 have hsz := (hE.sz i.toNat (by omega)).2
 rw [hb] at hsz
 obtain ⟨o1, a1, e1⟩ := r_l12 (nf := nf) (r5 := r5) (fr := fr) hE hi h0 h1 t0' t1' hb hL hLn (g4 := g4)
 -- the test and the last ones
 have hend : ∃ o2, (o2 = true ↔ ∀ x ∈ b.2.2.2.2.2.1 ++ [b.2.2.1], x < 0 ∨ sS nf next vars (allPuts l 0) x i 20) ∧ (bif decide (b.2.2.1 ≥ 0) then (Option.bind (ref_OnceSet_1_f nf b.2.2.1 i ((b.2.1.length : Nat) : Int) vars l next) fun r17 => bif !r17.fst then some (false, ()) else ref_OnceSet_l12 nf l t61 t63 r5 b g4 nf vars l next fr b t61 0) else ref_OnceSet_l12 nf l t61 t63 r5 b g4 nf vars l next fr b t61 0) = bif o2 then g4 vars l next fr t61 (t63 + 1) else no := by
  have hall : (∀ x ∈ b.2.2.2.2.2.1 ++ [b.2.2.1], x < 0 ∨ sS nf next vars (allPuts l 0) x i 20) ↔ (b.2.2.1 < 0 ∨ sS nf next vars (allPuts l 0) b.2.2.1 i 20) ∧ o1 = true := by
   rw [a1]
   constructor
   ·intro h
    exact ⟨h _ (by simp), fun x hx => (h x (by simp [hx])).resolve_left (by have := hLn x hx; omega)⟩
   ·rintro ⟨h2, h3⟩ x hx
    rcases List.mem_append.1 hx with hx | hx
    ·exact .inr (h3 x hx)
    ·rw [List.mem_singleton] at hx; rw [hx]; exact h2
  by_cases ht : b.2.2.1 ≥ 0
  ·obtain ⟨o, f1, f2⟩ := rset20 hE ht h0 h1
   rw [hb] at f1
   refine ⟨o && o1, ?_, ?_⟩
   ·rw [hall, Bool.and_eq_true, f2]
    exact and_congr_left fun _ => ⟨.inr, fun h => h.resolve_left (by omega)⟩
   ·rw [decide_eq_true ht, cond_true, f1, Option.bind_some, e1]
    cases o <;> cases o1 <;> rfl
  ·refine ⟨o1, ?_, by rw [decide_eq_false ht, cond_false, e1]⟩
   rw [hall]
   exact ⟨fun h => ⟨.inl (by omega), h⟩, fun h => h.2⟩
 obtain ⟨o2, a2, e2⟩ := hend
 obtain ⟨o3, a3, e3⟩ := loop_ex (n := (b.2.1.length : Int)) (F := fun fu t => ref_OnceSet_l10 nf l t61 t63 r5 b g4 fu vars l next fr b t61 t) (C := fun k => ∀ x ∈ usesOf (b.2.1.getD k.toNat D5), sS nf next vars (allPuts l 0) x i k) (yes := bif o2 then g4 vars l next fr t61 (t63 + 1) else no) (no := no) (fun fu t t0 t1 => by
  have hD : b.2.1.getD t.toNat (0, 0, 0, 0, 0, ()) = b.2.1.getD t.toNat D5 := rfl
  have hsc := hst _ (getD_mem (d := D5) t0 t1)
  have hin : ∀ x ∈ usesOf (b.2.1.getD t.toNat D5), 0 ≤ x := fun x hx => by
   unfold stpCode at hsc
   split at hsc
   ·omega
   ·split at hsc
    ·omega
    ·split at hsc
     ·rename_i h3
      simp only [Bool.and_eq_true] at h3
      exact (within_mem h3.2 x hx).1
     ·omega
  have hset : ∀ x ∈ usesOf (b.2.1.getD t.toNat D5), ∃ o, ref_OnceSet_1_f nf x i t vars l next = some (o, ()) ∧ (o = true ↔ sS nf next vars (allPuts l 0) x i t) := fun x hx => by
   have := rset_F hE (hin x hx) h1 (k := t.toNat) (fun _ => .inr (by rw [hb]; omega))
   rwa [show ((t.toNat : Nat) : Int) = t by omega] at this
  rw [ref_OnceSet_l10, ref_OnceSet_b10, inb_ok t0 t1, hD, hi, wrap_step (n := 2000) t0 (by omega) (by decide)]
  simp only [t1, decide_true, cond_true]
  have hop : 1 ≤ (b.2.1.getD t.toNat D5).1 := by
   unfold stpCode at hsc
   split at hsc
   ·omega
   ·omega
  unfold usesOf at hset ⊢
  generalize b.2.1.getD t.toNat D5 = s at hop hset ⊢
  by_cases o1' : s.1 = 1
  ·refine ⟨true, by rw [if_pos o1']; simp, ?_⟩
   rw [beq_f (by omega : ¬ s.1 = 2), decide_eq_false (by omega : ¬ s.1 ≥ 3)]; rfl
  ·rw [if_neg o1'] at hset ⊢
   by_cases o2' : s.1 = 2
   ·rw [if_pos o2'] at hset ⊢
    obtain ⟨o, f1, f2⟩ := hset s.2.2.2.2.1 (by simp)
    refine ⟨o, by rw [f2]; simp, ?_⟩
    rw [o2', beq_self_eq_true, cond_true, f1, Option.bind_some, decide_eq_false (by omega : ¬ (2 : Int) ≥ 3)]
    cases o <;> rfl
   ·rw [if_neg o2'] at hset ⊢
    obtain ⟨oa, f1, f2⟩ := hset s.2.2.1 (by simp)
    obtain ⟨ob, f3, f4⟩ := hset s.2.2.2.1 (by simp)
    refine ⟨oa && ob, by rw [Bool.and_eq_true, f2, f4]; simp, ?_⟩
    rw [beq_f o2', cond_false, decide_eq_true (by omega : s.1 ≥ 3), cond_true, f1, Option.bind_some, f3]
    cases oa <;> cases ob <;> rfl) (fun fu => by
  rw [ref_OnceSet_l10, ref_OnceSet_b10, hi]
  simp only [Int.lt_irrefl, decide_false, cond_false]
  exact e2) (fu := nf) (by omega) (by omega)
 refine ⟨o3 && o2, by rw [Bool.and_eq_true, a3, a2], ?_⟩
 have e3' : ref_OnceSet_l10 nf l t61 t63 r5 b g4 nf vars l next fr b t61 0 = _ := e3
 rw [e3']
 cases o3 <;> cases o2 <;> rfl

/-- the document's loops over joins and what they take -/
theorem r_l8 (hE : REnv nf next vars l) (hR : R = reach nf next 0 (-1)) (hr : ∀ f : Int, 0 ≤ f → f < (l.length : Int) → (r.getD f.toNat 0 = 0 ↔ f ∉ R)) {i t74 : Int} (hi : t61.getD t63.toNat 0 = i) (h0 : 0 ≤ i) (t0' : 0 ≤ t74) (t1' : t74 ≤ 1000) (hfi : inb i fr.length = true) (hfr : ∀ x ∈ fr.getD i.toNat [], -1 ≤ x ∧ x < (l.length : Int)) {b2 : Sg} {j j' : Jn} (hj : List.getD (l.getD i.toNat S0).1 t74.toNat J0 = j) (hm : j.2.1.length = (fr.getD i.toNat []).length) (hm2 : j.2.1.length ≤ 100) (hjn : ∀ x ∈ j.2.1, 0 ≤ x) {g6 : H6} {g4 : H4} :
  ∃ o, (o = true ↔ CondJ nf next vars (allPuts l 0) r (fr.getD i.toNat []) j) ∧ ref_OnceSet_l8 nf l t61 t63 r5 l t74 g6 g4 nf vars l next fr b2 j' t61 0 = bif o then g6 vars l next fr b2 t61 (t74 + 1) else no := by
 have hfu := hE.fuel
 have h8 := hE.few
 have hJ : List.getD (l.getD i.toNat ([], [], 0, 0, 0, [], ())).1 t74.toNat (0, [], ()) = j := hj
 have hz := zero_good hE.way
 have hnod := reach_nodes hE.way (nf := nf) (wo := -1) hz
 have hRl : R.length ≤ 8 := by rw [hR]; have := hnod.len; rw [hE.len] at this; omega
 obtain ⟨o, a, e⟩ := loop_ex (n := (j.2.1.length : Int)) (F := fun fu t => ref_OnceSet_l8 nf l t61 t63 r5 l t74 g6 g4 fu vars l next fr b2 j' t61 t) (C := fun k => (0 ≤ (fr.getD i.toNat []).getD k.toNat 0 ∧ r.getD ((fr.getD i.toNat []).getD k.toNat 0).toNat 0 = 0) ∨ sS nf next vars (allPuts l 0) (j.2.1.getD k.toNat 0) ((fr.getD i.toNat []).getD k.toNat 0) 20) (yes := g6 vars l next fr b2 t61 (t74 + 1)) (no := no) (fun fu t t0 t1 => by
  obtain ⟨f0, f1⟩ := hfr _ (getD_mem (d := 0) t0 (by omega : t < ((fr.getD i.toNat []).length : Int)))
  have hxn := hjn _ (getD_mem (d := 0) t0 t1)
  rw [ref_OnceSet_l8, ref_OnceSet_b8, hi, hJ, inb_ok t0 t1, hfi, inb_ok t0 (by omega : t < ((fr.getD i.toNat []).length : Int)), reach_F hE.way (by omega) hz, wrap_step (n := 2000) t0 (by omega) (by decide), ← hR]
  simp only [t1, decide_true, cond_true, Option.bind_some]
  generalize (fr.getD i.toNat []).getD t.toNat 0 = f at f0 f1
  generalize j.2.1.getD t.toNat 0 = x at hxn
  have hmx : (8 : Nat) ≤ maxLen := by decide
  rw [whas_F R f (by omega) (by omega)]
  simp only [Option.bind_some]
  by_cases hf : f ≥ 0
  ·have hG : l.getD f.toNat ([], [], 0, 0, 0, [], ()) = l.getD f.toNat S0 := rfl
   obtain ⟨o, e1, e2⟩ := rset20 hE hxn hf f1
   have hrf := hr f hf f1
   rw [decide_eq_true hf, cond_true, cond_true, inb_ok hf f1, cond_true, hG, e1, Option.bind_some]
   by_cases hm : f ∈ R
   ·refine ⟨o, ?_, ?_⟩
    ·rw [e2]
     exact ⟨.inr, fun h => h.resolve_left fun hh => (hrf.1 hh.2) hm⟩
    ·rw [decide_eq_true hm]; cases o <;> rfl
   ·exact ⟨true, ⟨fun _ => .inl ⟨hf, hrf.2 hm⟩, fun _ => rfl⟩, by rw [decide_eq_false hm]; rfl⟩
  ·obtain ⟨o, e1, e2⟩ := rset_F hE hxn f1 (k := 0) (fun h => absurd h hf)
   rw [decide_eq_false hf, cond_false, cond_false]
   have e1' : ref_OnceSet_1_f nf x f 0 vars l next = some (o, ()) := e1
   refine ⟨o, ?_, by rw [e1', Option.bind_some]; cases o <;> rfl⟩
   rw [e2]
   have hs : sS nf next vars (allPuts l 0) x f ((0 : Nat) : Int) ↔ sS nf next vars (allPuts l 0) x f 20 := by
    unfold sS
    refine or_congr_right ⟨?_, ?_⟩
    ·rintro ⟨a, c, h, h2 | h2⟩
     ·have := (all_mem.1 h).1.1; omega
     ·omega
    ·rintro ⟨a, c, h, h2 | h2⟩
     ·have := (all_mem.1 h).1.1; omega
     ·omega
   rw [hs]
   exact ⟨.inr, fun h => h.resolve_left fun hh => hf hh.1⟩) (fun fu => by
  rw [ref_OnceSet_l8, ref_OnceSet_b8, hi, hJ, wrap_step (n := 2000) t0' (by omega) (by decide)]
  simp only [Int.lt_irrefl, decide_false, cond_false]) (fu := nf) (by omega) (by omega)
 exact ⟨o, a, e⟩
end Go.Proofs.Ytoglkjmdloppcaa
