/- single.Once: each use lies behind the place where its name is set. -/
import Derived.Test.YtoglkjmdloppcaaSSets
namespace Go.Proofs.Ytoglkjmdloppcaa
open Go Go.Ab S

variable {nf : Nat} {vars : Int} {l : List Sg} {next : List (List Int)} {P : List Put} {q : AtM × Bool} {r : List Int}

/-- a name is set ahead of a place in a block -/
def sS (nf : Nat) (next : List (List Int)) (vars : Int) (P : List Put) (n i k : Int) : Prop :=
 (0 ≤ n ∧ n < vars) ∨ ∃ a b, (n, a, b) ∈ P ∧ ((a = i ∧ b < k) ∨ (a ≠ i ∧ 0 ≤ i ∧ domB nf next a i = true))
/-- what stays -/
structure SEnv (nf : Nat) (next : List (List Int)) (vars : Int) (P : List Put) (q : AtM × Bool) (r : List Int) (n : Nat) : Prop where
 at' : AtOK vars P q
 rl : RulesOK nf next r
 len : next.length = n
 few : n ≤ 8
 inn : ∀ p ∈ P, 0 ≤ p.2.1 ∧ p.2.1 < (n : Int)

theorem once1_F {N : Nat} (hE : SEnv nf next vars P q r N) (hq : q.2 = true) {n i k : Int} (h0 : -1 ≤ i) (h1 : i < (N : Int)) : ∃ b, single_Once_1_f nf n i k q.1 r = some (b, ()) ∧ (b = true ↔ sS nf next vars P n i k) := by
 obtain ⟨hok, hat⟩ := hE.at'
 have ha := hat hq n
 obtain ⟨hnd, hnv⟩ := hok.1 hq
 simp only [single_Once_1_f, single_Once_1_p]
 cases hg : gA q.1 n with
 | none =>
  have hg' : getM (.int .i64) (.pair (.int .i64) (.pair (.int .i64) .unit)) q.1 n = none := hg
  refine ⟨false, by rw [hg']; rfl, fun h => (by cases h), ?_⟩
  rintro (h | ⟨a, b, h, _⟩)
  ·have := (ha (-1) 0).2 (.inr ⟨h, rfl, rfl⟩)
   rw [hg] at this; cases this
  ·have := (ha a b).2 (.inl h)
   rw [hg] at this; cases this
 | some v =>
  obtain ⟨a, b, u⟩ := v
  have hg' : getM (.int .i64) (.pair (.int .i64) (.pair (.int .i64) .unit)) q.1 n = some (a, b, ()) := hg
  rw [hg']
  simp only [Option.isSome_some, Bool.not_true, cond_false, Option.getD_some]
  have huni : ∀ c d, (n, c, d) ∈ P → c = a ∧ d = b := fun c d h => by
   have := (ha c d).2 (.inl h)
   rw [hg] at this
   cases this
   exact ⟨rfl, rfl⟩
  rcases (ha a b).1 hg with hp | ⟨hv, rfl, rfl⟩
  ·obtain ⟨p0, p1⟩ := hE.inn _ hp
   simp only at p0 p1
   have hnn := hnv _ hp
   simp only at hnn
   have hna : ¬ a < 0 := by omega
   rw [decide_eq_false hna, cond_false]
   by_cases hai : a = i
   ·refine ⟨decide (b < k), by rw [hai, beq_self_eq_true, cond_true], ?_⟩
    rw [decide_eq_true_eq]
    constructor
    ·intro h; exact .inr ⟨a, b, hp, .inl ⟨hai, h⟩⟩
    ·rintro (h | ⟨c, d, h, h2⟩)
     ·exact absurd h hnn
     ·obtain ⟨rfl, rfl⟩ := huni c d h
      rcases h2 with h2 | h2
      ·exact h2.2
      ·exact absurd hai h2.1
   ·rw [beq_f hai, cond_false]
    by_cases hi : i ≥ 0
    ·obtain ⟨w1, w2⟩ := hE.rl.2 i hi (by rw [hE.len]; exact h1)
     have h8 := hE.few
     refine ⟨domB nf next a i, ?_, ?_⟩
     ·rw [decide_eq_true hi, cond_true, inb_ok hi (by rw [hE.rl.1, hE.len]; exact h1), cond_true, decide_eq_true p0, cond_true]
      have e := shr_and_beq1 w1 p0 (by omega : a < 32)
      rw [w2, show ((a.toNat : Nat) : Int) = a by omega] at e
      rw [← e]; rfl
     ·constructor
      ·intro h; exact .inr ⟨a, b, hp, .inr ⟨hai, hi, h⟩⟩
      ·rintro (h | ⟨c, d, h, h2⟩)
       ·exact absurd h hnn
       ·obtain ⟨rfl, rfl⟩ := huni c d h
        rcases h2 with h2 | h2
        ·exact absurd h2.1 hai
        ·exact h2.2.2
    ·refine ⟨false, by rw [decide_eq_false hi, cond_false], fun h => (by cases h), ?_⟩
     rintro (h | ⟨c, d, h, h2⟩)
     ·exact absurd h hnn
     ·obtain ⟨rfl, rfl⟩ := huni c d h
      rcases h2 with h2 | h2
      ·exact absurd h2.1 hai
      ·exact absurd h2.2.1 hi
  ·exact ⟨true, rfl, fun _ => .inl hv, fun _ => rfl⟩

/-! the loops; what the answer has told so far: B -/
abbrev G2 := AtM → Bool → List Int → List (List Int) → Sg → Int → Option (Bool × Int × Unit)
abbrev G0 := AtM → Bool → List Int → List (List Int) → Int → Option (Bool × Int × Unit)
theorem once_l10 {N : Nat} (hE : SEnv nf next vars P q r N) (hn : 2000 ≤ nf) {i : Int} (h0 : 0 ≤ i) (h1 : i < (N : Int)) {fr : List (List Int)} {g0 : G0} {L : List Int} (hL : L.length ≤ 20) {ok : Bool} {B : Prop} (hB : ok = true ↔ B) (hq : ok = true → q.2 = true) :
  ∃ ok', (ok' = true ↔ B ∧ ∀ x ∈ L, x < 0 ∨ sS nf next vars P x i 20) ∧ (ok' = true → q.2 = true) ∧ single_Once_l10 nf l i g0 nf q.1 ok r fr L (L.length : Int) 0 = g0 q.1 ok' r fr (i + 1) := by
 have h8 := hE.few
 obtain ⟨fu', s, ⟨s1, s2, s3, s4, s5, s6, s7⟩, e⟩ := loop_inv (n := (L.length : Int)) (F := fun fu t (s : AtM × Bool × List Int × List (List Int) × List Int × Int) => single_Once_l10 nf l i g0 fu s.1 s.2.1 s.2.2.1 s.2.2.2.1 s.2.2.2.2.1 s.2.2.2.2.2 t)
  (fun t s => s.1 = q.1 ∧ s.2.2.1 = r ∧ s.2.2.2.1 = fr ∧ s.2.2.2.2.1 = L ∧ s.2.2.2.2.2 = (L.length : Int) ∧ (s.2.1 = true ↔ B ∧ ∀ k : Int, 0 ≤ k → k < t → L.getD k.toNat 0 < 0 ∨ sS nf next vars P (L.getD k.toNat 0) i 20) ∧ (s.2.1 = true → q.2 = true)) (fun fu t s t0 t1 hI => by
   obtain ⟨a, o, b, c, d, m⟩ := s
   obtain ⟨i1, i2, i3, i4, i5, i6, i7⟩ := hI
   simp only at i1 i2 i3 i4 i5 i6 i7
   subst i1 i2 i3 i4 i5
   have hw : IntKind.i64.wrap (t + 1) = t + 1 := wrap_step (n := 2000) t0 (by omega) (by decide)
   have hspl : ∀ C : Int → Prop, (∀ k : Int, 0 ≤ k → k < t + 1 → C k) ↔ (∀ k : Int, 0 ≤ k → k < t → C k) ∧ C t := fun C =>
    ⟨fun h => ⟨fun k k0 k1 => h k k0 (by omega), h t t0 (by omega)⟩, fun h k k0 k1 => by
     by_cases hk : k < t
     ·exact h.1 k k0 hk
     ·have : k = t := by omega
      rw [this]; exact h.2⟩
   have step : ∃ o', single_Once_l10 nf l i g0 (fu + 1) q.1 o b c d (d.length : Int) t = single_Once_l10 nf l i g0 fu q.1 o' b c d (d.length : Int) (t + 1) ∧ (o' = true ↔ o = true ∧ (d.getD t.toNat 0 < 0 ∨ sS nf next vars P (d.getD t.toNat 0) i 20)) := by
    rw [single_Once_l10, single_Once_b10, inb_ok t0 t1, hw]
    simp only [t1, decide_true, cond_true]
    cases o with
    | false => exact ⟨false, rfl, fun h => (by cases h), fun h => (by cases h.1)⟩
    | true =>
     rw [cond_true]
     by_cases hx : d.getD t.toNat 0 < 0
     ·exact ⟨true, by rw [decide_eq_true hx, cond_true], fun _ => ⟨rfl, .inl hx⟩, fun _ => rfl⟩
     ·obtain ⟨b', e1, e2⟩ := once1_F hE (i7 rfl) (n := d.getD t.toNat 0) (k := 20) (by omega : -1 ≤ i) h1
      refine ⟨b', by rw [decide_eq_false hx, cond_false, e1, Option.bind_some], ?_⟩
      rw [e2]
      exact ⟨fun h => ⟨rfl, .inr h⟩, fun h => h.2.resolve_left hx⟩
   obtain ⟨o', e1, e2⟩ := step
   refine ⟨(q.1, o', b, c, d, (d.length : Int)), by simp only; exact e1, rfl, rfl, rfl, rfl, rfl, ?_, fun h => i7 (e2.1 h).1⟩
   simp only
   rw [e2, i6, hspl (fun k => d.getD k.toNat 0 < 0 ∨ sS nf next vars P (d.getD k.toNat 0) i 20), and_assoc]) nf 0 (q.1, ok, r, fr, L, (L.length : Int)) (by omega) (by omega) (by omega) ⟨rfl, rfl, rfl, rfl, rfl, by simp only; rw [hB]; exact ⟨fun h => ⟨h, fun k k0 k1 => by omega⟩, fun h => h.1⟩, hq⟩
 obtain ⟨a, o, b, c, d, m⟩ := s
 simp only at s1 s2 s3 s4 s5 s6 s7 e
 subst s1 s2 s3 s4 s5
 refine ⟨o, ?_, s7, ?_⟩
 ·rw [s6]
  refine and_congr_right fun _ => ⟨fun h x hx => ?_, fun h k k0 k1 => h _ (getD_mem k0 k1)⟩
  obtain ⟨k, hk, rfl⟩ := List.mem_iff_getElem.1 hx
  have := h k (by omega) (by omega)
  rw [Int.toNat_natCast] at this
  have e2 : d.getD k 0 = d[k] := by simp [List.getD, hk]
  rw [e2] at this
  exact this
 ·rw [e, single_Once_l10, single_Once_b10, wrap_step (n := 2000) h0 (by omega) (by decide)]
  simp only [Int.lt_irrefl, decide_false, cond_false]
theorem loop_and {ρ : Type} {n : Int} {F : Nat → Int → Bool → Option ρ} {C : Int → Prop} {Q : Prop} (h : ∀ fu t o, 0 ≤ t → t < n → (o = true → Q) → ∃ o', F (fu + 1) t o = F fu (t + 1) o' ∧ (o' = true ↔ o = true ∧ C t))
  {fu : Nat} (h0 : 0 ≤ n) (hf : n < fu) {ok : Bool} {B : Prop} (hB : ok = true ↔ B) (hq : ok = true → Q) : ∃ fu' ok', (ok' = true ↔ B ∧ ∀ k, 0 ≤ k → k < n → C k) ∧ (ok' = true → Q) ∧ F fu 0 ok = F (fu' + 1) n ok' := by
 obtain ⟨fu', o, ⟨h1, h2⟩, e⟩ := loop_inv (n := n) (F := F) (fun t o => (o = true ↔ B ∧ ∀ k, 0 ≤ k → k < t → C k) ∧ (o = true → Q)) (fun fu t o t0 t1 hI => by
  obtain ⟨o', e1, e2⟩ := h fu t o t0 t1 hI.2
  refine ⟨o', e1, ?_, fun ho => hI.2 (e2.1 ho).1⟩
  rw [e2, hI.1, and_assoc]
  refine and_congr_right fun _ => ⟨fun hx k k0 k1 => ?_, fun hx => ⟨fun k k0 k1 => hx k k0 (by omega), hx t t0 (by omega)⟩⟩
  by_cases hk : k < t
  ·exact hx.1 k k0 hk
  ·have : k = t := by omega
   rw [this]; exact hx.2) fu 0 ok (by omega) h0 (by omega) ⟨by rw [hB]; exact ⟨fun hx => ⟨hx, fun k k0 k1 => by omega⟩, fun hx => hx.1⟩, hq⟩
 exact ⟨fu', o, h1, h2, e⟩
theorem all_at {α : Type} {L : List α} {d : α} {C : α → Prop} : (∀ k : Int, 0 ≤ k → k < (L.length : Int) → C (L.getD k.toNat d)) ↔ ∀ x ∈ L, C x := by
 constructor
 ·intro h x hx
  obtain ⟨k, hk, rfl⟩ := List.mem_iff_getElem.1 hx
  have := h k (by omega) (by omega)
  rw [Int.toNat_natCast] at this
  have e2 : L.getD k d = L[k] := by simp [List.getD, hk]
  rw [e2] at this
  exact this
 ·intro h k k0 k1
  exact h _ (getD_mem k0 k1)

theorem once_l8 {N : Nat} (hE : SEnv nf next vars P q r N) (hn : 2000 ≤ nf) {i k : Int} (h0 : 0 ≤ i) (h1 : i < (N : Int)) (k0 : 0 ≤ k) (k1 : k ≤ 1000) {fr : List (List Int)} {g6 : G2} {g0 : G0} {b b4 : Sg} {L : List Int} (hL : L.length ≤ 20) {ok : Bool} {B : Prop} (hB : ok = true ↔ B) (hq : ok = true → q.2 = true) :
  ∃ ok', (ok' = true ↔ B ∧ ∀ x ∈ L, sS nf next vars P x i k) ∧ (ok' = true → q.2 = true) ∧ single_Once_l8 nf l i k b (L, ()) g6 g0 nf q.1 ok r fr b4 L 0 = g6 q.1 ok' r fr b4 (k + 1) := by
 obtain ⟨fu', o, a, c, e⟩ := loop_and (n := (L.length : Int)) (F := fun fu t o => single_Once_l8 nf l i k b (L, ()) g6 g0 fu q.1 o r fr b4 L t) (C := fun t => sS nf next vars P (L.getD t.toNat 0) i k) (Q := q.2 = true) (fun fu t o t0 t1 hQ => by
  have hw : IntKind.i64.wrap (t + 1) = t + 1 := wrap_step (n := 2000) t0 (by omega) (by decide)
  rw [single_Once_l8, single_Once_b8, inb_ok t0 t1, hw]
  simp only [t1, decide_true, cond_true]
  cases o with
  | false => exact ⟨false, rfl, fun h => (by cases h), fun h => (by cases h.1)⟩
  | true =>
   obtain ⟨b', e1, e2⟩ := once1_F hE (hQ rfl) (n := L.getD t.toNat 0) (k := k) (by omega : -1 ≤ i) h1
   exact ⟨b', by rw [cond_true, e1, Option.bind_some], by rw [e2]; exact ⟨fun h => ⟨rfl, h⟩, fun h => h.2⟩⟩) (fu := nf) (by omega) (by omega) hB hq
 refine ⟨o, ?_, c, ?_⟩
 ·rw [a, all_at (C := fun x => sS nf next vars P x i k)]
 ·rw [e, single_Once_l8, single_Once_b8, wrap_step (n := 2000) k0 (by omega) (by decide)]
  simp only [Int.lt_irrefl, decide_false, cond_false]

theorem sclone_F (s : List Int) (hl : s.length ≤ 100) : slices_Clone_f nf s = some (s, ()) := by
 have hb := ble_ok (n := s.length) (by omega)
 cases s with
 | nil => simp [slices_Clone_f, slices_Clone_p, bimp, ble_ok, both_self]
 | cons a r => simp only [List.length_cons] at hb; simp [slices_Clone_f, slices_Clone_p, bimp, hb]
def D5 : Step6 := (0, 0, 0, 0, 0, ())
theorem uses_len (s : Step6) : (usesOf s).length ≤ 2 := by
 unfold usesOf
 split
 ·simp
 ·split <;> simp
theorem once_l6 {N : Nat} (hE : SEnv nf next vars P q r N) (hn : 2000 ≤ nf) {i : Int} (h0 : 0 ≤ i) (h1 : i < (N : Int)) {fr : List (List Int)} {g0 : G0} {b : Sg} (hs : b.2.1.length ≤ 1000) (hL : b.2.2.2.2.2.1.length ≤ 6) {ok : Bool} {B : Prop} (hB : ok = true ↔ B) (hq : ok = true → q.2 = true) :
  ∃ ok', (ok' = true ↔ (B ∧ ∀ k : Int, 0 ≤ k → k < (b.2.1.length : Int) → ∀ x ∈ usesOf (b.2.1.getD k.toNat D5), sS nf next vars P x i k) ∧ ∀ x ∈ b.2.2.2.2.2.1 ++ [b.2.2.1], x < 0 ∨ sS nf next vars P x i 20) ∧ (ok' = true → q.2 = true) ∧ single_Once_l6 nf l i b g0 nf q.1 ok r fr b 0 = g0 q.1 ok' r fr (i + 1) := by
 obtain ⟨fu', o, a, c, e⟩ := loop_and (n := (b.2.1.length : Int)) (F := fun fu t o => single_Once_l6 nf l i b g0 fu q.1 o r fr b t) (C := fun k => ∀ x ∈ usesOf (b.2.1.getD k.toNat D5), sS nf next vars P x i k) (Q := q.2 = true) (fun fu t o t0 t1 hQ => by
  have hD : b.2.1.getD t.toNat (0, 0, 0, 0, 0, ()) = b.2.1.getD t.toNat D5 := rfl
  rw [single_Once_l6, single_Once_b6, inb_ok t0 t1, hD, suses_F]
  simp only [t1, decide_true, cond_true, Option.bind_some]
  obtain ⟨o', a1, a2, a3⟩ := once_l8 (l := l) (b := b) (b4 := b) (fr := fr) hE hn h0 h1 t0 (by omega) (g6 := fun at'4 ok4 rules4 from'4 b3 t103 => single_Once_l6 nf l i b g0 fu at'4 ok4 rules4 from'4 b3 t103) (g0 := g0) (L := usesOf (b.2.1.getD t.toNat D5)) (by have := uses_len (b.2.1.getD t.toNat D5); omega) (ok := o) (B := o = true) Iff.rfl hQ
  exact ⟨o', a3, a1⟩) (fu := nf) (by omega) (by omega) hB hq
 have hlen : (b.2.2.2.2.2.1 ++ [b.2.2.1]).length ≤ 20 := by rw [List.length_append, List.length_singleton]; omega
 obtain ⟨o', a1, a2, a3⟩ := once_l10 (l := l) (fr := fr) hE hn h0 h1 (g0 := g0) hlen a c
 refine ⟨o', a1, a2, ?_⟩
 have hb : Nat.ble (b.2.2.2.2.2.1.length + 1) lim = true := ble_ok (by omega)
 rw [e, single_Once_l6, single_Once_b6, both_self, sclone_F _ (by omega)]
 simp only [Int.lt_irrefl, decide_false, cond_false, Option.bind_some, bimp, List.length_singleton, hb, Bool.not_false, Bool.true_or, Bool.and_self, cond_true]
 exact a3

/-- the names that a join takes -/
def CondJ (nf : Nat) (next : List (List Int)) (vars : Int) (P : List Put) (r : List Int) (fl : List Int) (j : Jn) : Prop := ∀ k : Int, 0 ≤ k → k < (j.2.1.length : Int) → (0 ≤ fl.getD k.toNat 0 ∧ r.getD (fl.getD k.toNat 0).toNat 0 = 0) ∨ sS nf next vars P (j.2.1.getD k.toNat 0) (fl.getD k.toNat 0) 20
def J0 : Jn := (0, [], ())
theorem once_l4 {N : Nat} (hE : SEnv nf next vars P q r N) (hn : 2000 ≤ nf) {i t61 : Int} (t0' : 0 ≤ t61) (t1' : t61 ≤ 1000) {fr : List (List Int)} (hi : inb i fr.length = true) (hfr : ∀ x ∈ fr.getD i.toNat [], -1 ≤ x ∧ x < (N : Int)) {g2 : G2} {g0 : G0} {b2 j j' : _} (hj : List.getD (l.getD i.toNat S0).1 t61.toNat J0 = j) (hm : j.2.1.length = (fr.getD i.toNat []).length) (hm2 : j.2.1.length ≤ 100) {ok : Bool} {B : Prop} (hB : ok = true ↔ B) (hq : ok = true → q.2 = true) :
  ∃ ok', (ok' = true ↔ B ∧ CondJ nf next vars P r (fr.getD i.toNat []) j) ∧ (ok' = true → q.2 = true) ∧ single_Once_l4 nf l i t61 g2 g0 nf q.1 ok r fr b2 j' 0 = g2 q.1 ok' r fr b2 (t61 + 1) := by
 have h8 := hE.few
 have hJ : List.getD (l.getD i.toNat ([], [], 0, 0, 0, [], ())).1 t61.toNat (0, [], ()) = j := hj
 obtain ⟨fu', o, a, c, e⟩ := loop_and (n := (j.2.1.length : Int)) (F := fun fu t o => single_Once_l4 nf l i t61 g2 g0 fu q.1 o r fr b2 j' t) (C := fun k => (0 ≤ (fr.getD i.toNat []).getD k.toNat 0 ∧ r.getD ((fr.getD i.toNat []).getD k.toNat 0).toNat 0 = 0) ∨ sS nf next vars P (j.2.1.getD k.toNat 0) ((fr.getD i.toNat []).getD k.toNat 0) 20) (Q := q.2 = true) (fun fu t o t0 t1 hQ => by
  have hw : IntKind.i64.wrap (t + 1) = t + 1 := wrap_step (n := 2000) t0 (by omega) (by decide)
  obtain ⟨f0, f1⟩ := hfr _ (getD_mem (d := 0) t0 (by omega : t < ((fr.getD i.toNat []).length : Int)))
  rw [single_Once_l4, single_Once_b4, hJ, hi, inb_ok t0 t1, inb_ok t0 (by omega : t < ((fr.getD i.toNat []).length : Int)), hw]
  simp only [t1, decide_true, cond_true]
  generalize (fr.getD i.toNat []).getD t.toNat 0 = f at f0 f1
  cases o with
  | false => exact ⟨false, rfl, fun h => (by cases h), fun h => (by cases h.1)⟩
  | true =>
   rw [cond_true]
   obtain ⟨b', e1, e2⟩ := once1_F hE (hQ rfl) (n := j.2.1.getD t.toNat 0) (k := 20) f0 f1
   by_cases hf : f ≥ 0
   ·rw [decide_eq_true hf, cond_true, inb_ok hf (by rw [hE.rl.1, hE.len]; exact f1), cond_true]
    by_cases hz : r.getD f.toNat 0 = 0
    ·exact ⟨true, by rw [hz, beq_self_eq_true, cond_true], fun _ => ⟨rfl, .inl ⟨hf, hz⟩⟩, fun _ => rfl⟩
    ·exact ⟨b', by rw [beq_f hz, cond_false, e1, Option.bind_some], by rw [e2]; exact ⟨fun h => ⟨rfl, .inr h⟩, fun h => h.2.resolve_left fun hh => hz hh.2⟩⟩
   ·exact ⟨b', by rw [decide_eq_false hf, cond_false, e1, Option.bind_some], by rw [e2]; exact ⟨fun h => ⟨rfl, .inr h⟩, fun h => h.2.resolve_left fun hh => hf hh.1⟩⟩) (fu := nf) (by omega) (by omega) hB hq
 refine ⟨o, a, c, ?_⟩
 rw [e, single_Once_l4, single_Once_b4, hJ, wrap_step (n := 2000) t0' (by omega) (by decide)]
 simp only [Int.lt_irrefl, decide_false, cond_false]

/-- what is asked of a block -/
def CondB (nf : Nat) (next : List (List Int)) (vars : Int) (P : List Put) (r : List Int) (fl : List Int) (i : Int) (b : Sg) : Prop :=
 (∀ j ∈ b.1, CondJ nf next vars P r fl j) ∧ (∀ k : Int, 0 ≤ k → k < (b.2.1.length : Int) → ∀ x ∈ usesOf (b.2.1.getD k.toNat D5), sS nf next vars P x i k) ∧ ∀ x ∈ b.2.2.2.2.2.1 ++ [b.2.2.1], x < 0 ∨ sS nf next vars P x i 20
theorem once_l2 {N : Nat} (hE : SEnv nf next vars P q r N) (hn : 2000 ≤ nf) {i : Int} (h0 : 0 ≤ i) (h1 : i < (N : Int)) {fr : List (List Int)} (hi : inb i fr.length = true) (hfr : ∀ x ∈ fr.getD i.toNat [], -1 ≤ x ∧ x < (N : Int)) (hfl : (fr.getD i.toNat []).length ≤ 100) {g0 : G0} {b : Sg} (hb : l.getD i.toNat S0 = b) (hjn : ∀ j ∈ b.1, j.2.1.length = (fr.getD i.toNat []).length) (hj1 : b.1.length ≤ 1000) (hs : b.2.1.length ≤ 1000) (hL : b.2.2.2.2.2.1.length ≤ 6) {ok : Bool} {B : Prop} (hB : ok = true ↔ B) (hq : ok = true → q.2 = true) :
  ∃ ok', (ok' = true ↔ B ∧ CondB nf next vars P r (fr.getD i.toNat []) i b) ∧ (ok' = true → q.2 = true) ∧ single_Once_l2 nf l i g0 nf q.1 ok r fr b 0 = g0 q.1 ok' r fr (i + 1) := by
 have hBb : l.getD i.toNat ([], [], 0, 0, 0, [], ()) = b := hb
 obtain ⟨fu', o, a, c, e⟩ := loop_and (n := (b.1.length : Int)) (F := fun fu t o => single_Once_l2 nf l i g0 fu q.1 o r fr b t) (C := fun k => CondJ nf next vars P r (fr.getD i.toNat []) (b.1.getD k.toNat J0)) (Q := q.2 = true) (fun fu t o t0 t1 hQ => by
  have hmj := hjn _ (getD_mem (d := J0) t0 t1)
  rw [single_Once_l2, single_Once_b2, hBb, inb_ok t0 t1]
  simp only [t1, decide_true, cond_true]
  obtain ⟨o', a1, a2, a3⟩ := once_l4 (l := l) (i := i) (b2 := b) (j' := b.1.getD t.toNat J0) hE hn t0 (by omega) hi hfr (g2 := fun at'2 ok2 rules2 from'2 b t61 => single_Once_l2 nf l i g0 fu at'2 ok2 rules2 from'2 b t61) (g0 := g0) (by rw [hb]) hmj (by omega) (ok := o) (B := o = true) Iff.rfl hQ
  exact ⟨o', a3, a1⟩) (fu := nf) (by omega) (by omega) hB hq
 obtain ⟨o', a1, a2, a3⟩ := once_l6 (l := l) (fr := fr) hE hn h0 h1 (g0 := g0) hs hL a c
 refine ⟨o', ?_, a2, ?_⟩
 ·rw [a1, all_at (C := fun j => CondJ nf next vars P r (fr.getD i.toNat []) j)]
  unfold CondB
  rw [and_assoc, and_assoc]
 ·rw [e, single_Once_l2, single_Once_b2, hBb]
  simp only [Int.lt_irrefl, decide_false, cond_false]
  exact a3
theorem once_l0 (hE : SEnv nf next vars P q r l.length) (hn : 2000 ≤ nf) {fr : List (List Int)} (hfr : fr.length = l.length) (hfx : ∀ i : Int, 0 ≤ i → i < (l.length : Int) → (∀ x ∈ fr.getD i.toNat [], -1 ≤ x ∧ x < (l.length : Int)) ∧ (fr.getD i.toNat []).length ≤ 100 ∧ (∀ j ∈ (l.getD i.toNat S0).1, j.2.1.length = (fr.getD i.toNat []).length) ∧ (l.getD i.toNat S0).1.length ≤ 1000 ∧ (l.getD i.toNat S0).2.1.length ≤ 1000 ∧ (l.getD i.toNat S0).2.2.2.2.2.1.length ≤ 6) :
  ∃ ok', (ok' = true ↔ q.2 = true ∧ ∀ i : Int, 0 ≤ i → i < (l.length : Int) → r.getD i.toNat 0 = 0 ∨ CondB nf next vars P r (fr.getD i.toNat []) i (l.getD i.toNat S0)) ∧ single_Once_l0 nf l nf q.1 q.2 r fr 0 = some (ok', 0, ()) := by
 have h8 := hE.few
 obtain ⟨fu', o, a, c, e⟩ := loop_and (n := (l.length : Int)) (F := fun fu t o => single_Once_l0 nf l fu q.1 o r fr t) (C := fun i => r.getD i.toNat 0 = 0 ∨ CondB nf next vars P r (fr.getD i.toNat []) i (l.getD i.toNat S0)) (Q := q.2 = true) (fun fu t o t0 t1 hQ => by
  obtain ⟨f1, f2, f3, f4, f5, f6⟩ := hfx t t0 t1
  rw [single_Once_l0, single_Once_b0, inb_ok t0 t1, inb_ok t0 (by rw [hE.rl.1, hE.len]; exact t1 : t < (r.length : Int)), wrap_step (n := 2000) t0 (by omega) (by decide)]
  simp only [t1, decide_true, cond_true]
  by_cases hz : r.getD t.toNat 0 = 0
  ·exact ⟨o, by rw [hz, beq_self_eq_true, cond_true], fun h => ⟨h, .inl hz⟩, fun h => h.1⟩
  ·rw [beq_f hz, cond_false]
   obtain ⟨o', a1, a2, a3⟩ := once_l2 (l := l) hE hn t0 t1 (inb_ok t0 (by omega)) f1 f2 (g0 := fun at' ok rules from' t48 => single_Once_l0 nf l fu at' ok rules from' t48) rfl f3 f4 f5 f6 (ok := o) (B := o = true) Iff.rfl hQ
   exact ⟨o', a3, by rw [a1]; exact ⟨fun h => ⟨h.1, .inr h.2⟩, fun h => ⟨h.1, h.2.resolve_left hz⟩⟩⟩) (fu := nf) (by omega) (by omega) (ok := q.2) (B := q.2 = true) Iff.rfl id
 refine ⟨o, a, ?_⟩
 rw [e, single_Once_l0, single_Once_b0]
 simp only [Int.lt_irrefl, decide_false, cond_false]
end Go.Proofs.Ytoglkjmdloppcaa
