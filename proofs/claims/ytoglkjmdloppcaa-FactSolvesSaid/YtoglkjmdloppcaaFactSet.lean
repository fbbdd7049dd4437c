/- Kildall's rounds: which facts the program tells. -/
import Derived.Test.YtoglkjmdloppcaaFact
namespace Go.Proofs.Ytoglkjmdloppcaa
open Go Go.Ab S

variable {nf n : Nat} {next nx : List (List Int)} {law : LawT} {fs : Nat → Prop}

theorem f_and (x y : Int) : IntKind.u32.wrap ((BitVec.ofInt IntKind.u32.bits x &&& BitVec.ofInt IntKind.u32.bits y).toNat : Int) = and32 x y := rfl
theorem f_or (x y : Int) : IntKind.u32.wrap ((BitVec.ofInt IntKind.u32.bits x ||| BitVec.ofInt IntKind.u32.bits y).toNat : Int) = or32 x y := rfl

theorem getD_el (l : List Int) {k : Nat} (hk : k < l.length) : l.getD k 0 = l[k] := by simp [List.getD, hk]
/-! eight facts in a word -/
def B8 (w : Int) : Prop := W32 w ∧ ∀ i, 8 ≤ i → bt w i = false
theorem b8_of {w : Int} (h0 : 0 ≤ w) (h1 : w ≤ 255) : B8 w :=
  ⟨⟨h0, by omega⟩, fun i hi => Nat.testBit_lt_two_pow (Nat.lt_of_lt_of_le (show w.toNat < 2 ^ 8 by omega) (Nat.pow_le_pow_right (by decide) hi))⟩
theorem b8_zero : B8 0 := b8_of (by decide) (by decide)
theorem B8.or {x y : Int} (hx : B8 x) (hy : B8 y) : B8 (or32 x y) := ⟨or32_w _ _, fun i hi => by rw [or32_bt hx.1 hy.1, hx.2 i hi, hy.2 i hi]; rfl⟩
theorem B8.and {x y : Int} (hx : B8 x) (hy : B8 y) : B8 (and32 x y) := ⟨and32_w _ _, fun i hi => by rw [and32_bt hx.1 hy.1, hx.2 i hi, hy.2 i hi]; rfl⟩
theorem B8.not {x y : Int} (hx : B8 x) (hy : W32 y) : B8 (not32 x y) := ⟨not32_w _ _, fun i hi => by rw [not32_bt hx.1 hy, hx.2 i hi]; rfl⟩
theorem b8_ext {x y : Int} (hx : B8 x) (hy : B8 y) (h : ∀ i, i < 8 → bt x i = bt y i) : x = y := bt_ext hx.1 hy.1 fun i _ => by
  by_cases hi : i < 8
  · exact h i hi
  · rw [hx.2 i (by omega), hy.2 i (by omega)]

structure LawK (law : LawT) (n : Nat) : Prop where
  pos : 1 ≤ n
  few : n ≤ 8
  l1 : law.2.2.1.length = n
  l2 : law.2.2.2.1.length = n
  mks : ∀ i, B8 (law.2.2.1.getD i 0)
  en : ∀ i, B8 (law.2.2.2.1.getD i 0)
  st : B8 law.2.2.2.2.1
structure NxK (nx : List (List Int)) (n : Nat) : Prop where
  len : nx.length = n
  thin : ∀ i, (nx.getD i []).length ≤ 24
  good : ∀ i, ∀ j ∈ nx.getD i [], 0 ≤ j ∧ j < (n : Int)

def tr (law : LawT) (f i : Nat) (b : Bool) : Bool := (b && !bt (law.2.2.2.1.getD i 0) f) || bt (law.2.2.1.getD i 0) f
theorem bh_bt (hL : LawK law n) {s i : Int} (hs : W32 s) (f : Nat) : bt (bhW law i s) f = tr law f i.toNat (bt s f) := by
  unfold bhW tr
  rw [or32_bt (not32_w _ _) (hL.mks _).1, not32_bt hs (hL.en _).1]
theorem bh_b8 (hL : LawK law n) {s i : Int} (hs : B8 s) : B8 (bhW law i s) := (hs.not (hL.en _).1).or (hL.mks _)
theorem tr_const {f i : Nat} {v b : Bool} (h : tr law f i (!v) = v) : tr law f i b = v := by
  unfold tr at h ⊢
  revert h
  cases v <;> cases b <;> cases bt (law.2.2.2.1.getD i 0) f <;> cases bt (law.2.2.1.getD i 0) f <;> simp

/-- along which paths one comes to a node with a fact, and without it -/
inductive RP (law : LawT) (nx : List (List Int)) (fs : Nat → Prop) (f : Nat) : Nat → Bool → Prop
  | here {i : Nat} : fs i → RP law nx fs f i (bt law.2.2.2.2.1 f)
  | step {i : Nat} {b : Bool} {j : Int} : RP law nx fs f i b → j ∈ nx.getD i [] → RP law nx fs f j.toNat (tr law f i b)

def newW (law : LawT) (so : List Int) (i j : Int) : Int := if law.2.1 = true then and32 (so.getD j.toNat 0) (bhW law i (so.getD i.toNat 0)) else or32 (so.getD j.toNat 0) (bhW law i (so.getD i.toNat 0))
theorem new_b8 (hL : LawK law n) {so : List Int} (hs : ∀ i : Nat, B8 (so.getD i 0)) (i j : Int) : B8 (newW law so i j) := by
  unfold newW
  split
  · exact (hs _).and (bh_b8 hL (hs _))
  · exact (hs _).or (bh_b8 hL (hs _))
theorem new_bt (hL : LawK law n) {so : List Int} (hs : ∀ i : Nat, B8 (so.getD i 0)) (i j : Int) (f : Nat) :
    bt (newW law so i j) f = (!law.2.1) ↔ bt (so.getD j.toNat 0) f = (!law.2.1) ∨ tr law f i.toNat (bt (so.getD i.toNat 0) f) = (!law.2.1) := by
  unfold newW
  have h1 := bh_bt hL (i := i) (hs i.toNat).1 f
  cases h : law.2.1
  · rw [if_neg (by simp), or32_bt (hs _).1 (bh_b8 hL (hs _)).1, h1]; simp
  · rw [if_pos rfl, and32_bt (hs _).1 (bh_b8 hL (hs _)).1, h1]
    simp only [Bool.not_true]
    cases bt (so.getD j.toNat 0) f <;> simp

structure FJ (law : LawT) (nx : List (List Int)) (fs : Nat → Prop) (n : Nat) (so : List Int) (come : Int) : Prop where
  len : so.length = n
  wd : ∀ i : Nat, B8 (so.getD i 0)
  cw : W32 come
  cm : ∀ j : Nat, bt come j = true → j < n ∧ ∀ f, ∃ b, RP law nx fs f j b
  snd : ∀ j f : Nat, j < n → f < 8 → bt (so.getD j 0) f = (!law.2.1) → RP law nx fs f j (!law.2.1)
  ini : ∀ i, fs i → bt come i = true ∧ ∀ f, f < 8 → bt law.2.2.2.2.1 f = (!law.2.1) → bt (so.getD i 0) f = (!law.2.1)

def cell (v : Bool) (so : List Int) (come : Int) (k : Nat) : Bool := if k % 9 < 8 then bt (so.getD (k / 9) 0) (k % 9) == v else bt come (k / 9)
def Ms (v : Bool) (so : List Int) (come : Int) : Nat := cnt (cell v so come) 72

theorem FJ.step (hL : LawK law n) (hN : NxK nx n) {so : List Int} {come i j : Int} (hJ : FJ law nx fs n so come) (h0 : 0 ≤ i) (hi : bt come i.toNat = true) (hj : j ∈ nx.getD i.toNat [])
    (hh : newW law so i j ≠ so.getD j.toNat 0 ∨ bt come j.toNat = false) :
    FJ law nx fs n (so.set j.toNat (newW law so i j)) (or32 come (shlI .u32 1 j)) ∧ Ms (!law.2.1) so come < Ms (!law.2.1) (so.set j.toNat (newW law so i j)) (or32 come (shlI .u32 1 j)) := by
  obtain ⟨j0, j1⟩ := hN.good _ _ hj
  have h8 := hL.few
  have hjl : j.toNat < so.length := by rw [hJ.len]; omega
  have hob : ∀ k : Nat, bt (or32 come (shlI .u32 1 j)) k = (bt come k || decide (k = j.toNat)) := fun k => by
    rw [or32_bt hJ.cw (one_w j0 (by omega)), one_bt j0 (by omega)]
  have hup : ∀ k f : Nat, bt (so.getD k 0) f = (!law.2.1) → bt ((so.set j.toNat (newW law so i j)).getD k 0) f = (!law.2.1) := by
    intro k f h
    rw [getD_upd hjl]
    by_cases hk : k = j.toNat
    · rw [if_pos hk]; subst hk
      exact (new_bt hL hJ.wd i j f).2 (.inl h)
    · rw [if_neg hk]; exact h
  constructor
  · refine ⟨by rw [List.length_set]; exact hJ.len, fun k => ?_, or32_w _ _, fun k hk => ?_, fun k f hk hf h => ?_, fun k hk => ?_⟩
    · rw [getD_upd hjl]
      split
      · exact new_b8 hL hJ.wd i j
      · exact hJ.wd k
    · rw [hob, Bool.or_eq_true, decide_eq_true_eq] at hk
      rcases hk with hk | hk
      · exact hJ.cm k hk
      · refine ⟨by omega, fun f => ?_⟩
        obtain ⟨b, hb⟩ := (hJ.cm _ hi).2 f
        exact ⟨_, hk ▸ RP.step hb hj⟩
    · rw [getD_upd hjl] at h
      by_cases hkj : k = j.toNat
      · rw [if_pos hkj, new_bt hL hJ.wd] at h
        rcases h with h | h
        · exact hJ.snd k f hk hf (by rw [hkj]; exact h)
        · by_cases hb : bt (so.getD i.toNat 0) f = !law.2.1
          · have h1 := RP.step (hJ.snd i.toNat f (hJ.cm _ hi).1 hf hb) hj
            rw [hb] at h
            rw [h] at h1
            rw [hkj]; exact h1
          · obtain ⟨b, h1⟩ := (hJ.cm _ hi).2 f
            have h2 := RP.step h1 hj
            have hb' : bt (so.getD i.toNat 0) f = !(!law.2.1) := by
              revert hb; cases bt (so.getD i.toNat 0) f <;> cases law.2.1 <;> simp
            rw [hb'] at h
            rw [tr_const h] at h2
            rw [hkj]; exact h2
      · rw [if_neg hkj] at h
        exact hJ.snd k f hk hf h
    · obtain ⟨a, b⟩ := hJ.ini k hk
      exact ⟨by rw [hob, a]; rfl, fun f hf h => hup k f (b f hf h)⟩
  · refine cnt_lt (fun k _ h => ?_) ?_
    · unfold cell at h ⊢
      split
      · rename_i hk
        rw [if_pos hk, beq_iff_eq] at h
        rw [beq_iff_eq]; exact hup _ _ h
      · rename_i hk
        rw [if_neg hk] at h
        rw [hob, h]; rfl
    · rcases hh with hh | hh
      · have : ∃ f, f < 8 ∧ bt (newW law so i j) f ≠ bt (so.getD j.toNat 0) f := Classical.byContradiction fun hc => hh (b8_ext (new_b8 hL hJ.wd i j) (hJ.wd _) fun f hf => Classical.byContradiction fun h => hc ⟨f, hf, h⟩)
        obtain ⟨f, hf, hne⟩ := this
        have e1 : (9 * j.toNat + f) / 9 = j.toNat := by omega
        have e2 : (9 * j.toNat + f) % 9 = f := by omega
        have hn1 := new_bt hL hJ.wd i j f
        refine ⟨9 * j.toNat + f, by omega, ?_, ?_⟩
        · unfold cell
          rw [e1, e2, if_pos hf, beq_eq_false_iff_ne]
          intro h
          exact hne ((hn1.2 (.inl h)).trans h.symm)
        · unfold cell
          rw [e1, e2, if_pos hf, getD_upd hjl, if_pos rfl, beq_iff_eq]
          have hnb : bt (so.getD j.toNat 0) f ≠ !law.2.1 := fun h => hne ((hn1.2 (.inl h)).trans h.symm)
          revert hne hnb
          cases bt (newW law so i j) f <;> cases bt (so.getD j.toNat 0) f <;> cases law.2.1 <;> simp
      · have e1 : (9 * j.toNat + 8) / 9 = j.toNat := by omega
        have e2 : (9 * j.toNat + 8) % 9 = 8 := by omega
        refine ⟨9 * j.toNat + 8, by omega, ?_, ?_⟩
        · unfold cell
          rw [e1, e2, if_neg (by omega)]; exact hh
        · unfold cell
          rw [e1, e2, if_neg (by omega), hob]; simp

def closedE (law : LawT) (so : List Int) (come i j : Int) : Prop := bt come j.toNat = true ∧ ∀ f, f < 8 → tr law f i.toNat (bt (so.getD i.toNat 0) f) = (!law.2.1) → bt (so.getD j.toNat 0) f = (!law.2.1)
def Out (law : LawT) (nx : List (List Int)) (fs : Nat → Prop) (n : Nat) (so0 : List Int) (come0 : Int) (E : Prop) (q : List Int × Int × Bool) : Prop :=
  FJ law nx fs n q.1 q.2.1 ∧ ((q.2.2 = true ∧ Ms (!law.2.1) so0 come0 < Ms (!law.2.1) q.1 q.2.1) ∨ (q.2.2 = false ∧ q.1 = so0 ∧ q.2.1 = come0 ∧ E))
theorem Out.imp {so0 : List Int} {come0 : Int} {E E' : Prop} {q : List Int × Int × Bool} (h : Out law nx fs n so0 come0 E q) (he : q.2.2 = false → q.1 = so0 → q.2.1 = come0 → E → E') : Out law nx fs n so0 come0 E' q :=
  ⟨h.1, h.2.imp id fun ⟨a, b, c, d⟩ => ⟨a, b, c, he a b c d⟩⟩

theorem solve_l8 (hL : LawK law n) (hN : NxK nx n) (hf : 100 ≤ nf) {so0 : List Int} {come0 i : Int} {E : Prop} (h0 : 0 ≤ i) (h1 : i < (n : Int)) {q : List Int × Int × Bool} (hq : Out law nx fs n so0 come0 E q) (hi : bt q.2.1 i.toNat = true)
    {g6 : LawT → List Int → Int → Bool → Int → Option (List Int × Int × Unit)} {g4 : LawT → List Int → Int → Bool → Option (List Int × Int × Unit)} :
    ∃ q', Out law nx fs n so0 come0 (E ∧ ∀ j ∈ nx.getD i.toNat [], closedE law so0 come0 i j) q' ∧ fact_Solve_l8 nf nx law i g6 g4 nf law q.1 q.2.1 q.2.2 0 = g6 law q'.1 q'.2.1 q'.2.2 (i + 1) := by
  have h8 := hL.few
  have hth := hN.thin i.toNat
  obtain ⟨fu', s, ⟨s1, s2, _⟩, e⟩ := loop_inv (n := ((nx.getD i.toNat []).length : Int)) (F := fun fu t (s : LawT × List Int × Int × Bool) => fact_Solve_l8 nf nx law i g6 g4 fu s.1 s.2.1 s.2.2.1 s.2.2.2 t)
    (fun t s => s.1 = law ∧ Out law nx fs n so0 come0 (E ∧ ∀ k : Int, 0 ≤ k → k < t → closedE law so0 come0 i ((nx.getD i.toNat []).getD k.toNat 0)) s.2 ∧ bt s.2.2.1 i.toNat = true) (fun fu t s t0 t1 hI => by
      obtain ⟨lw, so, come, more⟩ := s
      obtain ⟨i1, i2, i3⟩ := hI
      simp only at i1 i3
      subst i1
      have hj := getD_mem (d := 0) t0 t1
      generalize hjd : (nx.getD i.toNat []).getD t.toNat 0 = j at hj
      obtain ⟨j0, j1⟩ := hN.good _ _ hj
      have hJ := i2.1
      simp only at hJ
      have hjl : j < (so.length : Int) := by rw [hJ.len]; exact j1
      have hil : i < (so.length : Int) := by rw [hJ.len]; exact h1
      have hw : IntKind.i64.wrap (t + 1) = t + 1 := wrap_nn (by omega) (by omega)
      have hb : ∀ s : Int, fact_behind_f nf lw i s = some (bhW lw i s, ()) := fun s => fbehind_F (next := nx) (by rw [hL.l1, hN.len]) (by rw [hL.l2, hN.len]) h0 (by rw [hN.len]; exact h1)
      have hset : ∀ x : Int, inb j (so.set j.toNat x).length = true := fun x => inb_ok j0 (by rw [List.length_set]; exact hjl)
      have hstep : fact_Solve_l8 nf nx lw i g6 g4 (fu + 1) lw so come more t = if newW lw so i j ≠ so.getD j.toNat 0 ∨ bt come j.toNat = false then fact_Solve_l8 nf nx lw i g6 g4 fu lw (so.set j.toNat (newW lw so i j)) (or32 come (shlI .u32 1 j)) true (t + 1) else fact_Solve_l8 nf nx lw i g6 g4 fu lw so come more (t + 1) := by
        rw [fact_Solve_l8, fact_Solve_b8, hjd, inb_ok j0 hjl, inb_ok h0 hil, hb, inb_ok t0 t1, hw]
        simp only [t1, j0, decide_true, cond_true, Option.bind_some, f_and, f_or, shr_and_beq0 hJ.cw j0 (by omega : j < 32)]
        unfold newW
        cases hA : lw.2.1 with
        | true =>
          simp only [cond_true, if_true]
          by_cases hne : and32 (so.getD j.toNat 0) (bhW lw i (so.getD i.toNat 0)) = so.getD j.toNat 0
          · rw [hne, bne_self_eq_false]
            simp only [cond_false, ne_eq, not_true_eq_false, false_or]
            cases bt come j.toNat <;> rfl
          · rw [bne_t hne, if_pos (.inl hne)]; rfl
        | false =>
          simp only [cond_false, if_false, Bool.false_eq_true]
          by_cases hne : or32 (so.getD j.toNat 0) (bhW lw i (so.getD i.toNat 0)) = so.getD j.toNat 0
          · rw [hne, bne_self_eq_false]
            simp only [cond_false, ne_eq, not_true_eq_false, false_or]
            cases bt come j.toNat <;> rfl
          · rw [bne_t hne, if_pos (.inl hne)]; rfl
      by_cases hh : newW lw so i j ≠ so.getD j.toNat 0 ∨ bt come j.toNat = false
      · obtain ⟨a, b⟩ := hJ.step hL hN h0 i3 hj hh
        refine ⟨(lw, so.set j.toNat (newW lw so i j), or32 come (shlI .u32 1 j), true), by simp only; rw [hstep, if_pos hh], rfl, ⟨a, .inl ⟨rfl, ?_⟩⟩, ?_⟩
        · rcases i2.2 with ⟨_, c⟩ | ⟨_, c, d, _⟩
          · exact Nat.lt_trans c b
          · simp only at c d
            subst c d
            exact b
        · simp only
          rw [or32_bt hJ.cw (one_w j0 (by omega)), i3]; rfl
      · refine ⟨(lw, so, come, more), by simp only; rw [hstep, if_neg hh], rfl, i2.imp fun _ c d he => ⟨he.1, fun k k0 k1 => ?_⟩, i3⟩
        by_cases hk : k < t
        · exact he.2 k k0 hk
        · have : k = t := by omega
          subst this
          rw [hjd]
          simp only at c d
          subst c d
          obtain ⟨x, y⟩ := not_or.1 hh
          refine ⟨by revert y; cases bt come j.toNat <;> simp, fun f hf h => ?_⟩
          have := (new_bt hL hJ.wd i j f).2 (.inr h)
          rw [Classical.not_not.1 x] at this
          exact this) nf 0 (law, q) (by omega) (by omega) (by omega) ⟨rfl, hq.imp fun _ _ _ h => ⟨h, fun k k0 k1 => by omega⟩, hi⟩
  refine ⟨s.2, s2.imp fun _ _ _ h => ⟨h.1, fun j hj => ?_⟩, ?_⟩
  · obtain ⟨k, hk, rfl⟩ := List.mem_iff_getElem.1 hj
    have := h.2 k (by omega) (by omega)
    rw [Int.toNat_natCast] at this
    rw [getD_el _ hk] at this; exact this
  · simp only at e
    rw [e, fact_Solve_l8, fact_Solve_b8, s1, wrap_nn (x := i + 1) (by omega) (by omega)]
    simp only [Int.lt_irrefl, decide_false, cond_false]

def Closed (law : LawT) (nx : List (List Int)) (so : List Int) (come : Int) : Prop := ∀ i : Int, 0 ≤ i → bt come i.toNat = true → ∀ j ∈ nx.getD i.toNat [], closedE law so come i j
theorem solve_l6 (hL : LawK law n) (hN : NxK nx n) (hf : 100 ≤ nf) {so0 : List Int} {come0 : Int} (hJ : FJ law nx fs n so0 come0) {g4 : LawT → List Int → Int → Bool → Option (List Int × Int × Unit)} :
    ∃ q', Out law nx fs n so0 come0 (Closed law nx so0 come0) q' ∧ fact_Solve_l6 nf nx law g4 nf law so0 come0 false 0 = g4 law q'.1 q'.2.1 q'.2.2 := by
  have h8 := hL.few
  obtain ⟨fu', s, ⟨s1, s2⟩, e⟩ := loop_inv (n := (n : Int)) (F := fun fu t (s : LawT × List Int × Int × Bool) => fact_Solve_l6 nf nx law g4 fu s.1 s.2.1 s.2.2.1 s.2.2.2 t)
    (fun t s => s.1 = law ∧ Out law nx fs n so0 come0 (∀ i : Int, 0 ≤ i → i < t → bt come0 i.toNat = true → ∀ j ∈ nx.getD i.toNat [], closedE law so0 come0 i j) s.2) (fun fu t s t0 t1 hI => by
      obtain ⟨lw, so, come, more⟩ := s
      obtain ⟨i1, i2⟩ := hI
      simp only at i1
      subst i1
      have hJ := i2.1
      simp only at hJ
      have hnl : t < (nx.length : Int) := by rw [hN.len]; exact t1
      have hw : IntKind.i64.wrap (t + 1) = t + 1 := wrap_nn (by omega) (by omega)
      cases hc : bt come t.toNat with
      | false =>
        refine ⟨(lw, so, come, more), ?_, rfl, i2.imp fun _ _ d he i k0 k1 hi => ?_⟩
        · simp only
          rw [fact_Solve_l6, fact_Solve_b6, inb_ok t0 hnl, hw]
          simp only [hnl, t0, decide_true, cond_true, f_and, shr_and_beq0 hJ.cw t0 (by omega : t < 32), hc, Bool.not_false]
        · by_cases hk : i < t
          · exact he i k0 hk hi
          · have : i = t := by omega
            subst this
            simp only at d
            subst d
            rw [hc] at hi; cases hi
      | true =>
        obtain ⟨q', a, b⟩ := solve_l8 hL hN hf t0 t1 i2 hc (g6 := fun law5 so3 come3 more2 t72 => fact_Solve_l6 nf nx lw g4 fu law5 so3 come3 more2 t72) (g4 := g4)
        refine ⟨(lw, q'), ?_, rfl, a.imp fun _ _ _ he i k0 k1 hi => ?_⟩
        · simp only at b ⊢
          rw [fact_Solve_l6, fact_Solve_b6, inb_ok t0 hnl, hw]
          simp only [hnl, t0, decide_true, cond_true, f_and, shr_and_beq0 hJ.cw t0 (by omega : t < 32), hc, Bool.not_true, cond_false]
          exact b
        · by_cases hk : i < t
          · exact he.1 i k0 hk hi
          · have : i = t := by omega
            subst this
            exact he.2) nf 0 (law, so0, come0, false) (by omega) (by omega) (by omega) ⟨rfl, hJ, .inr ⟨rfl, rfl, rfl, fun i k0 k1 => by omega⟩⟩
  refine ⟨s.2, s2.imp fun _ _ _ h i k0 hi => ?_, ?_⟩
  · exact h i k0 (by have := (hJ.cm _ hi).1; omega) hi
  · simp only at e
    rw [e, fact_Solve_l6, fact_Solve_b6, s1, hN.len]
    simp only [Int.lt_irrefl, decide_false, cond_false]

theorem solve_l4 (hL : LawK law n) (hN : NxK nx n) (hf : 100 ≤ nf) : ∀ (d fu : Nat) (so : List Int) (come : Int), FJ law nx fs n so come → 72 ≤ Ms (!law.2.1) so come + d → d + 2 ≤ fu →
    ∃ so' come', FJ law nx fs n so' come' ∧ Closed law nx so' come' ∧ fact_Solve_l4 nf nx law fu law so come true = some (so', 0, ())
  | d, 0, _, _, _, _, h => by omega
  | d, fu + 1, so, come, hJ, hd, hfu => by
    obtain ⟨q', a, b⟩ := solve_l6 hL hN hf hJ (g4 := fun law4 so2 come2 more => fact_Solve_l4 nf nx law fu law4 so2 come2 more)
    rw [fact_Solve_l4, fact_Solve_b4, cond_true, b]
    obtain ⟨h1, ⟨h2, h3⟩ | ⟨h2, h3, h4, h5⟩⟩ := a
    · have := cnt_n (cell (!law.2.1) q'.1 q'.2.1) 72
      have hlt : Ms (!law.2.1) q'.1 q'.2.1 ≤ 72 := this
      match d, hd with
      | 0, hd => omega
      | d + 1, hd =>
        rw [h2]
        exact solve_l4 hL hN hf d fu _ _ h1 (by omega) (by omega)
    · obtain ⟨fu, rfl⟩ : ∃ k, fu = k + 1 := ⟨fu - 1, by omega⟩
      rw [h2, fact_Solve_l4, fact_Solve_b4, cond_false]
      exact ⟨q'.1, q'.2.1, h1, by rw [h3, h4]; exact h5, rfl⟩

theorem fix_com {so : List Int} {come : Int} (hJ : FJ law nx fs n so come) (hC : Closed law nx so come) {f : Nat} (hf : f < 8) : ∀ {i : Nat} {b : Bool}, RP law nx fs f i b → bt come i = true ∧ (b = (!law.2.1) → bt (so.getD i 0) f = (!law.2.1)) := by
  intro i b h
  induction h with
  | here h => exact ⟨(hJ.ini _ h).1, fun hb => (hJ.ini _ h).2 f hf hb⟩
  | @step i b j h hj ih =>
    obtain ⟨a, c⟩ := ih
    have := hC (i : Int) (by omega) (by rw [Int.toNat_natCast]; exact a) j (by rw [Int.toNat_natCast]; exact hj)
    refine ⟨this.1, fun ht => this.2 f hf ?_⟩
    rw [Int.toNat_natCast]
    by_cases hb : b = !law.2.1
    · rw [c hb, ← hb]
      exact ht.trans (by rw [hb])
    · have hb' : b = !(!law.2.1) := by revert hb; cases b <;> cases law.2.1 <;> simp
      rw [hb'] at ht
      exact tr_const ht
theorem fix_iff {so : List Int} {come : Int} (hJ : FJ law nx fs n so come) (hC : Closed law nx so come) {f i : Nat} (hf : f < 8) (hi : i < n) : bt (so.getD i 0) f = (!law.2.1) ↔ RP law nx fs f i (!law.2.1) :=
  ⟨hJ.snd i f hi hf, fun h => (fix_com hJ hC hf h).2 rfl⟩

/-! how it begins -/
def iniW (law : LawT) (first : Int) (i : Nat) : Int := if bt first i = true then law.2.2.2.2.1 else if law.2.1 = true then 255 else 0
theorem solve_l2 (hL : LawK law n) (hN : NxK nx n) (hf : 100 ≤ nf) {first : Int} (hw : W32 first) (h1 : ∀ i, fs i ↔ bt first i = true) (h2 : ∀ i, fs i → i < n) :
    ∃ so, (∃ come, FJ law nx fs n so come ∧ Closed law nx so come) ∧ fact_Solve_l2 nf law nf nx law first (List.replicate n 0) first (n : Int) 0 = some (so, 0, ()) := by
  have h8 := hL.few
  obtain ⟨fu', s, ⟨s1, s2, s3, s4, s5, s6, s7⟩, e⟩ := loop_inv (n := (n : Int)) (F := fun fu t (s : List (List Int) × LawT × Int × List Int × Int × Int) => fact_Solve_l2 nf law fu s.1 s.2.1 s.2.2.1 s.2.2.2.1 s.2.2.2.2.1 s.2.2.2.2.2 t)
    (fun t s => s.1 = nx ∧ s.2.1 = law ∧ s.2.2.1 = first ∧ s.2.2.2.2.1 = first ∧ s.2.2.2.2.2 = (n : Int) ∧ s.2.2.2.1.length = n ∧ ∀ i : Nat, i < n → s.2.2.2.1.getD i 0 = if (i : Int) < t then iniW law first i else 0) (fun fu t s t0 t1 hI => by
      obtain ⟨a, lw, fi, so, co, m⟩ := s
      obtain ⟨i1, i2, i3, i4, i5, i6, i7⟩ := hI
      simp only at i1 i2 i3 i4 i5 i6 i7
      subst i1 i2 i3 i4 i5
      have hsl : t < (so.length : Int) := by omega
      have hw1 : IntKind.i64.wrap (t + 1) = t + 1 := wrap_nn (by omega) (by omega)
      refine ⟨(a, lw, co, so.set t.toNat (iniW lw co t.toNat), co, (n : Int)), ?_, rfl, rfl, rfl, rfl, rfl, by simp only [List.length_set]; exact i6, fun i hi => ?_⟩
      · simp only
        rw [fact_Solve_l2, fact_Solve_b2, inb_ok t0 hsl, hw1]
        simp only [t1, t0, decide_true, cond_true, f_and, shr_and_beq1 hw t0 (by omega : t < 32), List.set_set]
        unfold iniW
        have hz : so.getD t.toNat 0 = 0 := by rw [i7 t.toNat (by omega), if_neg (by omega)]
        have hsame : so.set t.toNat 0 = so := by
          have ht : t.toNat < so.length := by omega
          have : so[t.toNat] = 0 := by rw [← hz]; simp [List.getD, ht]
          conv => lhs; rw [← this]
          exact List.set_getElem_self ht
        cases lw.2.1 with
        | true =>
          cases bt co t.toNat with
          | true => simp only [cond_true, if_true]; rw [inb_ok t0 (by rw [List.length_set]; exact hsl)]; rfl
          | false => rfl
        | false =>
          cases bt co t.toNat with
          | true => rfl
          | false => simp only [cond_false, Bool.false_eq_true, if_false, hsame]
      · simp only
        rw [getD_upd (by omega)]
        by_cases hit : i = t.toNat
        · rw [if_pos hit, if_pos (by omega), hit]
        · rw [if_neg hit, i7 i hi]
          by_cases h : (i : Int) < t
          · rw [if_pos h, if_pos (by omega)]
          · rw [if_neg h, if_neg (by omega)]) nf 0 (nx, law, first, List.replicate n 0, first, (n : Int)) (by omega) (by omega) (by omega) ⟨rfl, rfl, rfl, rfl, rfl, by simp, fun i hi => by simp [List.getD, hi]; omega⟩
  obtain ⟨a, lw, fi, so, co, m⟩ := s
  simp only at s1 s2 s3 s4 s5 s6 s7 e
  subst s1 s2 s3 s4 s5
  have hgd : ∀ i : Nat, i < n → so.getD i 0 = iniW lw co i := fun i hi => by rw [s7 i hi, if_pos (by omega)]
  have h255 : ∀ f, f < 8 → bt 255 f = true := by decide
  have hJ : FJ lw a fs n so co := by
    refine ⟨s6, fun i => ?_, hw, fun j hj => ⟨h2 j ((h1 j).2 hj), fun f => ⟨_, RP.here ((h1 j).2 hj)⟩⟩, fun j f hj hf h => ?_, fun i hi => ⟨(h1 i).1 hi, fun f hf h => ?_⟩⟩
    · by_cases hi : i < n
      · rw [hgd i hi]
        unfold iniW
        split
        · exact hL.st
        · split
          · exact b8_of (by decide) (by decide)
          · exact b8_zero
      · have : so.getD i 0 = 0 := by simp [List.getD, s6, hi]
        rw [this]; exact b8_zero
    · rw [hgd j hj] at h
      unfold iniW at h
      by_cases hb : bt co j = true
      · rw [if_pos hb] at h
        rw [← h]; exact RP.here ((h1 j).2 hb)
      · rw [if_neg hb] at h
        exfalso
        cases hA : lw.2.1 with
        | true => rw [hA, if_pos rfl, h255 f hf] at h; cases h
        | false => rw [hA, if_neg (by simp), bt_zero] at h; cases h
    · rw [hgd i (h2 i hi)]
      unfold iniW
      rw [if_pos ((h1 i).1 hi)]; exact h
  obtain ⟨so', come', x, y, z⟩ := solve_l4 hL hN hf 72 nf so co hJ (by omega) (by omega)
  refine ⟨so', ⟨come', x, y⟩, ?_⟩
  rw [e, fact_Solve_l2, fact_Solve_b2]
  simp only [Int.lt_irrefl, decide_false, cond_false]
  exact z

def nxOf (law : LawT) (next : List (List Int)) : List (List Int) := if law.1 = true then turnL next else next
def fsOf (law : LawT) (next : List (List Int)) (i : Nat) : Prop := if law.1 = true then i < next.length ∧ next.getD i [] = [] else i = 0
theorem lawK_of (hl : lawC next law = 0) (h0 : ∀ x ∈ law.2.2.1 ++ law.2.2.2.1 ++ [law.2.2.2.2.1], 0 ≤ x) : LawK law next.length := by
  obtain ⟨hW, l1, l2, hs⟩ := lawC_ok hl
  have hb : ∀ x ∈ law.2.2.1 ++ law.2.2.2.1 ++ [law.2.2.2.2.1], B8 x := fun x hx => b8_of (h0 x hx) (hs x hx)
  have hg : ∀ (l : List Int), (∀ x ∈ l, B8 x) → ∀ i : Nat, B8 (l.getD i 0) := fun l h i => by
    by_cases hi : i < l.length
    · have : l.getD i 0 = l[i] := by simp [List.getD, hi]
      rw [this]; exact h _ (List.getElem_mem hi)
    · have : l.getD i 0 = 0 := by simp [List.getD, hi]
      rw [this]; exact b8_zero
  exact ⟨hW.pos, hW.few, l1, l2, hg _ fun x hx => hb x (by simp [hx]), hg _ fun x hx => hb x (by simp [hx]), hb _ (by simp)⟩
theorem nxK_of (hW : WayOK next) : NxK (nxOf law next) next.length := by
  have h8 := hW.few
  unfold nxOf
  split
  · have := turnTo_tok hW next.length
    refine ⟨this.len, fun i => Nat.le_trans (this.get i) (by omega), fun i j hj => ?_⟩
    have := (turnTo_mem hW next.length i j).1 hj
    exact ⟨this.1, this.2.1⟩
  · exact ⟨rfl, fun i => Nat.le_trans (nx_len hW i) (by omega), fun i j hj => nx_in hW i j hj⟩

theorem solve_F (hl : lawC next law = 0) (h0 : ∀ x ∈ law.2.2.1 ++ law.2.2.2.1 ++ [law.2.2.2.2.1], 0 ≤ x) (hf : 200 ≤ nf) :
    ∃ so, fact_Solve_f nf next law = some (so, 0, ()) ∧ so.length = next.length ∧ (∀ i : Nat, B8 (so.getD i 0)) ∧ ∀ i f : Nat, i < next.length → f < 8 → (bt (so.getD i 0) f = (!law.2.1) ↔ RP law (nxOf law next) (fsOf law next) f i (!law.2.1)) := by
  obtain ⟨hW, l1, l2, hs⟩ := lawC_ok hl
  have hL := lawK_of hl h0
  have hN := nxK_of (law := law) hW
  have h8 := hW.few
  have hp := hW.pos
  simp only [fact_Solve_f, fact_Solve_p]
  rw [fwrong_F (by omega) law, hl]
  simp only [Option.bind_some, bne_self_eq_false, cond_false]
  have fin : ∀ {first : Int}, W32 first → (∀ i, fsOf law next i ↔ bt first i = true) → (∀ i, fsOf law next i → i < next.length) → ∀ {r : Option (List Int × Int × Unit)}, r = fact_Solve_l2 nf law nf (nxOf law next) law first (List.replicate next.length 0) first (next.length : Int) 0 →
      ∃ so, r = some (so, 0, ()) ∧ so.length = next.length ∧ (∀ i : Nat, B8 (so.getD i 0)) ∧ ∀ i f : Nat, i < next.length → f < 8 → (bt (so.getD i 0) f = (!law.2.1) ↔ RP law (nxOf law next) (fsOf law next) f i (!law.2.1)) := by
    intro first hw h1 h2 r hr
    obtain ⟨so, ⟨come, a, b⟩, c⟩ := solve_l2 (nf := nf) hL hN (by omega) hw h1 h2
    exact ⟨so, hr.trans c, a.len, a.wd, fun i f hi hf => fix_iff a b hf hi⟩
  have hlim : ((next.length : Int) ≤ ((lim : Nat) : Int)) := by unfold lim; omega
  cases hB : law.1 with
  | false =>
    have e1 : nxOf law next = next := by unfold nxOf; rw [hB]; rfl
    have e2 : fsOf law next = fun i => i = 0 := by funext i; unfold fsOf; rw [hB]; simp
    refine fin W32_one (fun i => ?_) (fun i hi => ?_) ?_
    · rw [e2, bt_one]; simp
    · rw [e2] at hi; have hi : i = 0 := hi; omega
    · rw [e1]
      simp only [cond_false, Int.natCast_nonneg, Int.le_refl, hlim, decide_true, Bool.and_self, cond_true, Int.toNat_natCast, List.length_replicate]
  | true =>
    have e1 : nxOf law next = turnL next := by unfold nxOf; rw [hB]; rfl
    have e2 : fsOf law next = fun i => i < next.length ∧ next.getD i [] = [] := by funext i; unfold fsOf; rw [hB]; simp
    obtain ⟨fu', s, ⟨s1, s2, s3⟩, e⟩ := loop_inv (n := (next.length : Int)) (F := fun fu t (s : LawT × Int) => fact_Solve_l0 nf next law fu s.1 s.2 t) (fun t s => s.1 = law ∧ W32 s.2 ∧ ∀ i : Nat, bt s.2 i = true ↔ (i : Int) < t ∧ next.getD i [] = []) (fun fu t s t0 t1 hI => by
      obtain ⟨lw, fi⟩ := s
      obtain ⟨i1, i2, i3⟩ := hI
      simp only at i1 i2 i3
      subst i1
      have hw1 : IntKind.i64.wrap (t + 1) = t + 1 := wrap_nn (by omega) (by omega)
      by_cases hnil : next.getD t.toNat [] = []
      · refine ⟨(lw, or32 fi (shlI .u32 1 t)), ?_, rfl, or32_w _ _, fun i => ?_⟩
        · simp only
          rw [fact_Solve_l0, fact_Solve_b0, inb_ok t0 t1, hw1, hnil]
          simp only [t1, t0, decide_true, cond_true, List.length_nil, f_or]
          rfl
        · simp only
          rw [or32_bt i2 (one_w t0 (by omega)), one_bt t0 (by omega), Bool.or_eq_true, i3, decide_eq_true_eq]
          constructor
          · rintro (⟨a, b⟩ | rfl)
            · exact ⟨by omega, b⟩
            · exact ⟨by omega, hnil⟩
          · rintro ⟨a, b⟩
            by_cases h : (i : Int) < t
            · exact .inl ⟨h, b⟩
            · exact .inr (by omega)
      · refine ⟨(lw, fi), ?_, rfl, i2, fun i => ?_⟩
        · simp only
          have hl0 : ((next.getD t.toNat []).length : Int) ≠ 0 := fun h => hnil (List.length_eq_zero_iff.1 (by omega))
          rw [fact_Solve_l0, fact_Solve_b0, inb_ok t0 t1, hw1, beq_f hl0]
          simp only [t1, decide_true, cond_true, cond_false]
        · simp only
          rw [i3]
          constructor
          · rintro ⟨a, b⟩; exact ⟨by omega, b⟩
          · rintro ⟨a, b⟩
            refine ⟨?_, b⟩
            by_cases h : (i : Int) < t
            · exact h
            · exfalso
              have : i = t.toNat := by omega
              rw [this] at b; exact hnil b) nf 0 (law, 0) (by omega) (by omega) (by omega) ⟨rfl, W32_zero, fun i => ⟨fun h => (by rw [bt_zero] at h; cases h), fun h => absurd h.1 (by omega)⟩⟩
    obtain ⟨lw, fi⟩ := s
    simp only at s1 s2 s3 e
    subst s1
    have hlT : (turnL next).length = next.length := (turnTo_tok hW next.length).len
    refine fin s2 (fun i => ?_) (fun i hi => ?_) ?_
    · rw [e2, s3]
      exact ⟨fun h => ⟨by omega, h.2⟩, fun h => ⟨by omega, h.2⟩⟩
    · rw [e2] at hi; exact hi.1
    · rw [cond_true, e, fact_Solve_l0, fact_Solve_b0, fturn_F hW (by omega)]
      simp only [Int.lt_irrefl, decide_false, cond_false, Option.bind_some, hlT, Int.natCast_nonneg, Int.le_refl, hlim, decide_true, Bool.and_self, cond_true, Int.toNat_natCast, List.length_replicate, e1]
end Go.Proofs.Ytoglkjmdloppcaa
