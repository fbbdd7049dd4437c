/- point.Within and the document's answer agree. -/
import Derived.Test.YtmndifhjmbiodaaPts
namespace Go.Proofs.Ytmndifhjmbiodaa
open Go Go.Ab S

abbrev K2 : Ty := .pair (.int .i64) (.pair (.int .i64) .unit)
theorem flatK2 : flat K2 = true := rfl
abbrev Fac := List ((Int × Int × Unit) × Bool)
def relM (t : Fac) : Rel := fun a b => (getM K2 .bool t (a, b, ())).getD false
theorem relM_ins (t : Fac) (a b i j : Int) : relM (insM K2 .bool t (a, b, ()) true) i j = (relM t i j || (decide (i = a) && decide (j = b))) := by
  unfold relM
  rw [getM_ins flatK2]
  cases he : eqD K2 (a, b, ()) (i, j, ()) with
  | true =>
    have := eqD_eq K2 _ _ flatK2 he
    simp only [Prod.mk.injEq, and_true] at this
    obtain ⟨rfl, rfl⟩ := this
    simp
  | false =>
    have : ¬ (i = a ∧ j = b) := fun ⟨h1, h2⟩ => by
      subst h1; subst h2
      rw [eqD_refl K2 _ flatK2] at he; cases he
    have : (decide (i = a) && decide (j = b)) = false := by
      cases h1 : decide (i = a) with
      | false => rfl
      | true => cases h2 : decide (j = b) with
        | false => rfl
        | true => exact absurd ⟨of_decide_eq_true h1, of_decide_eq_true h2⟩ this
    rw [this, Bool.or_false]

/-- a step that tells whether it added something -/
structure SpF (l : List Stm) (C : Rel → Prop) (R : Rel) (m : Bool) (S : Rel) (m' : Bool) : Prop where
  sp : Sp l C R S
  flag : m' = false → m = false ∧ R = S
  grow : m' = true → m = true ∨ R ≠ S

theorem SpF.trans {l : List Stm} {C D : Rel → Prop} {R S T : Rel} {m n k : Bool} (h1 : SpF l C R m S n) (h2 : SpF l D S n T k) : SpF l (fun R => C R ∧ D R) R m T k :=
  ⟨h1.sp.trans h2.sp, fun h => by
    obtain ⟨a, b⟩ := h2.flag h
    obtain ⟨c, d⟩ := h1.flag a
    exact ⟨c, d.trans b⟩, fun h => by
    rcases h2.grow h with a | a
    · rcases h1.grow a with b | b
      · exact .inl b
      · exact .inr fun e => b (h1.sp.le.antisymm (by rw [e]; exact h2.sp.le))
    · exact .inr fun e => a (h2.sp.le.antisymm (by rw [← e]; exact h1.sp.le))⟩
theorem SpF.weak {l : List Stm} {C D : Rel → Prop} {R S : Rel} {m n : Bool} (h : SpF l C R m S n) (hd : C R → D R) : SpF l D R m S n := ⟨⟨h.sp.le, h.sp.snd, fun e => hd (h.sp.cl e)⟩, h.flag, h.grow⟩
theorem SpF.same {l : List Stm} {C : Rel → Prop} {R : Rel} {m : Bool} (h : C R) : SpF l C R m R m := ⟨Sp.same h, fun h => ⟨h, rfl⟩, .inl⟩

/-- a fact is added -/
theorem add_F {nf : Nat} {l : List Stm} (t : Fac) (m : Bool) (a b : Int) (hs : Snd l (relM t) → Pts l a b) : ∃ t' m', ref_Within_1_f nf a b t m = some (some t', some m', ()) ∧ SpF l (fun R => R a b = true) (relM t) m (relM t') m' := by
  simp only [ref_Within_1_f, ref_Within_1_p]
  cases h : (getM K2 .bool t (a, b, ())).getD false with
  | true =>
    exact ⟨t, m, rfl, SpF.same h⟩
  | false =>
    refine ⟨insM K2 .bool t (a, b, ()) true, true, rfl, ⟨⟨fun i j hij => by rw [relM_ins, hij]; rfl, fun hsn i j hij => ?_, fun e => ?_⟩, fun h => by (cases h), fun _ => .inr fun e => ?_⟩⟩
    · rw [relM_ins] at hij
      rcases Bool.or_eq_true _ _ |>.mp hij with h2 | h2
      · exact hsn i j h2
      · simp only [Bool.and_eq_true, decide_eq_true_eq] at h2
        obtain ⟨rfl, rfl⟩ := h2
        exact hs hsn
    · rw [e, relM_ins]; simp
    · have := congrFun (congrFun e a) b
      rw [relM_ins] at this
      have h' : relM t a b = false := h
      rw [h'] at this
      simp at this

def C6 (vars : Int) (p : Stm) (x : Int) (y0 : Int) (R : Rel) : Prop :=
  (p.1 = 3 → ∀ y, y0 ≤ y → y < vars → R p.2.2.1 x = true → R x y = true → R p.2.1 y = true) ∧
  (p.1 = 4 → ∀ y, y0 ≤ y → y < vars → R p.2.1 x = true → R p.2.2.1 y = true → R x y = true)

theorem ref_l6 {nf : Nat} {vars : Int} {l : List Stm} (hv : vars ≤ 8) {x t21 : Int} {g4 : Fac → Bool → Stm → Int → Option (List Int × Unit)} {g2 : Fac → Bool → Int → Option (List Int × Unit)} {g0 : Fac → Bool → Option (List Int × Unit)} {p : Stm} (hp : p ∈ l) (h14 : 1 ≤ p.1 ∧ p.1 ≤ 4) :
    ∀ (fu : Nat) (y : Int) (t : Fac) (m : Bool), 0 ≤ y → y ≤ vars → vars - y < fu → ∃ t' m', ref_Within_l6 nf vars l x t21 g4 g2 g0 fu t m p y = g4 t' m' p (IntKind.i64.wrap (x + 1)) ∧ SpF l (C6 vars p x y) (relM t) m (relM t') m'
  | 0, y, _, _, _, _, h => by omega
  | fu + 1, y, t, m, h0, h1, hf => by
    rw [ref_Within_l6, ref_Within_b6]
    by_cases hy : y < vars
    · have hw : IntKind.i64.wrap (y + 1) = y + 1 := Go.IntWalk.i64_in _ (by omega)
      have ih := fun t m => ref_l6 (l := l) (x := x) (t21 := t21) (g4 := g4) (g2 := g2) (g0 := g0) (nf := nf) hv hp h14 fu (y + 1) t m (by omega) (by omega) (by omega)
      have next : ∀ t1 m1, SpF l (fun R => (p.1 = 3 → R p.2.2.1 x = true → R x y = true → R p.2.1 y = true) ∧ (p.1 = 4 → R p.2.1 x = true → R p.2.2.1 y = true → R x y = true)) (relM t) m (relM t1) m1 →
          ∃ t' m', ref_Within_l6 nf vars l x t21 g4 g2 g0 fu t1 m1 p (y + 1) = g4 t' m' p (IntKind.i64.wrap (x + 1)) ∧ SpF l (C6 vars p x y) (relM t) m (relM t') m' := fun t1 m1 h => by
        obtain ⟨t', m', e, e1⟩ := ih t1 m1
        refine ⟨t', m', e, (h.trans e1).weak fun ⟨c1, c2⟩ => ⟨fun o z hz hz' => ?_, fun o z hz hz' => ?_⟩⟩
        · by_cases hzy : z = y
          · subst hzy; exact c1.1 o
          · exact c2.1 o z (by omega) hz'
        · by_cases hzy : z = y
          · subst hzy; exact c1.2 o
          · exact c2.2 o z (by omega) hz'
      have gm : ∀ (t : Fac) (a b : Int), (getM ((Ty.int .i64).pair ((Ty.int .i64).pair Ty.unit)) Ty.bool t (a, b, ())).getD false = relM t a b := fun _ _ _ => rfl
      simp only [hy, decide_true, cond_true, hw, gm]
      by_cases o3 : p.1 = 3
      · have hpe : p = (3, p.2.1, p.2.2.1, ()) := by rw [← o3]
        simp only [o3, beq_self_eq_true, cond_true, show ((3 : Int) == 4) = false from rfl, cond_false]
        cases hb : relM t p.2.2.1 x with
        | true =>
          cases hc : relM t x y with
          | true =>
            obtain ⟨t1, m1, e, e1⟩ := add_F (nf := nf) (l := l) t m p.2.1 y fun hs => .load (a := p.2.1) (b := p.2.2.1) (by rw [← hpe]; exact hp) (hs _ _ hb) (hs _ _ hc)
            simp only [cond_true]
            rw [e]
            exact next t1 m1 (e1.weak fun c => ⟨fun _ _ _ => c, fun h => by omega⟩)
          | false => exact next t m (SpF.same ⟨fun _ _ h => absurd h (by rw [hc]; simp), fun h => by omega⟩)
        | false => exact next t m (SpF.same ⟨fun _ h => absurd h (by rw [hb]; simp), fun h => by omega⟩)
      · by_cases o4 : p.1 = 4
        · have hpe : p = (4, p.2.1, p.2.2.1, ()) := by rw [← o4]
          simp only [o4, beq_self_eq_true, cond_true, show ((4 : Int) == 3) = false from rfl, cond_false]
          cases hb : relM t p.2.1 x with
          | true =>
            cases hc : relM t p.2.2.1 y with
            | true =>
              obtain ⟨t1, m1, e, e1⟩ := add_F (nf := nf) (l := l) t m x y fun hs => .store (a := p.2.1) (b := p.2.2.1) (by rw [← hpe]; exact hp) (hs _ _ hb) (hs _ _ hc)
              simp only [cond_true]
              rw [e]
              exact next t1 m1 (e1.weak fun c => ⟨fun h => by omega, fun _ _ _ => c⟩)
            | false => exact next t m (SpF.same ⟨fun h => by omega, fun _ _ h => absurd h (by rw [hc]; simp)⟩)
          | false => exact next t m (SpF.same ⟨fun h => by omega, fun _ h => absurd h (by rw [hb]; simp)⟩)
        · simp only [beq_f o3, beq_f o4, cond_false]
          exact next t m (SpF.same ⟨fun h => absurd h o3, fun h => absurd h o4⟩)
    · refine ⟨t, m, ?_, SpF.same ⟨fun _ y _ _ => by omega, fun _ y _ _ => by omega⟩⟩
      simp only [hy, decide_false, cond_false]

def C4 (vars : Int) (p : Stm) (x0 : Int) (R : Rel) : Prop :=
  (p.1 = 2 → ∀ x, x0 ≤ x → x < vars → R p.2.2.1 x = true → R p.2.1 x = true) ∧ ∀ x, x0 ≤ x → x < vars → C6 vars p x 0 R

theorem ref_l4 {nf : Nat} {vars : Int} {l : List Stm} (hn : 20 ≤ nf) (hv0 : 0 ≤ vars) (hv : vars ≤ 8) {t21 : Int} {g2 : Fac → Bool → Int → Option (List Int × Unit)} {g0 : Fac → Bool → Option (List Int × Unit)} {p : Stm} (hp : p ∈ l) (h14 : 1 ≤ p.1 ∧ p.1 ≤ 4) :
    ∀ (fu : Nat) (x : Int) (t : Fac) (m : Bool), 0 ≤ x → x ≤ vars → vars - x < fu → ∃ t' m', ref_Within_l4 nf vars l t21 g2 g0 fu t m p x = g2 t' m' (IntKind.i64.wrap (t21 + 1)) ∧ SpF l (C4 vars p x) (relM t) m (relM t') m'
  | 0, x, _, _, _, _, h => by omega
  | fu + 1, x, t, m, h0, h1, hf => by
    rw [ref_Within_l4, ref_Within_b4]
    by_cases hx : x < vars
    · have hw : IntKind.i64.wrap (x + 1) = x + 1 := Go.IntWalk.i64_in _ (by omega)
      have next : ∀ t1 m1, SpF l (fun R => p.1 = 2 → R p.2.2.1 x = true → R p.2.1 x = true) (relM t) m (relM t1) m1 →
          ∃ t' m', ref_Within_l6 nf vars l x t21 (fun t3 more3 p x => ref_Within_l4 nf vars l t21 g2 g0 fu t3 more3 p x) g2 g0 nf t1 m1 p 0 = g2 t' m' (IntKind.i64.wrap (t21 + 1)) ∧ SpF l (C4 vars p x) (relM t) m (relM t') m' := fun t1 m1 h => by
        obtain ⟨t2, m2, e, e1⟩ := ref_l6 (l := l) (x := x) (t21 := t21) (g4 := fun t3 more3 p x => ref_Within_l4 nf vars l t21 g2 g0 fu t3 more3 p x) (g2 := g2) (g0 := g0) (nf := nf) hv hp h14 nf 0 t1 m1 (by omega) (by omega) (by omega)
        obtain ⟨t3, m3, f, f1⟩ := ref_l4 (l := l) (t21 := t21) (g2 := g2) (g0 := g0) (nf := nf) hn hv0 hv hp h14 fu (x + 1) t2 m2 (by omega) (by omega) (by omega)
        refine ⟨t3, m3, by rw [e, hw]; exact f, ((h.trans e1).trans f1).weak fun ⟨⟨c1, c2⟩, c3⟩ => ⟨fun o z hz hz' => ?_, fun z hz hz' => ?_⟩⟩
        · by_cases hzx : z = x
          · subst hzx; exact c1 o
          · exact c3.1 o z (by omega) hz'
        · by_cases hzx : z = x
          · subst hzx; exact c2
          · exact c3.2 z (by omega) hz'
      have gm : ∀ (t : Fac) (a b : Int), (getM ((Ty.int .i64).pair ((Ty.int .i64).pair Ty.unit)) Ty.bool t (a, b, ())).getD false = relM t a b := fun _ _ _ => rfl
      simp only [hx, decide_true, cond_true, gm]
      by_cases o2 : p.1 = 2
      · have hpe : p = (2, p.2.1, p.2.2.1, ()) := by rw [← o2]
        simp only [o2, beq_self_eq_true, cond_true]
        cases hb : relM t p.2.2.1 x with
        | true =>
          obtain ⟨t1, m1, e, e1⟩ := add_F (nf := nf) (l := l) t m p.2.1 x fun hs => .copy (b := p.2.2.1) (by rw [← hpe]; exact hp) (hs _ _ hb)
          simp only [cond_true]
          rw [e]
          exact next t1 m1 (e1.weak fun c _ _ => c)
        | false => exact next t m (SpF.same fun _ h => absurd h (by rw [hb]; simp))
      · simp only [beq_f o2, cond_false]
        exact next t m (SpF.same fun h => absurd h o2)
    · refine ⟨t, m, ?_, SpF.same ⟨fun _ y _ _ => by omega, fun y _ _ => by omega⟩⟩
      simp only [hx, decide_false, cond_false]

theorem ref_l2 {nf : Nat} {vars : Int} {l : List Stm} (hn : 20 ≤ nf) (hv0 : 0 ≤ vars) (hv : vars ≤ 8) (hl : l.length ≤ 12) (hg : Good vars l) {g0 : Fac → Bool → Option (List Int × Unit)} :
    ∀ (fu i : Nat) (t : Fac) (m : Bool), i ≤ l.length → l.length - i < fu → ∃ t' m', ref_Within_l2 nf vars l g0 fu t m i = g0 t' m' ∧ SpF l (fun R => ∀ k, i ≤ k → k < l.length → Cl vars (l.getD k (0, 0, 0, ())) R) (relM t) m (relM t') m'
  | 0, i, _, _, _, h => by omega
  | fu + 1, i, t, m, h0, hf => by
    rw [ref_Within_l2, ref_Within_b2]
    by_cases ht : i < l.length
    · have hw : IntKind.i64.wrap ((i : Int) + 1) = ((i + 1 : Nat) : Int) := by rw [Go.IntWalk.i64_in _ (by omega)]; rfl
      have hb : inb (i : Int) l.length = true := inb_ok (by omega) (by omega)
      have hp : l.getD i (0, 0, 0, ()) ∈ l := by have := getD_mem (l := l) (t := (i : Int)) (d := (0, 0, 0, ())) (by omega) (by omega); simpa using this
      obtain ⟨q1, q2, _⟩ := hg _ hp
      have next : ∀ t1 m1, SpF l (fun R => (l.getD i (0, 0, 0, ())).1 = 1 → R (l.getD i (0, 0, 0, ())).2.1 (l.getD i (0, 0, 0, ())).2.2.1 = true) (relM t) m (relM t1) m1 →
          ∃ t' m', ref_Within_l4 nf vars l i (fun t2 more2 t21 => ref_Within_l2 nf vars l g0 fu t2 more2 t21) g0 nf t1 m1 (l.getD i (0, 0, 0, ())) 0 = g0 t' m' ∧ SpF l (fun R => ∀ k, i ≤ k → k < l.length → Cl vars (l.getD k (0, 0, 0, ())) R) (relM t) m (relM t') m' := fun t1 m1 h => by
        obtain ⟨t2, m2, e, e1⟩ := ref_l4 (l := l) (t21 := (i : Int)) (g2 := fun t2 more2 t21 => ref_Within_l2 nf vars l g0 fu t2 more2 t21) (g0 := g0) (nf := nf) hn hv0 hv hp ⟨q1, q2⟩ nf 0 t1 m1 (by omega) (by omega) (by omega)
        obtain ⟨t3, m3, f, f1⟩ := ref_l2 (l := l) (g0 := g0) (nf := nf) hn hv0 hv hl hg fu (i + 1) t2 m2 (by omega) (by omega)
        refine ⟨t3, m3, by rw [e, hw]; exact f, ((h.trans e1).trans f1).weak fun ⟨⟨c1, c2⟩, c3⟩ k hk hk' => ?_⟩
        by_cases hki : k = i
        · subst hki
          exact ⟨c1, fun o x hx hx' => c2.1 o x hx hx', fun o x y hx hx' hy hy' => (c2.2 x hx hx').1 o y hy hy', fun o x y hx hx' hy hy' => (c2.2 x hx hx').2 o y hy hy'⟩
        · exact c3 k (by omega) hk'
      simp only [show (i : Int) < (l.length : Int) by omega, decide_true, cond_true, hb, Int.toNat_natCast]
      by_cases o1 : (l.getD i (0, 0, 0, ())).1 = 1
      · simp only [o1, beq_self_eq_true, cond_true]
        obtain ⟨t1, m1, e, e1⟩ := add_F (nf := nf) (l := l) t m (l.getD i (0, 0, 0, ())).2.1 (l.getD i (0, 0, 0, ())).2.2.1 fun _ => .addr (by rw [← o1]; exact hp)
        rw [e]
        exact next t1 m1 (e1.weak fun c _ => c)
      · simp only [beq_f o1, cond_false]
        exact next t m (SpF.same fun h => absurd h o1)
    · refine ⟨t, m, ?_, SpF.same fun k h1 h2 => by omega⟩
      simp only [show ¬ (i : Int) < (l.length : Int) by omega, decide_false, cond_false]

/-- the word of what one may point to -/
theorem ref_l10 {nf : Nat} {vars : Int} (hv : vars ≤ 8) {a : Int} {g8 : Fac → List Int → Int → Option (List Int × Unit)} {t : Fac} {out : List Int} (ho : out.length ≤ 16) : ∀ (fu : Nat) (b s : Int), 0 ≤ b → b ≤ vars → vars - b < fu → W32 s → (∀ k : Nat, bt s k = (decide ((k : Int) < b) && relM t a k)) →
    ∃ w, ref_Within_l10 nf vars a g8 fu t out s b = g8 t (out ++ [w]) (IntKind.i64.wrap (a + 1)) ∧ W32 w ∧ ∀ k : Nat, bt w k = (decide ((k : Int) < vars) && relM t a k)
  | 0, b, s, _, _, h, _, _ => by omega
  | fu + 1, b, s, h0, h1, hf, hs, hb => by
    rw [ref_Within_l10, ref_Within_b10]
    by_cases hbv : b < vars
    · have hw : IntKind.i64.wrap (b + 1) = b + 1 := Go.IntWalk.i64_in _ (by omega)
      have gm : (getM ((Ty.int .i64).pair ((Ty.int .i64).pair Ty.unit)) Ty.bool t (a, b, ())).getD false = relM t a b := rfl
      simp only [hbv, decide_true, cond_true, gm, hw, wrap_u64 h0 (by omega), h0]
      cases hr : relM t a b with
      | true =>
        simp only [cond_true]
        have hz : ∀ k : Nat, b ≤ k → bt s k = false := fun k hk => by rw [hb, show decide ((k : Int) < b) = false from decide_eq_false (by omega)]; rfl
        rw [add_bit hs h0 (by omega) hz]
        refine ref_l10 hv ho fu (b + 1) _ (by omega) (by omega) (by omega) (or32_w _ _) fun k => ?_
        rw [or32_bt hs (one_w h0 (by omega)), one_bt h0 (by omega), hb]
        by_cases hk : k = b.toNat
        · have : (k : Int) = b := by omega
          simp [hk, show ((b.toNat : Nat) : Int) = b by omega, hr, show b < b + 1 by omega]
        · by_cases hkb : (k : Int) < b
          · simp [hk, hkb, show (k : Int) < b + 1 by omega]
          · simp [hk, hkb, show ¬ (k : Int) < b + 1 by omega]
      | false =>
        simp only [cond_false]
        refine ref_l10 hv ho fu (b + 1) s (by omega) (by omega) (by omega) hs fun k => ?_
        rw [hb]
        by_cases hkb : (k : Int) = b
        · rw [hkb, hr]; simp
        · by_cases hkb' : (k : Int) < b
          · simp [hkb', show (k : Int) < b + 1 by omega]
          · simp [hkb', show ¬ (k : Int) < b + 1 by omega]
    · have : b = vars := by omega
      subst this
      have fit : (bimp false (!List.isEmpty [s]) && Nat.ble (out.length + [s].length) lim) = true := by rw [ble_ok (by simp; omega)]; rfl
      refine ⟨s, ?_, hs, hb⟩
      simp only [Int.lt_irrefl, decide_false, cond_false, fit, cond_true]

theorem ref_l8 {nf : Nat} {vars : Int} (hn : 20 ≤ nf) (hv0 : 0 ≤ vars) (hv : vars ≤ 8) {t : Fac} : ∀ (fu a : Nat) (out : List Int), (a : Int) ≤ vars → vars - a < fu → out.length = a → (∀ x ∈ out, W32 x) → (∀ j : Nat, j < a → ∀ k : Nat, bt (out.getD j 0) k = (decide ((k : Int) < vars) && relM t j k)) →
    ∃ o, ref_Within_l8 nf vars fu t out a = some (o, ()) ∧ WOK vars o ∧ ∀ j : Nat, (j : Int) < vars → ∀ k : Nat, bt (o.getD j 0) k = (decide ((k : Int) < vars) && relM t j k)
  | 0, a, _, _, h, _, _, _ => by omega
  | fu + 1, a, out, h0, hf, hl, hW, hb => by
    rw [ref_Within_l8, ref_Within_b8]
    by_cases ha : (a : Int) < vars
    · have hw : IntKind.i64.wrap ((a : Int) + 1) = ((a + 1 : Nat) : Int) := by rw [Go.IntWalk.i64_in _ (by omega)]; rfl
      obtain ⟨w, e, e1, e2⟩ := ref_l10 (nf := nf) (a := (a : Int)) (g8 := fun t5 out a => ref_Within_l8 nf vars fu t5 out a) (t := t) (out := out) hv (by omega) nf 0 0 (by omega) (by omega) (by omega) W32_zero (fun k => by rw [bt_zero, show decide ((k : Int) < 0) = false from decide_eq_false (by omega)]; rfl)
      simp only [ha, decide_true, cond_true]
      rw [e, hw]
      refine ref_l8 hn hv0 hv fu (a + 1) _ (by omega) (by omega) (by simp [hl]) (fun x hx => ?_) fun j hj k => ?_
      · rcases List.mem_append.1 hx with hx | hx
        · exact hW x hx
        · simp only [List.mem_singleton] at hx; subst hx; exact e1
      · by_cases hja : j < a
        · rw [List.getD_eq_getElem?_getD, List.getElem?_append_left (by omega), ← List.getD_eq_getElem?_getD]; exact hb j hja k
        · have : j = out.length := by omega
          rw [List.getD_eq_getElem?_getD, this, List.getElem?_append_right (Nat.le_refl _)]
          simp only [Nat.sub_self, List.getElem?_cons_zero, Option.getD_some]
          rw [e2 k, hl]
    · refine ⟨out, ?_, ⟨by omega, hW⟩, fun j hj k => hb j (by omega) k⟩
      simp only [ha, decide_false, cond_false]

theorem ref_l0 {nf : Nat} {vars : Int} {l : List Stm} (hn : 100 ≤ nf) (hv0 : 0 ≤ vars) (hv : vars ≤ 8) (hl : l.length ≤ 12) (hg : Good vars l) :
    ∀ (fu : Nat) (t : Fac), Snd l (relM t) → 66 - many (relM t) ≤ fu → ∃ o, ref_Within_l0 nf vars l fu t true = some (o, ()) ∧ WOK vars o ∧ ∀ j : Nat, (j : Int) < vars → ∀ k : Nat, bt (o.getD j 0) k = true ↔ Pts l j k
  | 0, t, _, h => by have := many_le (relM t); omega
  | fu + 1, t, hs, hf => by
    have hm := many_le (relM t)
    rw [ref_Within_l0, ref_Within_b0]
    obtain ⟨t1, m1, e, e1⟩ := ref_l2 (nf := nf) (l := l) (vars := vars) (by omega) hv0 hv hl hg (g0 := fun t more => ref_Within_l0 nf vars l fu t more) nf 0 t false (by omega) (by omega)
    simp only [cond_true]
    rw [show ref_Within_l2 nf vars l (fun t more => ref_Within_l0 nf vars l fu t more) nf t false 0 = _ from e]
    cases m1 with
    | true =>
      have hne : relM t ≠ relM t1 := by
        rcases e1.grow rfl with h | h
        · cases h
        · exact h
      have := many_lt hv hg e1.sp.le (e1.sp.snd hs) hne
      exact ref_l0 hn hv0 hv hl hg fu t1 (e1.sp.snd hs) (by omega)
    | false =>
      have heq := (e1.flag rfl).2
      have hs1 := e1.sp.snd hs
      obtain ⟨o, f, f1, f2⟩ := ref_l8 (nf := nf) (by omega) hv0 hv (t := t1) nf 0 [] (by omega) (by omega) rfl (by simp) (fun j hj => by omega)
      refine ⟨o, ?_, f1, fun j hj k => ?_⟩
      · cases fu with
        | zero => omega
        | succ fu =>
          show ref_Within_l0 nf vars l (fu + 1) t1 false = _
          rw [ref_Within_l0, ref_Within_b0]
          exact f
      · have hcl : ∀ a b, relM t1 a b = true ↔ Pts l a b := closed_pts hg hs1 fun p hp => by
          obtain ⟨i, hi, rfl⟩ := List.mem_iff_getElem.1 hp
          have := e1.sp.cl heq i (Nat.zero_le _) hi
          rw [heq] at this
          simpa [List.getD, hi] using this
        rw [f2 j hj k, Bool.and_eq_true, decide_eq_true_eq, hcl]
        exact ⟨fun h => h.2, fun h => ⟨(h.in hg).2.2, h⟩⟩

theorem pinside_F {nf : Nat} (n : Int) (l : List Int) (hl : l.length ≤ maxLen) (hf : l.length < nf) : ref_Inside_f nf n l = some (l.all fun x => decide (0 ≤ x) && decide (x < n), ()) := by
  have h := loop_all (l := l) (d := 0) (F := fun fu t (_ : Unit) => ref_Inside_l0 nf n l fu t) (fin := fun _ => some (true, ()))
    (step := fun x _ s k => bif decide (x < 0) then some (false, ()) else bif decide (x ≥ n) then some (false, ()) else k s) ?_ ?_ nf () hf
  · show ref_Inside_l0 nf n l nf 0 = _
    rw [show ref_Inside_l0 nf n l nf 0 = _ from h]
    have key : ∀ (l : List Int) (t : Int), goL (fun x _ (s : Unit) k => bif decide (x < 0) then some (false, ()) else bif decide (x ≥ n) then some (false, ()) else k s) (fun _ => some (true, ())) l t () = some (l.all fun x => decide (0 ≤ x) && decide (x < n), ()) := by
      intro l
      induction l with
      | nil => intro t; rfl
      | cons x r ih =>
        intro t
        simp only [goL, List.all_cons] at ih ⊢
        by_cases h1 : x < 0
        · simp [h1, show ¬ 0 ≤ x by omega]
        · by_cases h2 : n ≤ x
          · simp [h1, h2, show ¬ x < n by omega]
          · simp only [h1, h2, ge_iff_le, decide_false, cond_false, ih, show 0 ≤ x by omega, show x < n by omega, decide_true, Bool.true_and]
    exact key l 0
  · intro fu t s a b
    simp only [ref_Inside_l0, ref_Inside_b0, inb_ok a b, wrap_step a b hl, b, decide_true, cond_true]
  · intro fu t s a
    simp [ref_Inside_l0, ref_Inside_b0, a]

def stmGo (vars : Int) : List Stm → Int
  | [] => 0
  | p :: r => if p.1 < 1 ∨ p.1 > 4 then 6 else if p.2.1 < 0 ∨ p.2.2.1 < 0 ∨ p.2.1 ≥ vars ∨ p.2.2.1 ≥ vars then 2 else stmGo vars r
def stmCode (vars : Int) (l : List Stm) : Int := if vars < 1 ∨ vars > 8 ∨ l.length > 12 then 1 else stmGo vars l
theorem stmGo_good {vars : Int} : ∀ {l : List Stm}, stmGo vars l = 0 → Good vars l
  | [], _, p, hp => by cases hp
  | q :: r, h, p, hp => by
    simp only [stmGo] at h
    split at h
    · omega
    · split at h
      · omega
      · rcases List.mem_cons.1 hp with rfl | hp
        · omega
        · exact stmGo_good h p hp

theorem contains_nil (nf : Nat) (l : List Stm) (hn : 1 ≤ nf) : slices_ContainsFunc__point_wrong_1_f nf [] (l, ()) = some (false, ()) := by
  cases nf with
  | zero => omega
  | succ nf =>
    simp [slices_ContainsFunc__point_wrong_1_f, slices_ContainsFunc__point_wrong_1_p, slices_IndexFunc__point_wrong_1_f, slices_IndexFunc__point_wrong_1_p, slices_IndexFunc__point_wrong_1_l0, slices_IndexFunc__point_wrong_1_b0]

theorem wrong_l0 {nf : Nat} (hn : 20 ≤ nf) (vars : Int) (l : List Stm) (hl : l.length ≤ 12) : ∀ (fu : Nat) (t : Int), 0 ≤ t → t ≤ l.length → l.length < t + fu → point_wrong_l0 nf vars l [] fu l t = some (stmGo vars (l.drop t.toNat), ()) ∧ ref_PointCheck_l0 nf vars l [] fu t = some (stmGo vars (l.drop t.toNat), ())
  | 0, _, _, _, h => by omega
  | fu + 1, t, h0, h1, h2 => by
    rw [point_wrong_l0, point_wrong_b0, ref_PointCheck_l0, ref_PointCheck_b0]
    by_cases ht : t < l.length
    · obtain ⟨i1, i2⟩ := wrong_l0 hn vars l hl fu (t + 1) (by omega) (by omega) (by omega)
      rw [inb_ok h0 ht, wrap_step h0 ht (Nat.le_trans hl (by decide)), i1, i2, drop_step l t (0, 0, 0, ()) h0 ht]
      generalize l.getD t.toNat (0, 0, 0, ()) = x
      obtain ⟨op, a, b, _⟩ := x
      have e3 : (if b < a then b else a) < 0 ↔ a < 0 ∨ b < 0 := by split <;> omega
      have e4 : (if b > a then b else a) ≥ vars ↔ a ≥ vars ∨ b ≥ vars := by split <;> omega
      simp only [ht, decide_true, cond_true, stmGo, e3, e4, pinside_F (nf := nf) vars [a, b] (by simp [maxLen]) (by simp; omega), List.all_cons, List.all_nil, Bool.and_true, Option.bind_some]
      by_cases o1 : op < 1
      · simp [o1]
      · by_cases o2 : op > 4
        · simp [o1, o2]
        · by_cases c1 : a < 0
          · simp [o1, o2, c1, show ¬ 0 ≤ a by omega]
          · by_cases c2 : b < 0
            · simp [o1, o2, c1, c2, show ¬ 0 ≤ b by omega]
            · by_cases c3 : a ≥ vars
              · simp [o1, o2, c1, c2, c3, show ¬ a < vars by omega]
              · by_cases c4 : b ≥ vars
                · simp [o1, o2, c1, c2, c3, c4, show ¬ b < vars by omega]
                · simp [o1, o2, c1, c2, c3, c4, show a < vars by omega, show b < vars by omega, show 0 ≤ a by omega, show 0 ≤ b by omega]
    · have hd : l.drop t.toNat = [] := List.drop_eq_nil_of_le (by omega)
      simp only [ht, decide_false, cond_false, hd, stmGo, contains_nil nf l (by omega), pinside_F (nf := nf) (l.length : Int) [] (by simp) (by simp; omega), Option.bind_some, List.all_nil, Bool.not_true, and_self]

theorem check_F {nf : Nat} (hn : 20 ≤ nf) (vars : Int) (l : List Stm) : point_wrong_f nf vars l [] = some (stmCode vars l, ()) ∧ ref_PointCheck_f nf vars l [] = some (stmCode vars l, ()) := by
  simp only [point_wrong_f, point_wrong_p, ref_PointCheck_f, ref_PointCheck_p, stmCode]
  by_cases h1 : vars < 1
  · simp [h1]
  · by_cases h2 : vars > 8
    · simp [h1, h2]
    · by_cases h3 : l.length > 12
      · simp [h1, h2, h3, show (l.length : Int) > 12 by omega]
      · obtain ⟨i1, i2⟩ := wrong_l0 hn vars l (by omega) nf 0 (by omega) (by omega) (by omega)
        rw [Int.toNat_zero, List.drop_zero] at i1 i2
        simp only [h1, h2, h3, show ¬ (l.length : Int) > 12 by omega, i1, i2, decide_false, cond_false, or_self, if_false, List.length_nil, Int.natCast_zero, show ¬ (0 : Int) > 200 by omega, and_self]

theorem words_F {nf : Nat} (a : List Int) (hl : a.length ≤ maxLen) (hf : a.length < nf) : ref_Words_f nf a a = some (true, ()) := by
  have h := loop_all (l := a) (d := 0) (F := fun fu t (_ : Unit) => ref_Words_l0 nf a a fu t) (fin := fun _ => some (true, ())) (step := fun _ _ s k => k s) ?_ ?_ nf () hf
  · simp only [ref_Words_f, ref_Words_p]
    rw [show ref_Words_l0 nf a a nf 0 = _ from h, goL_fold (f := fun s _ => s) (fun _ => True) a 0 () trivial fun _ _ _ _ _ _ => ⟨rfl, trivial⟩]
    simp
  · intro fu t s h0 h1
    simp [ref_Words_l0, ref_Words_b0, inb_ok h0 h1, wrap_step h0 h1 hl, h1]
  · intro fu t s h1
    simp [ref_Words_l0, ref_Words_b0, h1]

theorem pointWithins_main (vars : Int) (l : List Stm) : law_PointWithins_f 100 vars l = some (true, ()) := by
  obtain ⟨c1, c2⟩ := check_F (nf := 100) (by omega) vars l
  simp only [law_PointWithins_f, law_PointWithins_p, point_Within_f, point_Within_p, c1, c2, Option.bind_some]
  by_cases hc : stmCode vars l = 0
  · have hb : 1 ≤ vars ∧ vars ≤ 8 ∧ l.length ≤ 12 ∧ stmGo vars l = 0 := by
      unfold stmCode at hc
      split at hc
      · omega
      · exact ⟨by omega, by omega, by omega, hc⟩
    obtain ⟨h1, h8, hl, hgo⟩ := hb
    have hg := stmGo_good hgo
    have hlim : vars ≤ (lim : Int) := by have : lim = 4294967296 := rfl; omega
    have hz : ∀ a b, rel (List.replicate vars.toNat 0) a b = false := fun a b => by
      unfold rel
      have : (List.replicate vars.toNat (0 : Int)).getD a.toNat 0 = 0 := by
        rw [List.getD_eq_getElem?_getD, List.getElem?_replicate]; split <;> rfl
      rw [this, bt_zero]; simp
    obtain ⟨o, e, e1, e2⟩ := within_l0 (nf := 100) (by omega) (by omega) h8 hl hg 100 (List.replicate vars.toNat 0) ⟨by simp; omega, fun x hx => by rw [(List.mem_replicate.1 hx).2]; exact W32_zero⟩ (fun a b h => by rw [hz] at h; cases h) (by omega)
    obtain ⟨o', f, f1, f2⟩ := ref_l0 (nf := 100) (by omega) (by omega) h8 hl hg 100 [] (fun a b h => by cases h) (by omega)
    have hoo : o = o' := rel_inj e1 f1 (by
      funext a b
      rw [Bool.eq_iff_iff, e2]
      by_cases ha : 0 ≤ a ∧ a < vars
      · by_cases hb : 0 ≤ b
        · rw [rel_in ha.1 hb, f2 a.toNat (by omega) b.toNat, show ((a.toNat : Nat) : Int) = a by omega, show ((b.toNat : Nat) : Int) = b by omega]
        · constructor
          · intro h; have := h.in hg; omega
          · intro h; simp [rel, hb] at h
      · constructor
        · intro h; have := h.in hg; omega
        · intro h
          have hlen := f1.len
          unfold rel at h
          by_cases h0 : 0 ≤ a
          · have : o'.getD a.toNat 0 = 0 := by rw [List.getD_eq_getElem?_getD, List.getElem?_eq_none (by omega)]; rfl
            rw [this, bt_zero] at h; simp at h
          · simp [h0] at h)
    subst hoo
    simp only [hc, bne_self_eq_false, cond_false, show (0 : Int) ≤ vars by omega, Int.le_refl, hlim, decide_true, Bool.and_self, cond_true]
    rw [e]
    simp only [Option.bind_some, beq_self_eq_true, cond_true, ref_Within_f, ref_Within_p]
    rw [f]
    simp only [Option.bind_some]
    rw [words_F o (by have := e1.len; simp [maxLen]; omega) (by have := e1.len; omega)]
    rfl
  · simp [bne_t hc]

theorem pointWithins_law (x : denPs (lawPs [.int .i64, .sl (.pair (.int .i64) (.pair (.int .i64) (.pair (.int .i64) .unit)))])) (_ : wfPs [.int .i64, .sl (.pair (.int .i64) (.pair (.int .i64) (.pair (.int .i64) .unit)))] x) : ∃ n, law_PointWithins_F n x = some (true, ()) := by
  obtain ⟨vars, l, _⟩ := x
  exact ⟨100, pointWithins_main vars l⟩
end Go.Proofs.Ytmndifhjmbiodaa
