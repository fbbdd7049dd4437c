/- What may point to what: the least facts that are closed. -/
import Derived.Test.YtmndifhjmbiodaaFnP
import Derived.Test.YtmndifhjmbiodaaLib
import Derived.Test.YtmndifhjmbiodaaMaps
namespace Go.Proofs.Ytmndifhjmbiodaa
open Go Go.Ab S

abbrev Stm := Int × Int × Int × Unit
abbrev Rel := Int → Int → Bool
def leR (R S : Rel) : Prop := ∀ a b, R a b = true → S a b = true
theorem leR.antisymm {R S : Rel} (h1 : leR R S) (h2 : leR S R) : R = S := by
  funext a b
  rw [Bool.eq_iff_iff]
  exact ⟨h1 a b, h2 a b⟩

inductive Pts (l : List Stm) : Int → Int → Prop
  | addr {a b : Int} : (1, a, b, ()) ∈ l → Pts l a b
  | copy {a b x : Int} : (2, a, b, ()) ∈ l → Pts l b x → Pts l a x
  | load {a b x y : Int} : (3, a, b, ()) ∈ l → Pts l b x → Pts l x y → Pts l a y
  | store {a b x y : Int} : (4, a, b, ()) ∈ l → Pts l a x → Pts l b y → Pts l x y

def Good (vars : Int) (l : List Stm) : Prop := ∀ p ∈ l, 1 ≤ p.1 ∧ p.1 ≤ 4 ∧ 0 ≤ p.2.1 ∧ p.2.1 < vars ∧ 0 ≤ p.2.2.1 ∧ p.2.2.1 < vars

theorem Pts.in {vars : Int} {l : List Stm} (hg : Good vars l) {a b : Int} (h : Pts l a b) : (0 ≤ a ∧ a < vars) ∧ (0 ≤ b ∧ b < vars) := by
  induction h with
  | addr hm => have := hg _ hm; simp at this; omega
  | copy hm _ ih => have := hg _ hm; simp at this; omega
  | load hm _ _ ih1 ih2 => have := hg _ hm; simp at this; omega
  | store hm _ _ ih1 ih2 => exact ⟨ih1.2, ih2.2⟩

def Snd (l : List Stm) (R : Rel) : Prop := ∀ a b, R a b = true → Pts l a b
/-- a step from facts to facts; if it adds none, the first ones are closed so far -/
structure Sp (l : List Stm) (C : Rel → Prop) (R S : Rel) : Prop where
  le : leR R S
  snd : Snd l R → Snd l S
  cl : R = S → C R

theorem Sp.trans {l : List Stm} {C D : Rel → Prop} {R S T : Rel} (h1 : Sp l C R S) (h2 : Sp l D S T) : Sp l (fun R => C R ∧ D R) R T :=
  ⟨fun a b h => h2.le a b (h1.le a b h), fun h => h2.snd (h1.snd h), fun h => by
    have e : R = S := h1.le.antisymm (by rw [h]; exact h2.le)
    exact ⟨h1.cl e, by have := h2.cl (by rw [← e]; exact h); rwa [← e] at this⟩⟩
theorem Sp.weak {l : List Stm} {C D : Rel → Prop} {R S : Rel} (h : Sp l C R S) (hd : ∀ R, C R → D R) : Sp l D R S := ⟨h.le, h.snd, fun e => hd _ (h.cl e)⟩
theorem Sp.same {l : List Stm} {C : Rel → Prop} {R : Rel} (h : C R) : Sp l C R R := ⟨fun _ _ h => h, fun h => h, fun _ => h⟩

/-- a statement is obeyed -/
def Cl (vars : Int) (p : Stm) (R : Rel) : Prop :=
  (p.1 = 1 → R p.2.1 p.2.2.1 = true) ∧ (p.1 = 2 → ∀ x, 0 ≤ x → x < vars → R p.2.2.1 x = true → R p.2.1 x = true) ∧
  (p.1 = 3 → ∀ x y, 0 ≤ x → x < vars → 0 ≤ y → y < vars → R p.2.2.1 x = true → R x y = true → R p.2.1 y = true) ∧
  (p.1 = 4 → ∀ x y, 0 ≤ x → x < vars → 0 ≤ y → y < vars → R p.2.1 x = true → R p.2.2.1 y = true → R x y = true)

theorem closed_pts {vars : Int} {l : List Stm} (hg : Good vars l) {R : Rel} (hs : Snd l R) (hc : ∀ p ∈ l, Cl vars p R) (a b : Int) : R a b = true ↔ Pts l a b := by
  refine ⟨hs a b, fun h => ?_⟩
  induction h with
  | addr hm => exact (hc _ hm).1 rfl
  | copy hm hb ih => have := hb.in hg; exact (hc _ hm).2.1 rfl _ this.2.1 this.2.2 ih
  | load hm hb hx ih1 ih2 =>
    have h1 := hb.in hg; have h2 := hx.in hg
    exact (hc _ hm).2.2.1 rfl _ _ h1.2.1 h1.2.2 h2.2.1 h2.2.2 ih1 ih2
  | store hm ha hb ih1 ih2 =>
    have h1 := ha.in hg; have h2 := hb.in hg
    exact (hc _ hm).2.2.2 rfl _ _ h1.2.1 h1.2.2 h2.2.1 h2.2.2 ih1 ih2

/-- how many facts -/
def many (R : Rel) : Nat := cnt (fun k => R ((k / 8 : Nat) : Int) ((k % 8 : Nat) : Int)) 64
theorem many_le (R : Rel) : many R ≤ 64 := cnt_n _ _
theorem many_lt {vars : Int} (hv : vars ≤ 8) {l : List Stm} (hg : Good vars l) {R S : Rel} (hle : leR R S) (hs : Snd l S) (hne : R ≠ S) : many R < many S := by
  refine cnt_lt (fun k _ h => hle _ _ h) ?_
  have : ∃ a b, R a b = false ∧ S a b = true := Classical.byContradiction fun hno => hne (hle.antisymm fun a b h => by
    cases hr : R a b with
    | true => rfl
    | false => exact absurd ⟨a, b, hr, h⟩ hno)
  obtain ⟨a, b, h1, h2⟩ := this
  have hin := (hs a b h2).in hg
  refine ⟨a.toNat * 8 + b.toNat, by omega, ?_, ?_⟩
  · rw [show (((a.toNat * 8 + b.toNat) / 8 : Nat) : Int) = a by omega, show (((a.toNat * 8 + b.toNat) % 8 : Nat) : Int) = b by omega]; exact h1
  · rw [show (((a.toNat * 8 + b.toNat) / 8 : Nat) : Int) = a by omega, show (((a.toNat * 8 + b.toNat) % 8 : Nat) : Int) = b by omega]; exact h2

/-! the code's words -/
structure WOK (vars : Int) (to : List Int) : Prop where
  len : (to.length : Int) = vars
  w : ∀ x ∈ to, W32 x
theorem WOK.get {vars : Int} {to : List Int} (h : WOK vars to) {i : Int} (h0 : 0 ≤ i) (h1 : i < vars) : W32 (to.getD i.toNat 0) := h.w _ (getD_mem h0 (by rw [h.len]; exact h1))
theorem WOK.set {vars : Int} {to : List Int} (h : WOK vars to) (i : Nat) (x y : Int) : WOK vars (to.set i (or32 x y)) :=
  ⟨by simpa using h.len, fun z hz => by
    rcases List.mem_or_eq_of_mem_set hz with h2 | rfl
    · exact h.w z h2
    · exact or32_w _ _⟩

def rel (to : List Int) : Rel := fun a b => decide (0 ≤ a) && decide (0 ≤ b) && bt (to.getD a.toNat 0) b.toNat
theorem rel_in {to : List Int} {a b : Int} (ha : 0 ≤ a) (hb : 0 ≤ b) : rel to a b = bt (to.getD a.toNat 0) b.toNat := by simp [rel, ha, hb]
theorem rel_set {vars : Int} {to : List Int} (h : WOK vars to) {a : Int} (h0 : 0 ≤ a) (h1 : a < vars) {w : Int} (hw : W32 w) (i j : Int) :
    rel (to.set a.toNat (or32 (to.getD a.toNat 0) w)) i j = (rel to i j || (decide (i = a) && (decide (0 ≤ j) && bt w j.toNat))) := by
  have hl := h.len
  unfold rel
  by_cases hi : 0 ≤ i
  · by_cases hj : 0 ≤ j
    · rw [getD_upd (by omega)]
      by_cases hia : i = a
      · subst hia
        rw [if_pos rfl, or32_bt (h.get h0 h1) hw]
        simp [hi, hj]
      · rw [if_neg (by omega)]; simp [hi, hj, hia]
    · simp [hj]
  · have : ¬ i = a := by omega
    simp [hi, this]

theorem rel_inj {vars : Int} {s t : List Int} (hs : WOK vars s) (ht : WOK vars t) (h : rel s = rel t) : s = t := by
  have hl : s.length = t.length := by have := hs.len; have := ht.len; omega
  refine List.ext_getElem hl fun i h1 h2 => ?_
  have e : ∀ l : List Int, ∀ h : i < l.length, l.getD i 0 = l[i] := fun l h => by simp [List.getD, h]
  refine bt_ext (hs.w _ (List.getElem_mem _)) (ht.w _ (List.getElem_mem _)) fun k hk => ?_
  have := congrFun (congrFun h (i : Int)) (k : Int)
  rw [rel_in (by omega) (by omega), rel_in (by omega) (by omega), Int.toNat_natCast, Int.toNat_natCast, e s h1, e t h2] at this
  exact this

/-- one word takes what another has -/
theorem or_step {vars : Int} {l : List Stm} {to : List Int} (h : WOK vars to) {a : Int} (h0 : 0 ≤ a) (h1 : a < vars) {w : Int} (hw : W32 w) (hs : Snd l (rel to) → ∀ j, 0 ≤ j → bt w j.toNat = true → Pts l a j) :
    Sp l (fun R => ∀ j, 0 ≤ j → bt w j.toNat = true → R a j = true) (rel to) (rel (to.set a.toNat (or32 (to.getD a.toNat 0) w))) := by
  refine ⟨fun i j hij => by rw [rel_set h h0 h1 hw, hij]; rfl, fun hsn i j hij => ?_, fun e j hj hb => ?_⟩
  · rw [rel_set h h0 h1 hw] at hij
    rcases Bool.or_eq_true _ _ |>.mp hij with h2 | h2
    · exact hsn i j h2
    · simp only [Bool.and_eq_true, decide_eq_true_eq] at h2
      obtain ⟨rfl, h3, h4⟩ := h2
      exact hs hsn j h3 h4
  · rw [e, rel_set h h0 h1 hw]; simp [hj, hb]

/-- what the inner loop of a statement sees to, from t on -/
def C5 (vars : Int) (p : Stm) (t : Int) (R : Rel) : Prop :=
  (p.1 = 3 → ∀ x, t ≤ x → x < vars → ∀ y, 0 ≤ y → R p.2.2.1 x = true → R x y = true → R p.2.1 y = true) ∧
  (p.1 = 4 → ∀ x, t ≤ x → x < vars → ∀ y, 0 ≤ y → R p.2.1 x = true → R p.2.2.1 y = true → R x y = true)

theorem within_l5 {nf : Nat} {vars : Int} {l : List Stm} (hv : vars ≤ 8) (hg : Good vars l) {to2 : List Int} (h2 : (to2.length : Int) = vars) {t26 : Int} {g2 : List Int → List Int → Int → Option (List Int × Int × Unit)} {g0 : List Int → Bool → Option (List Int × Int × Unit)} {was : List Int} {p : Stm} (hp : p ∈ l) :
    ∀ (fu : Nat) (t : Int) (to : List Int), WOK vars to → 0 ≤ t → t ≤ vars → vars - t < fu → ∃ to', point_Within_l5 nf l t26 to2 g2 g0 fu to was p t = g2 to' was (IntKind.i64.wrap (t26 + 1)) ∧ WOK vars to' ∧ Sp l (C5 vars p t) (rel to) (rel to')
  | 0, t, to, _, _, _, h => by omega
  | fu + 1, t, to, hW, h0, h1, hf => by
    obtain ⟨q1, q2, a0, a1, b0, b1⟩ := hg p hp
    have hl := hW.len
    rw [point_Within_l5, point_Within_b5]
    by_cases ht : t < vars
    · have hw : IntKind.i64.wrap (t + 1) = t + 1 := Go.IntWalk.i64_in _ (by omega)
      have ia : ∀ s : List Int, (s.length : Int) = vars → inb p.2.1 s.length = true := fun s hs => inb_ok a0 (by omega)
      have ib : ∀ s : List Int, (s.length : Int) = vars → inb p.2.2.1 s.length = true := fun s hs => inb_ok b0 (by omega)
      have it : ∀ s : List Int, (s.length : Int) = vars → inb t s.length = true := fun s hs => inb_ok h0 (by omega)
      have shr : ∀ w : Int, W32 w → (IntKind.u32.wrap ((BitVec.ofInt IntKind.u32.bits (shrI .u32 w t) &&& BitVec.ofInt IntKind.u32.bits 1).toNat : Int) == 1) = bt w t.toNat := fun w hw => shr_and_beq1 hw h0 (by omega)
      have ih := fun s hs => within_l5 (nf := nf) (t26 := t26) (g2 := g2) (g0 := g0) (was := was) hv hg h2 hp fu (t + 1) s hs (by omega) (by omega) (by omega)
      simp only [show t < (to2.length : Int) by omega, decide_true, cond_true, ia _ hl, ib _ hl, it _ hl, h0, shr _ (hW.get b0 b1), shr _ (hW.get a0 a1), hw]
      by_cases o3 : p.1 = 3
      · have hpe : p = (3, p.2.1, p.2.2.1, ()) := by rw [← o3]
        simp only [o3, beq_self_eq_true, cond_true, show ((3 : Int) == 4) = false from rfl, cond_false]
        cases hb : bt (to.getD p.2.2.1.toNat 0) t.toNat with
        | true =>
          have hW1 := hW.set p.2.1.toNat (to.getD p.2.1.toNat 0) (to.getD t.toNat 0)
          obtain ⟨to', e, e1, e2⟩ := ih _ hW1
          have hs := (or_step (l := l) hW a0 a1 (hW.get h0 ht) (fun hs j hj hbj => .load (a := p.2.1) (b := p.2.2.1) (by rw [← hpe]; exact hp) (hs p.2.2.1 t (by rw [rel_in b0 h0]; exact hb)) (hs t j (by rw [rel_in h0 hj]; exact hbj)))).trans e2
          refine ⟨to', e, e1, hs.le, hs.snd, fun h => ?_⟩
          obtain ⟨c1, c2⟩ := hs.cl h
          refine ⟨fun _ x hx hx' y hy r1 r2 => ?_, fun h => by omega⟩
          by_cases hxt : x = t
          · subst hxt; exact c1 y hy (by rw [rel_in h0 hy] at r2; exact r2)
          · exact c2.1 o3 x (by omega) hx' y hy r1 r2
        | false =>
          obtain ⟨to', e, e1, e2⟩ := ih _ hW
          refine ⟨to', e, e1, e2.le, e2.snd, fun h => ⟨fun _ x hx hx' y hy r1 r2 => ?_, fun h => by omega⟩⟩
          by_cases hxt : x = t
          · subst hxt; rw [rel_in b0 h0, hb] at r1; cases r1
          · exact (e2.cl h).1 o3 x (by omega) hx' y hy r1 r2
      · by_cases o4 : p.1 = 4
        · have hpe : p = (4, p.2.1, p.2.2.1, ()) := by rw [← o4]
          simp only [o4, beq_self_eq_true, cond_true, show ((4 : Int) == 3) = false from rfl, cond_false]
          cases hb : bt (to.getD p.2.1.toNat 0) t.toNat with
          | true =>
            have hW1 := hW.set t.toNat (to.getD t.toNat 0) (to.getD p.2.2.1.toNat 0)
            obtain ⟨to', e, e1, e2⟩ := ih _ hW1
            have hs := (or_step (l := l) hW h0 ht (hW.get b0 b1) (fun hs j hj hbj => .store (a := p.2.1) (b := p.2.2.1) (by rw [← hpe]; exact hp) (hs p.2.1 t (by rw [rel_in a0 h0]; exact hb)) (hs p.2.2.1 j (by rw [rel_in b0 hj]; exact hbj)))).trans e2
            refine ⟨to', e, e1, hs.le, hs.snd, fun h => ?_⟩
            obtain ⟨c1, c2⟩ := hs.cl h
            refine ⟨fun h => absurd h o3, fun _ x hx hx' y hy r1 r2 => ?_⟩
            by_cases hxt : x = t
            · subst hxt; exact c1 y hy (by rw [rel_in b0 hy] at r2; exact r2)
            · exact c2.2 o4 x (by omega) hx' y hy r1 r2
          | false =>
            obtain ⟨to', e, e1, e2⟩ := ih _ hW
            refine ⟨to', e, e1, e2.le, e2.snd, fun h => ⟨fun h => absurd h o3, fun _ x hx hx' y hy r1 r2 => ?_⟩⟩
            by_cases hxt : x = t
            · subst hxt; rw [rel_in a0 h0, hb] at r1; cases r1
            · exact (e2.cl h).2 o4 x (by omega) hx' y hy r1 r2
        · simp only [beq_f o3, beq_f o4, cond_false]
          obtain ⟨to', e, e1, e2⟩ := ih _ hW
          exact ⟨to', e, e1, e2.le, e2.snd, fun h => ⟨fun h => absurd h o3, fun h => absurd h o4⟩⟩
    · refine ⟨to, ?_, hW, Sp.same ⟨fun _ x _ _ => by omega, fun _ x _ _ => by omega⟩⟩
      simp only [show ¬ t < (to2.length : Int) by omega, decide_false, cond_false]

theorem clone32_F (nf : Nat) (s : List Int) (hl : s.length ≤ 16) : slices_Clone_f nf s = some (s, ()) := by
  have hb := ble_ok (n := s.length) (by omega)
  cases s with
  | nil => simp [slices_Clone_f, slices_Clone_p, bimp, ble_ok, both_self]
  | cons a r => simp only [List.length_cons] at hb; simp [slices_Clone_f, slices_Clone_p, bimp, hb]

theorem equal32_F {nf : Nat} (hn : 20 ≤ nf) (a b : List Int) (hl : a.length = b.length) (h16 : a.length ≤ 16) : slices_Equal_f nf a b = some (decide (a = b), ()) := by
  have key : ∀ (r s pa pb : List Int) (fu : Nat), a = pa ++ r → b = pb ++ s → pa.length = pb.length → r.length = s.length → r.length < fu → slices_Equal_l0 nf a b fu (pa.length : Nat) = some (decide (r = s), ()) := by
    intro r
    induction r with
    | nil =>
      intro s pa pb fu ha hb hp hr hf
      cases fu with
      | zero => omega
      | succ fu =>
        have : s = [] := by cases s with
          | nil => rfl
          | cons => simp at hr
        subst this
        have : a.length = pa.length := by rw [ha]; simp
        rw [slices_Equal_l0, slices_Equal_b0]
        simp [this]
    | cons x r ih =>
      intro s pa pb fu ha hb hp hr hf
      cases fu with
      | zero => omega
      | succ fu =>
        cases s with
        | nil => simp at hr
        | cons y s =>
          have l1 : a.length = pa.length + (r.length + 1) := by rw [ha]; simp
          have l2 : b.length = pb.length + (s.length + 1) := by rw [hb]; simp
          have ga : a.getD pa.length 0 = x := by rw [ha]; simp
          have gb : b.getD pa.length 0 = y := by rw [hb, hp]; simp
          have hw : IntKind.i64.wrap (((pa.length : Nat) : Int) + 1) = (((pa ++ [x]).length : Nat) : Int) := by rw [Go.IntWalk.i64_in _ (by omega)]; simp
          rw [slices_Equal_l0, slices_Equal_b0]
          simp only [show ((pa.length : Nat) : Int) < (a.length : Int) by omega, decide_true, cond_true, inb_ok (n := a.length) (t := ((pa.length : Nat) : Int)) (by omega) (by omega), inb_ok (n := b.length) (t := ((pa.length : Nat) : Int)) (by omega) (by omega), Int.toNat_natCast, ga, gb, hw]
          rw [ih s (pa ++ [x]) (pb ++ [y]) fu (by rw [ha]; simp) (by rw [hb]; simp) (by simp [hp]) (by simpa using hr) (by simp at hf; omega)]
          by_cases hxy : x = y
          · subst hxy; simp
          · simp [bne_t hxy, hxy]
  have := key a b [] [] nf rfl rfl rfl hl (by omega)
  simp only [slices_Equal_f, slices_Equal_p]
  have hbn : ((a.length : Int) != (b.length : Int)) = false := by simp [hl]
  rw [hbn, cond_false]
  exact this

theorem within_l2 {nf : Nat} (hn : 20 ≤ nf) {vars : Int} {l : List Stm} (hv0 : 0 ≤ vars) (hv : vars ≤ 8) (hl : l.length ≤ 12) (hg : Good vars l) {g0 : List Int → Bool → Option (List Int × Int × Unit)} {was : List Int} (hwas : (was.length : Int) = vars) :
    ∀ (fu t : Nat) (to : List Int), WOK vars to → t ≤ l.length → l.length - t < fu → ∃ to', point_Within_l2 nf l g0 fu to was t = g0 to' (!decide (was = to')) ∧ WOK vars to' ∧ Sp l (fun R => ∀ i, t ≤ i → i < l.length → Cl vars (l.getD i (0, 0, 0, ())) R) (rel to) (rel to')
  | 0, t, to, _, _, h => by omega
  | fu + 1, t, to, hW, h0, hf => by
    have hlw := hW.len
    rw [point_Within_l2, point_Within_b2]
    by_cases ht : t < l.length
    · have hw : IntKind.i64.wrap ((t : Int) + 1) = ((t + 1 : Nat) : Int) := by rw [Go.IntWalk.i64_in _ (by omega)]; rfl
      have hb : inb (t : Int) l.length = true := inb_ok (by omega) (by omega)
      have hp : l.getD t (0, 0, 0, ()) ∈ l := by have := getD_mem (l := l) (t := (t : Int)) (d := (0, 0, 0, ())) (by omega) (by omega); simpa using this
      have ih := fun s hs => within_l2 (nf := nf) hn hv0 hv hl hg (g0 := g0) hwas fu (t + 1) s hs (by omega) (by omega)
      have fin : ∀ s, Sp l (Cl vars (l.getD t (0, 0, 0, ()))) (rel to) (rel s) → (∃ to', point_Within_l2 nf l g0 fu s was ((t + 1 : Nat) : Int) = g0 to' (!decide (was = to')) ∧ WOK vars to' ∧ Sp l (fun R => ∀ i, t + 1 ≤ i → i < l.length → Cl vars (l.getD i (0, 0, 0, ())) R) (rel s) (rel to')) →
          ∃ to', point_Within_l2 nf l g0 fu s was ((t + 1 : Nat) : Int) = g0 to' (!decide (was = to')) ∧ WOK vars to' ∧ Sp l (fun R => ∀ i, t ≤ i → i < l.length → Cl vars (l.getD i (0, 0, 0, ())) R) (rel to) (rel to') := fun s h1 ⟨to', e, e1, e2⟩ =>
        ⟨to', e, e1, (h1.trans e2).weak fun R ⟨c1, c2⟩ i hi hi' => by
          by_cases hit : i = t
          · subst hit; exact c1
          · exact c2 i (by omega) hi'⟩
      obtain ⟨q1, q2, a0, a1, b0, b1⟩ := hg _ hp
      have hpe : l.getD t (0, 0, 0, ()) = ((l.getD t (0, 0, 0, ())).1, (l.getD t (0, 0, 0, ())).2.1, (l.getD t (0, 0, 0, ())).2.2.1, ()) := rfl
      simp only [show (t : Int) < (l.length : Int) by omega, decide_true, cond_true, hb, Int.toNat_natCast, hw]
      by_cases o1 : (l.getD t (0, 0, 0, ())).1 = 1
      · simp only [o1, beq_self_eq_true, cond_true, inb_ok (n := to.length) a0 (by omega), b0, decide_true]
        have h1 := or_step (l := l) hW a0 a1 (one_w b0 (by omega)) (fun hs j hj hbj => by
          rw [one_bt b0 (by omega)] at hbj
          have : j = (l.getD t (0, 0, 0, ())).2.2.1 := by have := of_decide_eq_true hbj; omega
          subst this
          exact .addr (by rw [← o1]; exact hp))
        refine fin _ (h1.weak fun R c => ⟨fun _ => c _ b0 (by rw [one_bt b0 (by omega)]; simp), fun h => by omega, fun h => by omega, fun h => by omega⟩) (ih _ (hW.set _ _ _))
      · by_cases o2 : (l.getD t (0, 0, 0, ())).1 = 2
        · simp only [o2, show ((2 : Int) == 1) = false from rfl, beq_self_eq_true, cond_true, cond_false, inb_ok (n := to.length) a0 (by omega), inb_ok (n := to.length) b0 (by omega)]
          have h1 := or_step (l := l) hW a0 a1 (hW.get b0 b1) (fun hs j hj hbj => .copy (b := (l.getD t (0, 0, 0, ())).2.2.1) (by rw [← o2]; exact hp) (hs _ j (by rw [rel_in b0 hj]; exact hbj)))
          refine fin _ ⟨h1.le, h1.snd, fun e => ⟨fun h => absurd h o1, fun _ x hx _ hr => h1.cl e x hx (by rw [rel_in b0 hx] at hr; exact hr), fun h => by omega, fun h => by omega⟩⟩ (ih _ (hW.set _ _ _))
        · simp only [beq_f o1, beq_f o2, cond_false]
          obtain ⟨s, e, e1, e2⟩ := within_l5 (nf := nf) (t26 := (t : Int)) (g2 := fun to'2 was t26 => point_Within_l2 nf l g0 fu to'2 was t26) (g0 := g0) (was := was) hv hg (to2 := to) hlw hp nf 0 to hW (by omega) (by omega) (by omega)
          rw [e, hw]
          exact fin s (e2.weak fun R c => ⟨fun h => absurd h o1, fun h => absurd h o2, fun h x y hx hx' hy _ => c.1 h x hx hx' y hy, fun h x y hx hx' hy _ => c.2 h x hx hx' y hy⟩) (ih s e1)
    · refine ⟨to, ?_, hW, Sp.same fun i h1 h2 => by omega⟩
      simp only [show ¬ (t : Int) < (l.length : Int) by omega, decide_false, cond_false]
      rw [equal32_F hn was to (by omega) (by omega)]
      rfl

theorem within_l0 {nf : Nat} (hn : 100 ≤ nf) {vars : Int} {l : List Stm} (hv0 : 0 ≤ vars) (hv : vars ≤ 8) (hl : l.length ≤ 12) (hg : Good vars l) :
    ∀ (fu : Nat) (to : List Int), WOK vars to → Snd l (rel to) → 66 - many (rel to) ≤ fu → ∃ to', point_Within_l0 nf l fu to true = some (to', 0, ()) ∧ WOK vars to' ∧ ∀ a b, rel to' a b = true ↔ Pts l a b
  | 0, to, _, _, h => by have := many_le (rel to); omega
  | fu + 1, to, hW, hs, hf => by
    have hlw := hW.len
    have hm := many_le (rel to)
    rw [point_Within_l0, point_Within_b0]
    obtain ⟨s, e, e1, e2⟩ := within_l2 (nf := nf) (by omega) hv0 hv hl hg (g0 := fun to' more => point_Within_l0 nf l fu to' more) (was := to) hlw nf 0 to hW (by omega) (by omega)
    simp only [cond_true, clone32_F nf to (by omega), Option.bind_some]
    rw [show point_Within_l2 nf l (fun to' more => point_Within_l0 nf l fu to' more) nf to to 0 = _ from e]
    by_cases hts : to = s
    · subst hts
      refine ⟨to, ?_, hW, fun a b => closed_pts hg hs (fun p hp => ?_) a b⟩
      · simp only [decide_true, Bool.not_true]
        cases fu with
        | zero => omega
        | succ fu => rw [point_Within_l0, point_Within_b0]; rfl
      · obtain ⟨i, hi, rfl⟩ := List.mem_iff_getElem.1 hp
        have := e2.cl rfl i (Nat.zero_le _) hi
        simpa [List.getD, hi] using this
    · have hne : rel to ≠ rel s := fun h => hts (rel_inj hW e1 h)
      have := many_lt hv hg e2.le (e2.snd hs) hne
      simp only [hts, decide_false, Bool.not_false]
      exact within_l0 hn hv0 hv hl hg fu s e1 (e2.snd hs) (by omega)
end Go.Proofs.Ytmndifhjmbiodaa
