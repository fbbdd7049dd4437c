/- Stores: what a slot owns, with another part at a path. -/
import Derived.Test.YtokjogplnoeicaaAbRep
namespace Go.Ab

/-- what a slot owns and shares, under another name -/
theorem RR_moved {w w' : World} {g g' : Gh} {s s' : Nat} (hsz : w.heap.size ≤ w'.heap.size)
  (hsh : ∀ b l0, b < w.heap.size → shared g.col l0 b → w'.heap[b]? = w.heap[b]? ∧ shared g'.col l0 b) :
  ∀ (t : Ty) (m : Md) (p p' : List Stp) (src : Src) (k : Nat) (x : den t), RR w g s t m p src k x →
   (∀ b r, g.col b = some (s, p ++ r) → w'.heap[b]? = w.heap[b]? ∧ g'.col b = some (s', p' ++ r)) →
   (∀ r, g'.H s' (p' ++ r) = g.H s (p ++ r)) → (∀ r, r ≠ [] → g'.A s' (p' ++ r) = g.A s (p ++ r)) →
   (∀ j, j < sz t → rdS w' src (k + j) = rdS w src (k + j)) → RR w' g' s' t m p' src k x := by
 intro t
 induction t with
 | int kd => intro m p p' src k x h _ _ _ hr; simp only [RR] at *; have := hr 0 (by simp [sz]); simp at this; rw [this]; exact h
 | bool => intro m p p' src k x h _ _ _ hr; simp only [RR] at *; have := hr 0 (by simp [sz]); simp at this; rw [this]; exact h
 | unit => intros; trivial
 | mp kt et _ _ =>
  intro m p p' src k x h hown hH hA hr
  have hr0 := hr 0 (by simp [sz]); simp only [Nat.add_zero] at hr0
  cases hm : m.isOwn with
  | true =>
   simp only [RR, hm] at h ⊢
   obtain ⟨r, h1, h2, h3⟩ := h
   refine ⟨r, by rw [hr0, h1], h2, ?_⟩
   cases r with
   | none => exact h3
   | some b =>
    obtain ⟨h4, h5, es, c, h6, h7⟩ := h3
    have hb := hown b [] (by simpa using h5)
    have hH0 := hH []; simp only [List.append_nil] at hH0
    exact ⟨by rw [hH0]; exact h4, by simpa using hb.2, es, c, by rw [hb.1]; exact h6, h7⟩
  | false =>
   simp only [RR, hm] at h ⊢
   exact RO_conv (l := m.lent?) (l' := m.lent?) (by cases m.lent? <;> rfl) hsz (fun b hb hs => hsh b _ hb hs) (.mp kt et) (rdS w src) (rdS w' src) k x h hr
 | bx e ih =>
  intro m p p' src k x h hown hH hA hr
  have hr0 := hr 0 (by simp [sz]); simp only [Nat.add_zero] at hr0
  cases hm : m.isOwn with
  | true =>
   simp only [RR, hm] at h ⊢
   obtain ⟨r, h1, h3⟩ := h
   refine ⟨r, by rw [hr0, h1], ?_⟩
   match r, x, h3 with
   | none, none, _ => trivial
   | some ad, some y, h3 =>
    obtain ⟨h4, h5, h6, ⟨c, el, h7, h8⟩, h9, h10⟩ := h3
    have hb := hown ad.block [] (by simpa using h6)
    refine ⟨h4, h5, by simpa using hb.2, ⟨c, el, by rw [hb.1]; exact h7, h8⟩, by rw [hA _ (by simp)]; exact h9,
     ih _ _ (p' ++ [.dr]) _ _ _ h10 (fun b' r hb' => by simpa using hown b' (.dr :: r) (by simpa using hb'))
      (fun r => by simpa using hH (.dr :: r)) (fun r _ => by simpa using hA (.dr :: r) (by simp)) fun j _ => cell?_congr hb.1⟩
  | false =>
   simp only [RR, hm] at h ⊢
   exact RO_conv (l := m.lent?) (l' := m.lent?) (by cases m.lent? <;> rfl) hsz (fun b hb hs => hsh b _ hb hs) (.bx e) (rdS w src) (rdS w' src) k x h hr
 | pair a b iha ihb =>
  intro m p p' src k x h hown hH hA hr
  simp only [RR] at *
  obtain ⟨hc, hcb, ha, h1, h2⟩ := h
  have hsa := sz_cell hc
  refine ⟨hc, hcb, fun b' off hb' => by rw [hA _ (by simp)]; exact ha b' off hb',
   iha _ _ (p' ++ [.fld k]) _ _ _ h1 (fun b' r hb => by simpa using hown b' (.fld k :: r) (by simpa using hb))
    (fun r => by simpa using hH (.fld k :: r)) (fun r _ => by simpa using hA (.fld k :: r) (by simp)) fun j hj => hr j (by simp [sz]; omega),
   ihb _ _ _ _ _ _ h2 hown hH hA fun j hj => ?_⟩
  have := hr (j + 1) (by simp [sz]; omega)
  rw [show k + 1 + j = k + (j + 1) by omega]; exact this
 | sl e ih =>
  intro m p p' src k x h hown hH hA hr
  have hr0 := hr 0 (by simp [sz]); simp only [Nat.add_zero] at hr0
  cases hm : m.isOwn with
  | true =>
   simp only [RR, hm] at h ⊢
   obtain ⟨a, cap, h1, h2, h3, h4, h5⟩ := h
   have hH0 := hH []; simp only [List.append_nil] at hH0
   refine ⟨a, cap, by rw [hr0, h1, hH0], by rw [hH0, h2], h3, h4, ?_⟩
   cases a with
   | none => exact h5
   | some ad =>
    obtain ⟨h6, h7, ⟨c, el, h8, h9⟩, h10⟩ := h5
    have hb := hown ad.block [] (by simpa using h7)
    refine ⟨h6, by simpa using hb.2, ⟨c, el, by rw [hb.1]; exact h8, h9⟩, fun i hi => ⟨by rw [hA _ (by simp)]; exact (h10 i hi).1,
     ih _ _ (p' ++ [.el i]) _ _ _ (h10 i hi).2 (fun b' r hb' => by simpa using hown b' (.el i :: r) (by simpa using hb'))
      (fun r => by simpa using hH (.el i :: r)) (fun r _ => by simpa using hA (.el i :: r) (by simp)) fun j _ => cell?_congr hb.1⟩⟩
  | false =>
   simp only [RR, hm] at h ⊢
   refine ⟨?_, fun hz hx => by obtain ⟨l, c, h1⟩ := h.2 hz hx; exact ⟨l, c, by rw [hr0]; exact h1⟩⟩
   have h1 := RO_conv (l := m.lent?) (l' := m.lent?) (by cases m.lent? <;> rfl) hsz (fun b hb hs => hsh b _ hb hs) (.sl e) (rdS w src) (rdS w' src) k x h.1 hr
   exact h1

/-- what a slot owns and shares, where nothing of it changes -/
theorem RR_frame {w w' : World} {g g' : Gh} {s : Nat} (hsz : w.heap.size ≤ w'.heap.size)
  (hsh : ∀ b l0, b < w.heap.size → shared g.col l0 b → w'.heap[b]? = w.heap[b]? ∧ shared g'.col l0 b) 
  (t : Ty) (m : Md) (p : List Stp) (src : Src) (k : Nat) (x : den t) (h : RR w g s t m p src k x)
  (hown : ∀ b r, g.col b = some (s, p ++ r) → w'.heap[b]? = w.heap[b]? ∧ g'.col b = g.col b)
  (hH : ∀ r, g'.H s (p ++ r) = g.H s (p ++ r)) (hA : ∀ r, r ≠ [] → g'.A s (p ++ r) = g.A s (p ++ r))
  (hr : ∀ j, j < sz t → rdS w' src (k + j) = rdS w src (k + j)) : RR w' g' s t m p src k x :=
 RR_moved hsz hsh t m p p src k x h (fun b r hb => by obtain ⟨h1, h2⟩ := hown b r hb; exact ⟨h1, by rw [h2, hb]⟩) hH hA hr

/-- a node in memory lies in a block of the slot's own that belongs to a shorter path -/
def SrcOK (g : Gh) (s : Nat) (p : List Stp) (src : Src) : Prop := ∀ b off, src = .mem b off → ∃ cb, g.col b = some (s, cb) ∧ cb.length < p.length

/-- where a part lies: within the cells of the whole, or in a block of a longer path -/
theorem RR_loc {w : World} {g : Gh} {s : Nat} {B O : Nat} : ∀ (q : List Stp) (t : Ty) (m : Md) (p : List Stp) (src : Src) (k : Nat) (x : den t) (tv : TV), RR w g s t m p src k x → (isCell t = false → k = 0) →
  okP q t m x → walkP q t m x = some tv → (∀ b off, src = .mem b off → g.A s p = (b, off + k)) → g.A s (p ++ q) = (B, O) → ((∃ b off, src = .mem b off) ∨ (∃ i r, q = .el i :: r)) →
  (∃ off, src = .mem B off ∧ off + k ≤ O ∧ O + sz tv.t ≤ off + k + sz t) ∨ (∃ r, g.col B = some (s, p ++ r)) := by
 intro q
 induction q with
 | nil =>
  intro t m p src k x tv h hk _ hw hA hBO hm
  simp only [walkP, Option.some.injEq] at hw
  subst hw
  rcases hm with ⟨b, off, hm⟩ | ⟨_, _, hm⟩
  ·have := hA b off hm
   simp only [List.append_nil] at hBO
   rw [hBO] at this
   simp only [Prod.mk.injEq] at this
   obtain ⟨rfl, rfl⟩ := this
   exact .inl ⟨off, hm, Nat.le_refl _, Nat.le_refl _⟩
  ·cases hm
 | cons c q ih =>
  intro t m p src k x tv h hk hok hw hA hBO hm
  cases c with
  | dr => simp [okP] at hok
  | fld n =>
   simp only [okP, walkP] at hok hw
   obtain ⟨tv', hf, hok⟩ := hok
   rw [hf] at hw
   have hk0 : k = 0 := by
    cases t <;> first | exact hk rfl | (simp [fieldOf, fieldK] at hf)
   subst hk0
   obtain ⟨h1, h2, h3, h4, _, h5⟩ := RR_field _ _ _ _ _ _ h hf
   have hm' : (∃ b off, src = .mem b off) := by
    rcases hm with hm | ⟨_, _, hm⟩
    ·exact hm
    ·cases hm
   have hs1 := sz_cell h2
   rcases ih _ _ _ _ _ _ _ h1 (fun hc => by rw [h2] at hc; cases hc) hok hw h4 (by simpa using hBO) (.inl hm') with ⟨off, h6, h7, h8⟩ | ⟨r, h6⟩
   ·exact .inl ⟨off, h6, by omega, by omega⟩
   ·exact .inr ⟨.fld n :: r, by simpa using h6⟩
  | el i =>
   cases t with
   | sl e =>
    simp only [okP, walkP] at hok hw
    obtain ⟨hmo, hi, hok⟩ := hok
    simp only [RR, hmo] at h
    obtain ⟨a, cap, h1, h2, h3, h4, h5⟩ := h
    cases a with
    | none => obtain ⟨hx, _⟩ := h5; subst hx; simp at hi
    | some ad =>
     obtain ⟨h6, h7, h8, h9⟩ := h5
     obtain ⟨h10, h11⟩ := h9 i hi
     rcases ih _ _ _ _ _ _ _ h11 (fun _ => rfl) hok hw (fun b off hs => by cases hs; simpa using h10) (by simpa using hBO) (.inl ⟨_, _, rfl⟩) with ⟨off, h12, _, _⟩ | ⟨r, h12⟩
     ·cases h12; exact .inr ⟨[], by simpa using h7⟩
     ·exact .inr ⟨.el i :: r, by simpa using h12⟩
   | _ => simp [okP] at hok

theorem RR_shift {w : World} {g : Gh} {s : Nat} {t : Ty} {m : Md} {p : List Stp} {b off k : Nat} {x : den t} (h : RR w g s t m p (.mem b (off + k)) 0 x) (hk : isCell t = false → k = 0) :
  RR w g s t m p (.mem b off) k x := by
 cases t with
 | pair a c => have := hk rfl; subst this; exact h
 | unit => trivial
 | mp kt et => cases hm : m.isOwn <;> simp only [RR, hm, rdS, Nat.add_zero] at h ⊢ <;> first | exact h | (simp only [RO] at h ⊢; simpa [rdS, Nat.add_zero] using h)
 | bx e => cases hm : m.isOwn <;> simp only [RR, hm, rdS, Nat.add_zero] at h ⊢ <;> first | exact h | (simp only [RO] at h ⊢; simpa [rdS, Nat.add_zero] using h)
 | int kd => simpa [RR, rdS] using h
 | bool => simpa [RR, rdS] using h
 | sl e => cases hm : m.isOwn <;> simp only [RR, hm, rdS, Nat.add_zero] at h ⊢ <;> first | exact h | (simp only [RO] at h ⊢; simpa [rdS, Nat.add_zero] using h)

/-- the fields of a struct, with another one -/
theorem RR_updF {w w' : World} {g g' : Gh} {s : Nat} {m m2 : Md} {p : List Stp} {src : Src} {n : Nat} {f : (t' : Ty) → den t' → Option (den t')}
  (hframe : ∀ (t : Ty) (j : Nat) (x : den t), j ≠ n → isCell t = true → RR w g s t (fldMd m j) (p ++ [.fld j]) src j x → RR w' g' s t (fldMd m2 j) (p ++ [.fld j]) src j x)
  (hA : ∀ j, g'.A s (p ++ [.fld j]) = g.A s (p ++ [.fld j]))
  {tv : TV} (hnew : ∀ y, f tv.t tv.x = some y → RR w' g' s tv.t (fldMd m2 n) (p ++ [.fld n]) src n y) :
  ∀ (t : Ty) (k : Nat) (x x' : den t), RR w g s t m p src k x → fieldK m n t x k = some tv → updF n f t x k = some x' → RR w' g' s t m2 p src k x' := by
 intro t
 induction t with
 | pair a b iha ihb =>
  intro k x x' h htv hu
  simp only [RR, updF, fieldK] at h hu htv ⊢
  obtain ⟨hc, hcb, ha, h1, h2⟩ := h
  cases hkn : Nat.beq k n with
  | true =>
   rw [hkn] at hu htv
   have hkn : k = n := Nat.eq_of_beq_eq_true hkn
   subst hkn
   simp only [Option.some.injEq] at htv
   subst htv
   cases hf : f a x.1 with
   | none => rw [hf] at hu; cases hu
   | some y =>
    rw [hf] at hu
    simp only [Option.some.injEq] at hu
    subst hu
    refine ⟨hc, hcb, fun b' off hb => by rw [hA]; exact ha b' off hb, hnew _ hf, ?_⟩
    -- the rest is as it was
    have key : ∀ (t : Ty) (j : Nat) (z : den t), k < j → isCell t = false → RR w g s t m p src j z → RR w' g' s t m2 p src j z := by
     intro t
     induction t with
     | pair a b _ ihb =>
      intro j z hj _ h
      simp only [RR] at h ⊢
      obtain ⟨hc, hcb, ha, h1, h2⟩ := h
      exact ⟨hc, hcb, fun b' off hb => by rw [hA]; exact ha b' off hb, hframe _ _ _ (by omega) hc h1, ihb (j + 1) z.2 (by omega) hcb h2⟩
     | unit => intro j z _ _ _; trivial
     | _ => intro j z _ h; cases h
    exact key b (k + 1) x.2 (by omega) hcb h2
  | false =>
   rw [hkn] at hu htv
   have hkn : k ≠ n := fun h => by subst h; simp [Nat.beq_refl] at hkn
   cases hf : updF n f b x.2 (k + 1) with
   | none => rw [hf] at hu; cases hu
   | some y =>
    rw [hf] at hu
    simp only [Option.some.injEq] at hu
    subst hu
    exact ⟨hc, hcb, fun b' off hb => by rw [hA]; exact ha b' off hb, hframe _ _ _ hkn hc h1, ihb _ _ _ h2 htv hf⟩
 | _ => intro k x x' h _ hu; simp [updF] at hu

/-- Cells [O, O + n) of block B have new values; all else is as it was. -/
structure Written (w w' : World) (B O n : Nat) : Prop where
 size : w'.heap.size = w.heap.size
 other : ∀ b, b ≠ B → w'.heap[b]? = w.heap[b]?
 out : ∀ o, (o < O ∨ O + n ≤ o) → w'.cell? ⟨B, o, none⟩ = w.cell? ⟨B, o, none⟩
 obj : ∀ c el fr, w.heap[B]? = some (.cells c el fr) → ∃ c', w'.heap[B]? = some (.cells c' el fr) ∧ c'.size = c.size

theorem prefix_app {α : Type} {p q r : List α} : p ++ q <+: p ++ r ↔ q <+: r := List.prefix_append_right_inj p

/-- another part at a path -/
theorem RR_upd {w w' : World} {g g' : Gh} {s : Nat} {B O n : Nat} {tg : List Stp} (hW : Written w w' B O n)
  (hsh : ∀ b l0, b < w.heap.size → shared g.col l0 b → b ≠ B ∧ shared g'.col l0 b)
  (hcol : ∀ b r, g.col b = some (s, r) → ¬ tg <+: r → g'.col b = some (s, r))
  (hH : ∀ r, ¬ tg <+: r → g'.H s r = g.H s r) (hA : ∀ r, (tg <+: r → r = tg) → g'.A s r = g.A s r)
  {t' : Ty} {m' : Md} {y : den t'} (hn : n = sz t') (hnew : RR w' g' s t' m' tg (.mem B O) 0 y) (hBO : g.A s tg = (B, O)) :
  ∀ (q : List Stp) (t : Ty) (m : Md) (p : List Stp) (src : Src) (k : Nat) (x x' : den t) (y0 : den t'), RR w g s t m p src k x → (isCell t = false → k = 0) →
   okP q t m x → walkP q t m x = some ⟨t', m', y0⟩ → updP q t x t' y = some x' → (∀ b off, src = .mem b off → g.A s p = (b, off + k)) → p ++ q = tg → SrcOK g s p src →
   ((∃ b off, src = .mem b off) ∨ (∃ i r, q = .el i :: r)) → RR w' g' s t m p src k x' := by
 intro q
 induction q with
 | nil =>
  intro t m p src k x x' y0 h hk _ hw hu hAp hpq _ hm
  simp only [walkP, Option.some.injEq, TV.mk.injEq] at hw
  obtain ⟨rfl, rfl, _⟩ := hw
  simp only [updP] at hu
  simp only [dite_true, Option.some.injEq] at hu
  subst hu
  simp only [List.append_nil] at hpq
  subst hpq
  rcases hm with ⟨b, off, rfl⟩ | ⟨_, _, h⟩
  ·have := hAp b off rfl
   rw [hBO] at this
   simp only [Prod.mk.injEq] at this
   obtain ⟨rfl, rfl⟩ := this
   exact RR_shift hnew hk
  ·cases h
 | cons c q ih =>
  intro t m p src k x x' y0 h hk hok hw hu hAp hpq hsrc hm
  cases c with
  | dr => simp [okP] at hok
  | fld nf =>
   have hm' : (∃ b off, src = .mem b off) := by
    rcases hm with hm | ⟨_, _, hm⟩
    ·exact hm
    ·cases hm
   obtain ⟨b, off, rfl⟩ := hm'
   simp only [okP, walkP, updP] at hok hw hu
   obtain ⟨tv', hf, hok⟩ := hok
   rw [hf] at hw
   have hk0 : k = 0 := by
    cases t <;> first | exact hk rfl | (simp [fieldOf, fieldK] at hf)
   subst hk0
   obtain ⟨h1, h2, h3, h4, _, h5⟩ := RR_field _ _ _ _ _ _ h hf
   have hs1 := sz_cell h2
   have hloc := RR_loc (B := B) (O := O) q _ _ _ _ _ _ _ h1 (fun hc => by rw [h2] at hc; cases hc) hok hw h4 (by rw [← hBO, ← hpq]; simp) (.inl ⟨_, _, rfl⟩)
   obtain ⟨cb, hcb, hlen⟩ := hsrc b off rfl
   -- cells of the other fields
   have hcells : ∀ j, j ≠ nf → rdS w' (.mem b off) j = rdS w (.mem b off) j := by
    intro j hj
    simp only [rdS]
    rcases hloc with ⟨off', h6, h7, h8⟩ | ⟨r, h6⟩
    ·cases h6
     exact hW.out _ (by simp only at h8; omega)
    ·have hbB : b ≠ B := by
      intro hbB; subst hbB
      rw [hcb] at h6
      simp only [Option.some.injEq, Prod.mk.injEq, true_and] at h6
      subst h6; simp at hlen; omega
     exact cell?_congr (hW.other b hbB)
   have hcolB : ∀ j r, j ≠ nf → g.col B ≠ some (s, p ++ .fld j :: r) := by
    intro j r hj hcB
    rcases hloc with ⟨off', h6, h7, h8⟩ | ⟨r', h6⟩
    ·cases h6
     rw [hcb] at hcB
     simp only [Option.some.injEq, Prod.mk.injEq, true_and] at hcB
     subst hcB; simp at hlen; omega
    ·rw [h6] at hcB
     simp only [Option.some.injEq, Prod.mk.injEq, true_and, List.append_assoc, List.append_cancel_left_eq, List.cons_append, List.nil_append, List.cons.injEq, Stp.fld.injEq] at hcB
     exact hj hcB.1.symm
   have hnp : ∀ j r, j ≠ nf → ¬ tg <+: p ++ .fld j :: r := by
    intro j r hj hp
    rw [← hpq, prefix_app] at hp
    have := List.cons_prefix_cons.1 hp
    simp only [Stp.fld.injEq] at this
    exact hj this.1.symm
   refine RR_updF (n := nf) (f := fun t1 x1 => updP q t1 x1 t' y) (tv := tv') ?_ ?_ ?_ t 0 x x' h hf hu
   ·intro ta j z hj hca hr
    refine RR_frame (Nat.le_of_eq hW.size.symm) (fun b' l0 hb hs => ⟨hW.other _ (hsh b' l0 hb hs).1, (hsh b' l0 hb hs).2⟩) ta _ _ _ _ z hr ?_ ?_ ?_ ?_
    ·intro b' r hb'
     have hb'' : g.col b' = some (s, p ++ .fld j :: r) := by simpa using hb'
     refine ⟨hW.other b' (fun hbb => hcolB j r hj (hbb ▸ hb'')), ?_⟩
     rw [hcol b' _ hb'' (hnp j r hj), hb'']
    ·intro r; simpa using hH (p ++ .fld j :: r) (hnp j r hj)
    ·intro r _; simpa using hA (p ++ .fld j :: r) (fun h => absurd h (hnp j r hj))
    ·intro i hi
     rw [sz_cell hca] at hi
     have : i = 0 := by omega
     subst this
     exact hcells j hj
   ·intro j
    refine hA _ fun hp => ?_
    rw [← hpq, prefix_app] at hp
    have hp' := List.cons_prefix_cons.1 hp
    simp only [Stp.fld.injEq] at hp'
    have : q = [] := List.prefix_nil.1 hp'.2
    subst this
    rw [← hpq, hp'.1]
   ·intro z' hz
    rw [← h3]
    exact ih tv'.t tv'.m _ _ nf tv'.x z' y0 h1 (fun hc => by rw [h2] at hc; cases hc) hok hw hz h4 (by rw [← hpq]; simp) (fun b' off' hb' => by cases hb'; exact ⟨cb, hcb, by simp; omega⟩) (.inl ⟨_, _, rfl⟩)
  | el i =>
   cases t with
   | sl e =>
    simp only [okP, walkP, updP] at hok hw hu
    obtain ⟨hmo, hi, hok⟩ := hok
    have h0 := h
    simp only [RR, hmo] at h ⊢
    obtain ⟨a, cap, h1, h2, h3, h4, h5⟩ := h
    cases a with
    | none => obtain ⟨hx, _⟩ := h5; subst hx; simp at hi
    | some ad =>
     obtain ⟨h6, h7, ⟨c, el, h8, h8'⟩, h9⟩ := h5
     obtain ⟨h10, h11⟩ := h9 i hi
     have hAi : ∀ b off, Src.mem ad.block (ad.off + i * sz e) = .mem b off → g.A s (p ++ [.el i]) = (b, off + 0) := fun b off hs => by cases hs; simpa using h10
     have hloc := RR_loc (B := B) (O := O) q _ _ _ _ _ _ _ h11 (fun _ => rfl) hok hw hAi (by rw [← hBO, ← hpq]; simp) (.inl ⟨_, _, rfl⟩)
     cases hz : updP q e (List.getD x i (dflt e)) t' y with
     | none => rw [hz] at hu; cases hu
     | some z =>
      rw [hz] at hu
      simp only [Option.some.injEq] at hu
      subst hu
      have hnp : ¬ tg <+: p := by
       intro hp
       have := hp.length_le
       rw [← hpq] at this
       simp at this
       omega
      have hnpj : ∀ j r, j ≠ i → ¬ tg <+: p ++ .el j :: r := by
       intro j r hj hp
       rw [← hpq, prefix_app] at hp
       have := List.cons_prefix_cons.1 hp
       simp only [Stp.el.injEq] at this
       exact hj this.1.symm
      -- where B is
      have hB : (B = ad.block ∧ ad.off + i * sz e ≤ O ∧ O + n ≤ ad.off + i * sz e + sz e) ∨ (∃ r, g.col B = some (s, p ++ .el i :: r)) := by
       rcases hloc with ⟨off', h12, h13, h14⟩ | ⟨r, h12⟩
       ·cases h12; left; subst hn; exact ⟨rfl, by omega, by omega⟩
       ·right; exact ⟨r, by simpa using h12⟩
      have hhead : rdS w' src k = rdS w src k := by
       cases src with
       | val cs => rfl
       | mem b off =>
        obtain ⟨cb, hcb, hlen⟩ := hsrc b off rfl
        refine cell?_congr (hW.other b fun hb => ?_)
        subst hb
        rcases hB with ⟨hb, _⟩ | ⟨r, hb⟩
        ·rw [hb, h7] at hcb
         simp only [Option.some.injEq, Prod.mk.injEq, true_and] at hcb
         subst hcb; omega
        ·rw [hcb] at hb
         simp only [Option.some.injEq, Prod.mk.injEq, true_and] at hb
         subst hb; simp at hlen; omega
      refine ⟨some ad, cap, by rw [hhead, h1, hH _ hnp], by rw [hH _ hnp, h2]; simp, by simpa using h3, fun hz' hx => ?_, h6, hcol _ _ h7 hnp, ?_, ?_⟩
      ·have : List.length (List.set x i z) = 0 := by rw [hx]; rfl
       simp at this
       exact absurd hi (by rw [this]; simp)
      ·by_cases hb : ad.block = B
       ·rw [hb] at h8 ⊢
        obtain ⟨c', h12, h13⟩ := hW.obj _ _ _ h8
        exact ⟨c', el, h12, by omega⟩
       ·exact ⟨c, el, by rw [hW.other _ hb]; exact h8, h8'⟩
      ·intro j hj
       simp only [List.length_set] at hj
       by_cases hji : j = i
       ·subst hji
        refine ⟨?_, ?_⟩
        ·rw [hA]
         ·exact h10
         ·intro hp
          rw [← hpq, prefix_app] at hp
          have := List.cons_prefix_cons.1 hp
          have : q = [] := List.prefix_nil.1 this.2
          subst this
          rw [← hpq]
        ·rw [List.getD_eq_getElem?_getD, List.getElem?_set_self hj]
         exact ih e m.el _ _ 0 _ z y0 h11 (fun _ => rfl) hok hw hz hAi (by rw [← hpq]; simp) (fun b' off' hb' => by cases hb'; exact ⟨p, h7, by simp⟩) (.inl ⟨_, _, rfl⟩)
       ·obtain ⟨h12, h13⟩ := h9 j hj
        refine ⟨?_, ?_⟩
        ·rw [hA]
         ·exact h12
         ·intro hp; exact absurd hp (hnpj j [] hji)
        ·rw [List.getD_eq_getElem?_getD, List.getElem?_set_ne (Ne.symm hji), ← List.getD_eq_getElem?_getD]
         refine RR_frame (Nat.le_of_eq hW.size.symm) (fun b' l0 hb hs => ⟨hW.other _ (hsh b' l0 hb hs).1, (hsh b' l0 hb hs).2⟩) e _ _ _ _ _ h13 ?_ ?_ ?_ ?_
         ·intro b' r hb'
          have hb'' : g.col b' = some (s, p ++ .el j :: r) := by simpa using hb'
          refine ⟨hW.other b' fun hbb => ?_, by rw [hcol b' _ hb'' (hnpj j r hji), hb'']⟩
          subst hbb
          rcases hB with ⟨hb, _⟩ | ⟨r', hb⟩
          ·rw [hb, h7] at hb''
           simp at hb''
          ·rw [hb] at hb''
           simp only [Option.some.injEq, Prod.mk.injEq, true_and, List.append_cancel_left_eq, List.cons.injEq, Stp.el.injEq] at hb''
           exact hji hb''.1.symm
         ·intro r; simpa using hH (p ++ .el j :: r) (hnpj j r hji)
         ·intro r _; simpa using hA (p ++ .el j :: r) (fun h => absurd h (hnpj j r hji))
         ·intro o ho
          simp only [Nat.zero_add, rdS]
          by_cases hb : ad.block = B
          ·rw [hb]
           refine hW.out _ ?_
           rcases hB with ⟨_, h14, h15⟩ | ⟨r', hb'⟩
           ·rcases Nat.lt_or_gt_of_ne hji with hlt | hgt
            ·left
             have : (j + 1) * sz e ≤ i * sz e := Nat.mul_le_mul_right _ hlt
             rw [Nat.add_mul] at this
             omega
            ·right
             have : (i + 1) * sz e ≤ j * sz e := Nat.mul_le_mul_right _ hgt
             rw [Nat.add_mul] at this
             omega
           ·rw [← hb, h7] at hb'
            simp at hb'
          ·exact cell?_congr (hW.other _ hb)
   | _ => simp [okP] at hok
end Go.Ab
