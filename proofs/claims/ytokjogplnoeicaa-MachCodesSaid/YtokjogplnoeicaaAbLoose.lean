/- Values that are taken to be kept: on their way to a slot. -/
import Derived.Test.YtokjogplnoeicaaAbMem
namespace Go.Ab

section
variable {P : Program} {T : Tab} {Φ : Nat → Option Contract} {w0 w : World} {mu : Mu} {st : St} {a : Act} {g : Gh} {R : Type} {o : Oper} {K : AV → St → Option R} {r : R} {val : Nat → Value} {U : Nat → Prop}

theorem RR_weak' {w : World} {g : Gh} {s : Nat} : ∀ (t : Ty) (m m' : Md) (p : List Stp) (src : Src) (k : Nat) (x : den t), RR w g s t m p src k x → leM t k m m' = true → m.hasOwn = false →
  RR w g s t m' p src k x := by
 intro t
 induction t with
 | int kd => intro m m' p src k x h _ _; exact h
 | bool => intro m m' p src k x h _ _; exact h
 | unit => intros; trivial
 | mp kt et _ _ =>
  intro m m' p src k x h hl hm
  have h1 := isOwn_hasOwn hm
  simp only [leM, Bool.and_eq_true] at hl
  have h2 : m'.isOwn = false := by
   cases m' with
   | own => have := hl.1; simp [Md.fits, h1] at this
   | _ => rfl
  simp only [RR, h1, h2] at h ⊢
  have hb : bimp m.lent? m'.lent? = true := by
   cases m' with
   | bor l nz => simpa [Md.fits, h1, Md.lent?] using hl.1
   | own => cases h2
   | pair => simp [Md.fits] at hl
  exact RO_conv hb (Nat.le_refl _) (fun b _ hs => ⟨rfl, shared_imp hs hb⟩) (.mp kt et) _ _ _ _ h (fun _ _ => rfl)
 | bx e _ =>
  intro m m' p src k x h hl hm
  have h1 := isOwn_hasOwn hm
  simp only [leM, Bool.and_eq_true] at hl
  have h2 : m'.isOwn = false := by
   cases m' with
   | own => have := hl.1; simp [Md.fits, h1] at this
   | _ => rfl
  simp only [RR, h1, h2] at h ⊢
  have hb : bimp m.lent? m'.lent? = true := by
   cases m' with
   | bor l nz => simpa [Md.fits, h1, Md.lent?] using hl.1
   | own => cases h2
   | pair => simp [Md.fits] at hl
  exact RO_conv hb (Nat.le_refl _) (fun b _ hs => ⟨rfl, shared_imp hs hb⟩) (.bx e) _ _ _ _ h (fun _ _ => rfl)
 | pair a b iha ihb =>
  intro m m' p src k x h hl hm
  simp only [RR, leM, Bool.and_eq_true] at *
  obtain ⟨hc, hcb, ha, h1, h2⟩ := h
  exact ⟨hc, hcb, ha, iha _ _ _ _ _ _ h1 (by rw [leM_cell hc k 0]; exact hl.1) (hasOwn_fld hm _), ihb _ _ _ _ _ _ h2 hl.2 hm⟩
 | sl e ih =>
  intro m m' p src k x h hl hm
  have h1 := isOwn_hasOwn hm
  have h2 : m'.isOwn = false := by
   simp only [leM, Bool.and_eq_true] at hl
   cases m' with
   | own => have := hl.1.1; simp [Md.fits, h1] at this
   | _ => rfl
  simp only [leM, Bool.and_eq_true] at hl
  obtain ⟨⟨hl1, hl2⟩, _⟩ := hl
  simp only [RR, h1, h2] at h ⊢
  have hb : bimp m.lent? m'.lent? = true := by
   cases m' with
   | bor l nz => simpa [Md.fits, h1, Md.lent?] using hl1
   | own => cases h2
   | pair => simp [Md.fits] at hl1
  exact ⟨RO_conv hb (Nat.le_refl _) (fun b _ hs => ⟨rfl, shared_imp hs hb⟩) (.sl e) _ _ _ _ h.1 (fun _ _ => rfl), fun hz hx => h.2 (by cases hq : m.nz? <;> simp_all [bimp]) hx⟩

/-- A value on its way to slot d, path p; what was owned by s0 has been taken. -/
structure Loose (w0 : World) (mu : Mu) (w : World) (st st1 : St) (g g2 : Gh) (s0 d : Nat) (p : List Stp) (t : Ty) (m : Md) (x : den t) (v : Value) : Prop where
 sh : ∀ b l0, shared g.col l0 b → shared g2.col l0 b
 un : ∀ b s r, g.col b = some (s, r) → s ≠ s0 → g2.col b = g.col b
 H : ∀ s, s ≠ s0 → ∀ q, (s = d → strip p q = none) → g2.H s q = g.H s q
 A : ∀ s, s ≠ s0 → ∀ q, (s = d → ∀ r, strip p q = some r → r = []) → g2.A s q = g.A s q
 cols : ∀ b k, g2.col b = some k → b < w.heap.size ∧ (k = lentC ∨ w0.heap.size ≤ b ∨ mu b)
 lk : ∀ b, g.col b = some lentC → g2.col b = some lentC
 shape : shapeV t v
 rr : RR w g2 d t m p (.val v.cells) 0 x
 dead : (s0 = lentC.1 ∧ st1 = st) ∨ (¬ mu.far s0 ∧ st1 = st.set s0 .dead)

theorem Loose.c {st1 : St} {g2 : Gh} {s0 d : Nat} {p : List Stp} {t : Ty} {m : Md} {x : den t} {v : Value} (h : Loose w0 mu w st st1 g g2 s0 d p t m x v) : st1.c = st.c := by
 rcases h.dead with ⟨_, h⟩ | ⟨_, h⟩ <;> rw [h]; rfl
theorem Loose.get {st1 : St} {g2 : Gh} {s0 d : Nat} {p : List Stp} {t : Ty} {m : Md} {x : den t} {v : Value} (h : Loose w0 mu w st st1 g g2 s0 d p t m x v) (hI : Inv w0 mu st.get val U w g) (u : Nat) :
  st1.get u = if u = s0 then .dead else st.get u := by
 rcases h.dead with ⟨h1, h⟩ | ⟨_, h⟩
 ·rw [h, h1]
  by_cases hu : u = lentC.1
  ·rw [hu, hI.lent]; simp
  ·simp [hu]
 ·rw [h, get_set]

/-- a nil slice at (d, p) -/
def Gh.nil (g : Gh) (d : Nat) (p : List Stp) : Gh where
 col := g.col
 H s q := if s = d ∧ q = p then .slice none 0 0 else g.H s q
 A := g.A

theorem RR_nilS {w : World} {g : Gh} {d : Nat} {p : List Stp} {e : Ty} {m : Md} (hH : g.H d p = .slice none 0 0) : RR w g d (.sl e) m p (.val (Value.slice none 0 0).cells) 0 ([] : List (den e)) := by
 cases hm : m.isOwn with
 | true => simp only [RR, hm]; exact ⟨none, 0, by rw [hH]; rfl, hH, Nat.le_refl _, fun _ _ => rfl, by simp⟩
 | false => simp only [RR, hm, RO]; exact ⟨⟨none, 0, rfl, Nat.le_refl _, by simp⟩, fun _ _ => ⟨0, 0, rfl⟩⟩

theorem loose_nil (hI : Inv w0 mu st.get val U w g) (d : Nat) (p : List Stp) (e : Ty) (m : Md) : Loose w0 mu w st st g (g.nil d p) lentC.1 d p (.sl e) m ([] : List (den e)) (.slice none 0 0) where
 sh _ _ h := h
 un _ _ _ _ _ := rfl
 H s _ q h := by
  simp only [Gh.nil]
  rw [if_neg]
  rintro ⟨h1, h2⟩
  have h3 := h h1
  have h4 := strip_app p []
  rw [List.append_nil] at h4
  rw [h2, h4] at h3; cases h3
 A _ _ _ _ := rfl
 cols := hI.cols
 lk _ h := h
 shape := rfl
 rr := RR_nilS (by simp [Gh.nil])
 dead := .inl ⟨rfl, rfl⟩

theorem RR_nilP {w : World} {g : Gh} {d : Nat} {p : List Stp} {e : Ty} {m : Md} : RR w g d (.bx e) m p (.val (Value.pointer none).cells) 0 (none : Option (den e)) := by
 cases hm : m.isOwn with
 | true => simp only [RR, hm]; exact ⟨none, rfl, trivial⟩
 | false => simp only [RR, hm, RO]; exact ⟨none, rfl, trivial⟩
theorem loose_nilP (hI : Inv w0 mu st.get val U w g) (d : Nat) (p : List Stp) (e : Ty) (m : Md) : Loose w0 mu w st st g g lentC.1 d p (.bx e) m (none : Option (den e)) (.pointer none) where
 sh _ _ h := h
 un _ _ _ _ _ := rfl
 H _ _ _ _ := rfl
 A _ _ _ _ := rfl
 cols := hI.cols
 lk _ h := h
 shape := rfl
 rr := RR_nilP
 dead := .inl ⟨rfl, rfl⟩

theorem loose_free (hI : Inv w0 mu st.get val U w g) (d : Nat) (p : List Stp) {t : Ty} {m m' : Md} {x : den t} {v : Value} (hv : VR w g st.get (.v t m x) v) (hle : leM t 0 m m' = true) : Loose w0 mu w st st g g lentC.1 d p t m' x v where
 sh _ _ h := h
 un _ _ _ _ _ := rfl
 H _ _ _ _ := rfl
 A _ _ _ _ := rfl
 cols := hI.cols
 lk _ h := h
 shape := hv.2.1
 rr := RR_weak' _ _ _ _ _ _ _ (RR_free (Nat.le_refl _) (fun b l0 _ hb => ⟨rfl, hb⟩) t m [] p _ _ 0 0 x hv.2.2 hv.1 (fun _ => rfl) (fun _ _ => rfl)) hle hv.1
 dead := .inl ⟨rfl, rfl⟩
theorem loose_free' (hI : Inv w0 mu st.get val U w g) (d : Nat) (p : List Stp) {t : Ty} {m : Md} {x : den t} {v : Value} (hv : VR w g st.get (.v t m x) v) : Loose w0 mu w st st g g lentC.1 d p t m x v where
 sh _ _ h := h
 un _ _ _ _ _ := rfl
 H _ _ _ _ := rfl
 A _ _ _ _ := rfl
 cols := hI.cols
 lk _ h := h
 shape := hv.2.1
 rr := RR_free (Nat.le_refl _) (fun b l0 _ hb => ⟨rfl, hb⟩) t m [] p _ _ 0 0 x hv.2.2 hv.1 (fun _ => rfl) (fun _ _ => rfl)
 dead := .inl ⟨rfl, rfl⟩

theorem loose_move (hI : Inv w0 mu st.get val U w g) (d : Nat) (p : List Stp) {s0 : Nat} {p0 : List Stp} {g1 : Gh} {t : Ty} {m0 m : Md} {x : den t} {v : Value} (hs : ¬ mu.far s0) (hcol : g1.col = g.col) (hH : ∀ s, s ≠ s0 → g1.H s = g.H s) (hA : ∀ s, s ≠ s0 → g1.A s = g.A s)
  (hsv : shapeV t v) (hr : RR w g1 s0 t m0 p0 (.val v.cells) 0 x) (hle : leM t 0 m0 m = true) : Loose w0 mu w st (st.set s0 .dead) g (g1.move s0 p0 d p m) s0 d p t m x v where
 sh b l h := move_shared (Mu.ne hs) (by rw [hcol]; exact h)
 un b s r hb hs0 := by simp only [Gh.move, hcol, hb, hs0, if_false]
 H s hs0 q h := by
  simp only [Gh.move]
  by_cases hsd : s = d
  ·rw [if_pos hsd, h hsd, hH s hs0]
  ·rw [if_neg hsd, hH s hs0]
 A s hs0 q h := by
  simp only [Gh.move]
  by_cases hsd : s = d
  ·rw [if_pos hsd]
   cases hq : strip p q with
   | none => simp only [hA s hs0]
   | some r => simp only [h hsd r hq, if_true, hA s hs0]
  ·rw [if_neg hsd, hA s hs0]
 lk b h := move_lk (Mu.ne hs) (by rw [hcol]; exact h)
 cols := move_cols (Q := fun b => b < w.heap.size) (R := fun b => w0.heap.size ≤ b ∨ mu b) (Mu.ne hs) fun b k hb => hI.cols b k (by rw [← hcol]; exact hb)
 shape := hsv
 rr := RR_move (Mu.ne hs) (Nat.le_refl _) (fun _ _ => rfl) (fun b k hb => (hI.cols b k (by rw [← hcol]; exact hb)).1) hr hle (fun _ _ h => h) (fun _ _ => rfl)
 dead := .inr ⟨hs, rfl⟩

theorem loose_moveA (hI : Inv w0 mu st.get val U w g) (d : Nat) (p : List Stp) {s0 : Nat} {p0 : List Stp} {g1 : Gh} {t : Ty} {m : Md} {x : den t} {v : Value} (hs : ¬ mu.far s0) (hcol : g1.col = g.col) (hH : ∀ s, s ≠ s0 → g1.H s = g.H s) (hA : ∀ s, s ≠ s0 → g1.A s = g.A s)
  (hsv : shapeV t v) (hr : RR w g1 s0 t m p0 (.val v.cells) 0 x) : Loose w0 mu w st (st.set s0 .dead) g (g1.moveA s0 p0 d p) s0 d p t m x v where
 sh b l h := moveA_shared (Mu.ne hs) (by rw [hcol]; exact h)
 un b s r hb hs0 := by simp only [Gh.moveA, hcol, hb, hs0, if_false]
 H s hs0 q h := by
  simp only [Gh.moveA]
  by_cases hsd : s = d
  ·rw [if_pos hsd, h hsd, hH s hs0]
  ·rw [if_neg hsd, hH s hs0]
 A s hs0 q h := by
  simp only [Gh.moveA]
  by_cases hsd : s = d
  ·rw [if_pos hsd]
   cases hq : strip p q with
   | none => simp only [hA s hs0]
   | some r => simp only [h hsd r hq, if_true, hA s hs0]
  ·rw [if_neg hsd, hA s hs0]
 lk b h := moveA_lk (Mu.ne hs) (by rw [hcol]; exact h)
 cols := moveA_cols (Q := fun b => b < w.heap.size) (R := fun b => w0.heap.size ≤ b ∨ mu b) (Mu.ne hs) fun b k hb => hI.cols b k (by rw [← hcol]; exact hb)
 shape := hsv
 rr := RR_moveA (Mu.ne hs) hr
 dead := .inr ⟨hs, rfl⟩

/-- a take, for (d, p) -/
theorem take_loose {av : AV} {t : Ty} {m : Md} {k : den t → St → Option R} {r : R} {v : Value} (h : take st av t m k = some r) (hI : Inv w0 mu st.get val U w g) (hv : VR w g st.get av v) (d : Nat) (p : List Stp) :
  ∃ y st1 g2 s0, k y st1 = some r ∧ Loose w0 mu w st st1 g g2 s0 d p t m y v := by
 obtain ⟨y, st1, hk, h1⟩ := take_sound h hI hv
 rcases h1 with ⟨rfl, h1⟩ | ⟨s0, g1, m0, p0, hs, rfl, hcol, hH, hA, hsv, hr, hle⟩
 ·rcases h1 with ⟨m', rfl, hle⟩ | ⟨e, rfl, rfl, rfl, rfl⟩ | ⟨e, rfl, rfl, rfl, rfl⟩
  ·exact ⟨y, st1, g, _, hk, loose_free hI d p hv hle⟩
  ·exact ⟨_, st1, _, _, hk, loose_nil hI d p e m⟩
  ·exact ⟨_, st1, _, _, hk, loose_nilP hI d p e m⟩
 ·exact ⟨y, _, _, s0, hk, loose_move hI d p hs hcol hH hA hsv hr hle⟩

theorem takeAny_loose {av : AV} {t : Ty} {k : Md → den t → St → Option R} {r : R} {v : Value} (h : takeAny st av t k = some r) (hI : Inv w0 mu st.get val U w g) (hv : VR w g st.get av v) (d : Nat) (p : List Stp) :
  ∃ m y st1 g2 s0, k m y st1 = some r ∧ Loose w0 mu w st st1 g g2 s0 d p t m y v := by
 unfold takeAny at h
 split at h
 ·split at h
  ·rename_i ht; subst ht
   refine ⟨_, _, st, g, _, h, loose_free' hI d p ?_⟩
   rename_i t' _ _
   cases t' with
   | int k => exact ⟨rfl, hv.2.1, hv.2.2⟩
   | bool => exact ⟨rfl, hv.2.1, hv.2.2⟩
   | _ => exact hv
  ·cases h
 ·split at h
  ·rename_i o ho
   split at h
   ·obtain ⟨k1, e1, m', x, hat, hm', h⟩ := Own.mp_some h
    split at h
    ·rename_i ht; cases ht
     split at h
     ·rename_i hnz
      obtain ⟨hv1, hok⟩ := hv o ho
      obtain ⟨b, h8, h9⟩ := alias_map hI ho hok hat hm' hnz
      exact ⟨_, _, _, _, _, h, loose_moveA hI d p (own_not_far hI ho) rfl (fun _ _ => rfl) (fun _ _ => rfl) (by rw [hv1, h8]; rfl) (by rw [hv1]; exact h9)⟩
     ·cases h
    ·cases h
   ·obtain ⟨e, m', x, hat, hm', h⟩ := Own.sl_some h
    split at h
    ·rename_i ht; subst ht
     obtain ⟨hv1, hok⟩ := hv o ho
     obtain ⟨a, cap, h8, h9⟩ := alias_node hI ho hok hat hm'
     exact ⟨_, _, _, _, _, h, loose_moveA hI d p (own_not_far hI ho) rfl (fun _ _ => rfl) (fun _ _ => rfl) (by rw [hv1, h8]; rfl) (by rw [hv1]; exact h9)⟩
    ·cases h
  ·cases h
 ·split at h
  ·obtain rfl : v = .slice none 0 0 := hv
   exact ⟨_, _, st, _, _, h, loose_nil hI d p _ _⟩
  ·cases h
 ·cases h

/-- into a slot of its own -/
theorem Loose.put {st1 : St} {g2 : Gh} {s0 d : Nat} {t : Ty} {m : Md} {x : den t} {v : Value} (h : Loose w0 mu w st st1 g g2 s0 d [] t m x v) (hU : New U st1.c) (hI : Inv w0 mu st.get val U w g) (hd : ¬ mu.far d) :
  Inv w0 mu (fun u => if u = d then .ow st1.c t m x else st1.get u) (fun u => if u = d then v else val u) (Nw U st1.c) w g2 := by
 have := Inv_put hI s0 d (.ow st1.c t m x) v (U' := Nw U st1.c) (fun _ => Nw_old) (Nat.le_refl _) (fun b l0 _ hb => ⟨rfl, h.sh b l0 hb⟩) (fun b s r hb _ h2 => ⟨rfl, h.un b s r hb h2⟩)
  (fun s h1 h2 p => h.H s h2 p (fun h => absurd h h1)) (fun s h1 h2 p => h.A s h2 p (fun h => absurd h h1)) ⟨h.shape, h.rr⟩ Nw_0 (fun n hn => own?_new hU hn) (fun n p hn => ownP?_new hU hn) h.cols hI.fr hd h.lk
 refine Inv_congr this (fun u => ?_) (fun _ => rfl)
 rw [h.get hI]
end
end Go.Ab
