/- Arguments that are lent. -/
import Derived.Test.YtokjogplnoeicaaAbRes
namespace Go.Ab

/-- where nothing is handed over, what the caller owns is lent -/
def Gh.lend (g : Gh) : Gh where
 col b := match g.col b with | none => none | some _ => some lentC
 H := g.H
 A := g.A
theorem lend_all {g : Gh} {b : Nat} : shared g.lend.col true b := by
 simp only [shared, Gh.lend]
 cases g.col b <;> simp
theorem lend_sh {g : Gh} {b : Nat} {l : Bool} (h : shared g.col l b) : shared g.lend.col l b := by
 rcases h with h | ⟨h, h'⟩
 ·left; simp [Gh.lend, h]
 ·right; simp [Gh.lend, h', h]

/-- what the caller keeps is lent -/
structure Lends (g gL : Gh) : Prop where
 low : ∀ b k, g.col b = some k → k.1 < argS → gL.col b = some lentC
 non : ∀ b, g.col b = none → gL.col b = none
theorem lend_lends (g : Gh) : Lends g g.lend := ⟨fun b k h _ => by simp [Gh.lend, h], fun b h => by simp [Gh.lend, h]⟩
theorem Lends.sh {g gL : Gh} (h : Lends g gL) {b : Nat} {l : Bool} (hs : shared g.col l b) : shared gL.col l b := by
 rcases hs with hs | ⟨hs, hs'⟩
 ·exact .inl (h.non b hs)
 ·exact .inr ⟨hs, h.low b _ hs' (by decide)⟩
theorem Lends.sh' {g gL : Gh} (h : Lends g gL) {b : Nat} {l : Bool} (hs : shared g.col l b) : shared gL.col true b := by
 rcases hs with hs | ⟨_, hs'⟩
 ·exact .inl (h.non b hs)
 ·exact .inr ⟨rfl, h.low b _ hs' (by decide)⟩

section
variable {P : Program} {T : Tab} {Φ : Nat → Option Contract} {w0 w : World} {mu : Mu} {st : St} {a : Act} {g gL : Gh} {R : Type} {o : Oper} {K : AV → St → Option R} {r : R} {val : Nat → Value} {U : Nat → Prop}

theorem leM_lent : ∀ (t : Ty) (k : Nat) (m : Md), leM t k m (.bor true false) = true := by
 intro t
 induction t with
 | sl e ih =>
  intro k m
  simp only [leM, Md.fits, Md.nz?, Md.el, bimp, Bool.and_true, Bool.and_eq_true]
  exact ⟨by cases m.isOwn <;> cases m.lent? <;> rfl, ih 0 _⟩
 | pair a b iha ihb =>
  intro k m
  simp only [leM, fld_bor, Bool.and_eq_true]
  exact ⟨iha _ _, ihb _ _⟩
 | mp a b iha ihb =>
  intro k m
  simp only [leM, Md.fits, Md.nz?, bimp, Bool.and_true]
  cases m.isOwn <;> cases m.lent? <;> rfl
 | bx e ih =>
  intro k m
  simp only [leM, Md.fits, Md.el, bimp, Bool.and_eq_true]
  exact ⟨by cases m.isOwn <;> cases m.lent? <;> rfl, ih 0 _⟩
 | _ => intro k m; rfl

/-- a place in memory lies in a block of its owner's -/
theorem RR_atC {s : Nat} : ∀ (q : List Stp) (t : Ty) (m : Md) (p : List Stp) (src : Src) (k : Nat) (x : den t) (tv : TV), RR w g s t m p src k x → (isCell t = false → k = 0) →
  okP q t m x → walkP q t m x = some tv → (∀ b off, src = .mem b off → g.A s p = (b, off + k) ∧ ∃ cb, g.col b = some (s, cb)) → ((∃ b off, src = .mem b off) ∨ ∃ i, Stp.el i ∈ q) → ∃ cb, g.col (g.A s (p ++ q)).1 = some (s, cb) := by
 intro q
 induction q with
 | nil =>
  intro t m p src k x tv _ _ _ _ hA hm
  rcases hm with ⟨b, off, hm⟩ | ⟨i, hm⟩
  ·obtain ⟨h1, h2⟩ := hA b off hm
   rw [List.append_nil, h1]; exact h2
  ·cases hm
 | cons c q ih =>
  intro t m p src k x tv h hk hok hw hA hm
  cases c with
  | dr => simp [okP] at hok
  | fld n =>
   simp only [okP, walkP] at hok hw
   obtain ⟨tv', hf, hok⟩ := hok
   rw [hf] at hw
   have hk0 : k = 0 := by
    cases t <;> first | exact hk rfl | (simp [fieldOf, fieldK] at hf)
   subst hk0
   obtain ⟨h1, h2, h3, h4, _, _⟩ := RR_field _ _ _ _ _ _ h hf
   have := ih _ _ _ _ _ _ _ h1 (fun hc => by rw [h2] at hc; cases hc) hok hw (fun b off hb => ⟨h4 b off hb, (hA b off hb).2⟩) (by
    rcases hm with hm | ⟨i, hm⟩
    ·exact .inl hm
    ·exact .inr ⟨i, by simpa using hm⟩)
   simpa using this
  | el i =>
   cases t with
   | sl e =>
    simp only [okP, walkP] at hok hw
    obtain ⟨hmo, hi, hok⟩ := hok
    simp only [RR, hmo] at h
    obtain ⟨ad, cap, h1, h2, h3, h4, h5⟩ := h
    cases ad with
    | none => obtain ⟨hx, _⟩ := h5; subst hx; simp at hi
    | some ad =>
     obtain ⟨h6, h7, h8, h9⟩ := h5
     obtain ⟨h10, h11⟩ := h9 i hi
     have := ih _ _ _ _ _ _ _ h11 (fun _ => rfl) hok hw (fun b off hs => by cases hs; exact ⟨by simpa using h10, _, h7⟩) (.inl ⟨_, _, rfl⟩)
     simpa using this
   | _ => simp [okP] at hok
theorem owner_col {av : Nat → AV} {s : Nat} {a : AV} {v : Value} {o : Own} {p : List Stp} {tv : TV} (h : SlotR w g av s a v)
  (ha : (o.box = false ∧ ∃ n, a = .ow n o.t o.m o.x) ∨ (o.box = true ∧ ∃ n1 n2, a = .box n1 n2 o.t o.m o.x)) (hok : o.ok p) (hat : o.at p = some tv) (hm : o.mem p) : ∃ cb, g.col (g.A s p).1 = some (s, cb) := by
 obtain ⟨ob, ot, om, ox⟩ := o
 rcases ha with ⟨hb, n, rfl⟩ | ⟨hb, n1, n2, rfl⟩
 ·simp only at hb; subst hb
  obtain ⟨h1, h2⟩ := h
  have hw : walkP p ot om ox = some tv := by
   cases p with
   | nil => simpa [Own.at] using hat
   | cons c p => cases c <;> simp [Own.at] at hat ⊢ <;> exact hat
  have hok' : okP p ot om ox := by
   cases p with
   | nil => trivial
   | cons c p => cases c <;> simpa [Own.ok] using hok
  have := RR_atC p ot om [] _ 0 ox tv h2 (fun _ => rfl) hok' hw (fun _ _ h => by cases h) (.inr (by
   rcases hm with hm | hm
   ·cases hm
   ·exact hm))
  simpa using this
 ·simp only at hb; subst hb
  obtain ⟨b, c, el, h1, h2, h3, h4, h5, h6⟩ := h
  cases p with
  | nil => simp [Own.ok] at hok
  | cons q p =>
   cases q with
   | dr =>
    have hw : walkP p ot om ox = some tv := by simpa [Own.at] using hat
    have hok' : okP p ot om ox := by simpa [Own.ok] using hok
    have := RR_atC p ot om [.dr] _ 0 ox tv h6 (fun _ => rfl) hok' hw (fun b' off hb' => by cases hb'; exact ⟨by simpa using h5, _, h2⟩) (.inl ⟨_, _, rfl⟩)
    simpa using this
   | fld n => simp [Own.ok] at hok
   | el i => simp [Own.ok] at hok

theorem own_lend (hL : Lends g gL) {s : Nat} (hs : s < argS) {t : Ty} {m : Md} {p : List Stp} {src : Src} {k : Nat} {x : den t} {rd : Nat → Option Value} (hc : isCell t = true) (h : RR w g s t m p src k x) (hr : rd 0 = rdS w src k) : RO w gL.col true t rd 0 x := by
 have h1 := RR_toRO (w' := w) (col' := gL.col) (l := true) (Nat.le_refl _) (fun b l0 _ hs _ => ⟨rfl, hL.sh' hs⟩) t m false p src k x (rdS w src) h (leM_lent _ _ _) (fun b r hb => ⟨rfl, .inr ⟨rfl, hL.low b _ hb hs⟩⟩) (fun _ _ => rfl)
 refine RO_shift t _ _ _ _ _ h1 fun j hj => ?_
 rw [sz_cell hc] at hj
 have : j = 0 := by omega
 subst this; exact hr

theorem own_low (hfar : ∀ s, lentC.1 ≤ s → mu.far s) (hI : Inv w0 mu st.get val U w g) {s n : Nat} {o : Own} (ho : own? (st.get s) n = some o) : s < argS := by
 have h1 := own_not_far hI ho
 have h2 : ¬ lentC.1 ≤ s := fun h => h1 (hfar s h)
 have h3 : lentC.1 < argS := by decide
 omega
theorem ownP_low (hfar : ∀ s, lentC.1 ≤ s → mu.far s) (hI : Inv w0 mu st.get val U w g) {s n : Nat} {p : List Stp} {o : Own} (ho : ownP? (st.get s) n p = some o) : s < argS := by
 have h2 : ¬ lentC.1 ≤ s := fun h => by rw [hI.far s (hfar s h)] at ho; cases ho
 have h3 : lentC.1 < argS := by decide
 omega

theorem asRead_sound (hfar : ∀ s, lentC.1 ≤ s → mu.far s) (hL : Lends g gL) (hI : Inv w0 mu st.get val U w g) {av : AV} {t : Ty} {nz : Bool} {k : den t → Option R} {r : R} {v : Value} (h : asRead st av t nz k = some r) (hv : VR w g st.get av v) :
  ∃ x, k x = some r ∧ ∀ av', VR w gL av' (.v t (.bor true nz) x) v := by
 unfold asRead at h
 split at h
 ·rename_i t' m' x
  split at h
  ·rename_i ht; subst ht
   split at h
   ·rename_i hl
    refine ⟨x, h, fun av' => ⟨rfl, hv.2.1, ?_⟩⟩
    exact RR_free (Nat.le_refl _) (fun b l0 _ hs => ⟨rfl, hL.sh hs⟩) t' _ [] [] _ _ 0 0 x (RR_weak _ _ _ _ _ _ _ hv.2.2 hl hv.1 rfl) rfl (fun _ => rfl) (fun _ _ => rfl)
   ·cases h
  ·cases h
 ·split at h
  ·obtain rfl : v = .slice none 0 0 := hv
   exact ⟨[], h, fun av' => VR_nil rfl⟩
  ·cases h
 ·rename_i s n p
  split at h
  ·rename_i o ho
   split at h
   ·obtain ⟨k1, e1, m, x, hat, hm, h⟩ := Own.mp_some h
    split at h
    ·rename_i ht; cases ht
     split at h
     ·rename_i hnz
      obtain ⟨h1, hok⟩ := hv o ho
      obtain ⟨b, h2, h3⟩ := alias_map hI ho hok hat hm hnz
      refine ⟨x, h, fun av' => ⟨rfl, by rw [h1, h2]; rfl, ?_⟩⟩
      simp only [RR, Md.isOwn, Md.lent?]
      exact own_lend hL (own_low hfar hI ho) rfl h3 (by rw [h1])
     ·cases h
    ·cases h
   ·obtain ⟨e, m, x, hat, hm, h⟩ := Own.sl_some h
    split at h
    ·rename_i ht; subst ht
     split at h
     ·rename_i hl
      obtain ⟨h1, hok⟩ := hv o ho
      obtain ⟨ad, cap, h2, h3⟩ := alias_node hI ho hok hat hm
      refine ⟨x, h, fun av' => ⟨rfl, by rw [h1, h2]; rfl, ?_⟩⟩
      simp only [RR, Md.isOwn, Md.lent?, Md.nz?]
      refine ⟨own_lend hL (own_low hfar hI ho) rfl h3 (by rw [h1]), fun hz hx => ?_⟩
      simp only [RR, hm] at h3
      obtain ⟨a', c', g1, g2, _, g4, _⟩ := h3
      simp only [leM, Bool.and_eq_true] at hl
      have hz' : m.nz? = true := by
       have := hl.1.2
       rw [hz] at this
       simpa [Md.nz?, bimp] using this
      have := g4 hz' hx
      subst this
      exact ⟨_, _, by rw [h1, g2]; rfl⟩
     ·cases h
    ·cases h
  ·cases h
 ·rename_i s n p lo len cp
  split at h
  ·rename_i o ho
   obtain ⟨e, m, x, hat, hm, h⟩ := Own.sl_some h
   split at h
   ·rename_i ht; subst ht
    obtain ⟨hok, e', m', x', ad, c, M, h1, h2, h3, h4, h5, h6, h7⟩ := hv o ho
    rw [hat] at h1
    simp only [Option.some.injEq, TV.mk.injEq, Ty.sl.injEq] at h1
    obtain ⟨rfl, rfl, h1⟩ := h1
    have h1 := eq_of_heq h1
    subst h1
    obtain ⟨ad', cap', h8, h9⟩ := alias_node hI ho hok hat hm
    rw [h2] at h8
    simp only [Value.slice.injEq] at h8
    obtain ⟨rfl, _, rfl⟩ := h8
    refine ⟨_, h, fun av' => ⟨rfl, by rw [h7]; rfl, ?_⟩⟩
    simp only [RR, Md.isOwn, Md.lent?, Md.nz?]
    refine ⟨?_, fun h => by cases h⟩
    have h10 := RO_sub (own_lend (rd := fun _ => some (.slice ad x.length c)) hL (own_low hfar hI ho) (t := .sl e) rfl h9 (by rw [h2]; rfl)) h3 h4 h5 h7
    exact RO_shift (.sl e) _ _ 0 0 _ h10 (fun j hj => by simp [sz] at hj; subst hj; rw [h7]; rfl)
   ·cases h
  ·cases h
 ·cases h

theorem cell_block {b o : Nat} {v : Value} (h : w.cell? ⟨b, o, none⟩ = some v) : b < w.heap.size := by
 rcases Nat.lt_or_ge b w.heap.size with hlt | hge
 ·exact hlt
 ·simp [World.cell?, Array.getElem?_eq_none hge] at h

theorem asPtr_sound (hfar : ∀ s, lentC.1 ≤ s → mu.far s) (hL : Lends g gL) (hI : Inv w0 mu st.get (Vals a) U w g) {av : AV} {t : Ty} {m : Md} {nz : Bool} (hm : m = .bor true nz) {k : den t → Option R} {r : R} {v : Value} (h : asPtr st av t m k = some r) (hv : VR w g st.get av v) :
  ∃ x, k x = some r ∧ ∀ av', VR0 w gL av' (.rop t m x) v := by
 subst hm
 unfold asPtr at h
 split at h
 ·rename_i s n p
  split at h
  ·rename_i o ho
   split at h
   ·rename_i t' m' x hat
    split at h
    ·rename_i ht; subst ht
     split at h
     ·rename_i hl
      simp only [Bool.and_eq_true] at hl
      obtain ⟨b, off, k1, h1, h2, h3, h4⟩ := ptr_node hI ho hv hat
      have hszt : 0 < sz t' := by have := hl.2; simpa [Nat.blt_eq] using this
      obtain ⟨cs, g1, g2, _⟩ := RR_cells _ _ _ _ _ _ h2
      have hb : b < w.heap.size := by
       have hc0 : 0 < cs.length := by rw [g1]; exact hszt
       have := g2 0 cs[0] (by simp [hc0])
       exact cell_block this
      have hslow := ownP_low hfar hI ho
      have hbl : shared gL.col true b := by
       have hv1 := hv o ho
       have ho2 := ownP?_ow ho
       obtain ⟨cb, hcb⟩ := owner_col (hI.slots s) (by rcases ho2 with ⟨h1, h2⟩ | ⟨h1, n1, n2, h2⟩; exact .inl ⟨h1, n, h2⟩; exact .inr ⟨h1, n1, n2, h2⟩) hv1.2.1 hat hv1.2.2
       rw [h4] at hcb
       exact .inr ⟨rfl, hL.low b _ hcb hslow⟩
      have hro : RO w gL.col true t' (fun j => w.cell? ⟨b, off + k1 + j, none⟩) 0 x := by
       have h5 := RR_toRO (w' := w) (col' := gL.col) (l := true) (Nat.le_refl _) (fun b l0 _ hs _ => ⟨rfl, hL.sh' hs⟩) t' m' nz p _ k1 x (rdS w (.mem b off)) h2 (by
        have : leM t' k1 m' (.bor true nz) = leM t' 0 m' (.bor true nz) := by
         cases hc : isCell t' with
         | true => exact leM_cell hc _ _ _ _
         | false => rw [h3 hc]
        rw [this]; exact hl.1) (fun b r hb => ⟨rfl, .inr ⟨rfl, hL.low b _ hb hslow⟩⟩) (fun _ _ => rfl)
       exact RO_shift t' _ _ _ _ _ h5 (fun j _ => by simp [rdS, Nat.add_assoc])
      refine ⟨x, h, fun av' => ⟨true, nz, rfl, ⟨b, off + k1, none⟩, h1, rfl, hb, hbl, hro, fun hz => ?_⟩⟩
      cases t' with
      | sl e =>
       intro hx
       have hl1 := hl.1
       simp only [leM, Bool.and_eq_true] at hl1
       have hz' : m'.nz? = true := by
        have := hl1.1.2
        rw [hz] at this
        simpa [Md.nz?, bimp] using this
       simp only [RR] at h2
       cases hmo : m'.isOwn with
       | true =>
        rw [hmo] at h2
        obtain ⟨a', c', f1, f2, _, f4, _⟩ := h2
        have := f4 hz' hx
        subst this
        refine ⟨List.length x, c', ?_⟩
        rw [f2] at f1
        simpa [rdS] using f1
       | false =>
        rw [hmo] at h2
        obtain ⟨l, c, f⟩ := h2.2 hz' hx
        exact ⟨l, c, by simpa [rdS] using f⟩
      | _ => trivial
     ·cases h
    ·cases h
   ·cases h
  ·cases h
 ·rename_i t' m' x
  split at h
  ·rename_i ht; subst ht
   split at h
   ·rename_i hl
    obtain ⟨l, nz', rfl, ad, h1, h2, h3, h4, h5, h6⟩ := hv
    refine ⟨x, h, fun av' => ⟨true, nz, rfl, ad, h1, h2, h3, hL.sh' h4, RO_conv (l := l) (l' := true) (by cases l <;> rfl) (Nat.le_refl _) (fun b _ hs => ⟨rfl, hL.sh' hs⟩) t' _ _ 0 x h5 (fun _ _ => rfl), fun hz => ?_⟩⟩
    cases t' with
    | sl e =>
     simp only [leM, Bool.and_eq_true] at hl
     refine h6 ?_
     have := hl.1.2
     rw [hz] at this
     simpa [Md.nz?, bimp] using this
    | _ => trivial
   ·cases h
  ·cases h
 ·cases h

theorem capsD_sound (hfar : ∀ s, lentC.1 ≤ s → mu.far s) (hL : Lends g gL) (hI : Inv w0 mu st.get (Vals a) U w g) : ∀ (caps : List (Ty × Md)) (l : List AV) (vs : List Value) {k : denL caps → Option R} {r : R}, capsD st caps l k = some r → l.length = vs.length → (∀ i, i < l.length → VR w g st.get (l.getD i .dead) (vs.getD i undef)) →
  ∃ x, k x = some r ∧ (initL.capsL caps x).length = vs.length ∧ ∀ i, i < vs.length → ∀ av', VR0 w gL av' ((initL.capsL caps x).getD i .dead) (vs.getD i undef)
 | [], [], vs, k, r, h, hl, _ => ⟨(), h, by simpa [initL.capsL] using hl, fun i hi => by simp at hl; rw [← hl] at hi; simp at hi⟩
 | [], _ :: _, _, _, _, h, _, _ => by cases h
 | _ :: _, [], _, _, _, h, _, _ => by simp [capsD] at h
 | c :: caps, av :: l, [], k, r, h, hl, hv => by simp at hl
 | c :: caps, av :: l, v :: vs, k, r, h, hl, hv => by
  simp only [capsD] at h
  split at h
  ·rename_i nz hc
   obtain ⟨x, h, hx⟩ := asPtr_sound hfar hL hI hc h (hv 0 (by simp))
   obtain ⟨xs, h1, h2, h3⟩ := capsD_sound hfar hL hI caps l vs h (by simpa using hl) (fun i hi => by simpa using hv (i + 1) (by simpa using hi))
   refine ⟨(x, xs), h1, by simp [initL.capsL, h2], fun i hi av' => ?_⟩
   cases i with
   | zero => simpa [initL.capsL] using hx av'
   | succ i => simpa [initL.capsL] using h3 i (by simpa using hi) av'
  ·cases h

/-- parameters as the callee finds them -/
def ParL (w : World) (g : Gh) : (ps : List PT) → denPs ps → Nat → List Value → Prop
 | [], _, _, vs => vs = []
 | .val t m :: r, x, i, vs => ∃ v vs', vs = v :: vs' ∧ (∀ av, SlotR w g av i (match m.hasOwn with | true => .ow (form + i) t m x.1 | false => .v t m x.1) v) ∧ ParL w g r x.2 (i + 1) vs'
 | .ptr t m :: r, x, i, vs => ∃ v vs', vs = v :: vs' ∧ (∀ av, SlotR w g av i (.rop t m x.1) v) ∧ ParL w g r x.2 (i + 1) vs'
 | .clo f caps :: r, x, i, vs => ∃ v vs', vs = v :: vs' ∧ (∀ av, SlotR w g av i (.clo f (initL.capsL caps x.1)) v) ∧ ParL w g r x.2 (i + 1) vs'
 | .box t m :: r, x, i, vs => ∃ v vs', vs = v :: vs' ∧ (∀ av, SlotR w g av i (.box i (form + i) t m x.1) v) ∧ ParL w g r x.2 (i + 1) vs'

theorem capsL_stamp {U : Nat → Prop} : ∀ (caps : List (Ty × Md)) (x : denL caps), ∀ a ∈ initL.capsL caps x, stampOK0 U a
 | [], _, _, h => by simp [initL.capsL] at h
 | c :: r, x, a, h => by
  simp only [initL.capsL, List.mem_cons] at h
  rcases h with rfl | h
  ·trivial
  ·exact capsL_stamp r x.2 a h

theorem look_cons (d : Nat) (v : AV) (r : List (Nat × AV)) (s : Nat) : look ((d, v) :: r) s = if s = d then v else look r s := by
 simp only [look]
 by_cases h : s = d
 ·subst h; simp [Nat.beq_refl]
 ·have : Nat.beq d s = false := by cases hb : Nat.beq d s with
   | false => rfl
   | true => exact absurd (Nat.eq_of_beq_eq_true hb).symm h
  rw [this]; simp [h]

theorem init_slots : ∀ (ps : List PT) (x : denPs ps) (i : Nat) (vs : List Value), ParL w g ps x i vs → i + ps.length ≤ 1000 → ∀ (s : Nat) (av : Nat → AV), (s < i → look (initL ps i x) s = .dead) ∧ (i + ps.length ≤ s → look (initL ps i x) s = .dead) ∧
  SlotR w g av s (look (initL ps i x) s) (vs.getD (s - i) undef) ∧ stampOK (· < fresh) (look (initL ps i x) s)
 | [], _, _, _, _, _, s, av => ⟨fun _ => rfl, fun _ => rfl, trivial, trivial⟩
 | .val t m :: r, x, i, vs, h, hl, s, av => by
  obtain ⟨v, vs', rfl, h1, h2⟩ := h
  obtain ⟨g1, g2, g3, g4⟩ := init_slots r x.2 (i + 1) vs' h2 (by simp at hl; omega) s av
  simp only [initL, look_cons]
  by_cases hs : s = i
  ·subst hs
   rw [if_pos rfl, Nat.sub_self]
   refine ⟨fun h => absurd h (Nat.lt_irrefl _), fun h => by simp at h; omega, h1 av, ?_⟩
   cases hm : m.hasOwn with
   | true => show form + s < fresh; simp at hl; show 500000 + s < 1000000; omega
   | false => trivial
  ·rw [if_neg hs]
   refine ⟨fun h => g1 (by omega), fun h => g2 (by simp at h; omega), ?_, g4⟩
   by_cases hlt : s < i
   ·rw [g1 (by omega)]; trivial
   ·rw [show s - i = (s - (i + 1)) + 1 by omega]; exact g3
 | .ptr t m :: r, x, i, vs, h, hl, s, av => by
  obtain ⟨v, vs', rfl, h1, h2⟩ := h
  obtain ⟨g1, g2, g3, g4⟩ := init_slots r x.2 (i + 1) vs' h2 (by simp at hl; omega) s av
  simp only [initL, look_cons]
  by_cases hs : s = i
  ·subst hs
   rw [if_pos rfl, Nat.sub_self]
   exact ⟨fun h => absurd h (Nat.lt_irrefl _), fun h => by simp at h; omega, h1 av, trivial⟩
  ·rw [if_neg hs]
   refine ⟨fun h => g1 (by omega), fun h => g2 (by simp at h; omega), ?_, g4⟩
   by_cases hlt : s < i
   ·rw [g1 (by omega)]; trivial
   ·rw [show s - i = (s - (i + 1)) + 1 by omega]; exact g3
 | .clo f caps :: r, x, i, vs, h, hl, s, av => by
  obtain ⟨v, vs', rfl, h1, h2⟩ := h
  obtain ⟨g1, g2, g3, g4⟩ := init_slots r x.2 (i + 1) vs' h2 (by simp at hl; omega) s av
  simp only [initL, look_cons]
  by_cases hs : s = i
  ·subst hs
   rw [if_pos rfl, Nat.sub_self]
   exact ⟨fun h => absurd h (Nat.lt_irrefl _), fun h => by simp at h; omega, h1 av, fun a ha => capsL_stamp caps x.1 a ha⟩
  ·rw [if_neg hs]
   refine ⟨fun h => g1 (by omega), fun h => g2 (by simp at h; omega), ?_, g4⟩
   by_cases hlt : s < i
   ·rw [g1 (by omega)]; trivial
   ·rw [show s - i = (s - (i + 1)) + 1 by omega]; exact g3
 | .box t m :: r, x, i, vs, h, hl, s, av => by
  obtain ⟨v, vs', rfl, h1, h2⟩ := h
  obtain ⟨g1, g2, g3, g4⟩ := init_slots r x.2 (i + 1) vs' h2 (by simp at hl; omega) s av
  simp only [initL, look_cons]
  by_cases hs : s = i
  ·subst hs
   rw [if_pos rfl, Nat.sub_self]
   exact ⟨fun h => absurd h (Nat.lt_irrefl _), fun h => by simp at h; omega, h1 av, by simp at hl; exact ⟨show s < 1000000 by omega, show 500000 + s < 1000000 by omega⟩⟩
  ·rw [if_neg hs]
   refine ⟨fun h => g1 (by omega), fun h => g2 (by simp at h; omega), ?_, g4⟩
   by_cases hlt : s < i
   ·rw [g1 (by omega)]; trivial
   ·rw [show s - i = (s - (i + 1)) + 1 by omega]; exact g3

/-- what a call begins with that hands nothing over -/
def muL (g : Gh) : Mu := { h := fun _ => False, L := fun b => g.col b ≠ none, far := fun s => lentC.1 ≤ s, hfar := Nat.le_refl _, pin := fun _ => none }

theorem init_inv {mu' : Mu} (hfar : ∀ s, mu'.far s ↔ lentC.1 ≤ s) {ps : List PT} {x : denPs ps} {vs : List Value} (h : ParL w g ps x 0 vs) (hl : ps.length ≤ 1000) (hcols : ∀ b k, g.col b = some k → b < w.heap.size ∧ (k = lentC ∨ mu' b)) (hlk : ∀ b, mu'.L b → g.col b = some lentC) :
  Inv w mu' (look (initL ps 0 x)) (fun i => vs.toArray.getD i undef) (· < fresh) w g where
 slots s := by
  have := (init_slots ps x 0 vs h (by omega) s (look (initL ps 0 x))).2.2.1
  simpa [Array.getD_eq_getD_getElem?, List.getD_eq_getElem?_getD] using this
 stamps s := (init_slots ps x 0 vs h (by omega) s (look (initL ps 0 x))).2.2.2
 cols b k hb := by
  obtain ⟨h1, h2⟩ := hcols b k hb
  exact ⟨h1, h2.imp id .inr⟩
 fr := ⟨rfl, rfl, rfl, Nat.le_refl _, fun _ _ _ => rfl⟩
 far s hs := by
  have h1 := (hfar s).1 hs
  have h2 : lentC.1 = 4000000000 := rfl
  exact (init_slots ps x 0 vs h (by omega) s (look (initL ps 0 x))).2.1 (by omega)
 lk := hlk

theorem argsL_sound (hfar : ∀ s, lentC.1 ≤ s → mu.far s) (hI : Inv w0 mu st.get (Vals a) U w g) : ∀ (ps : List PT) (l : List AV) (vs : List Value) (i : Nat) {k : denPs ps → Option R} {r : R}, argsL st ps l k = some r → l.length = vs.length → (∀ i, i < l.length → VR w g st.get (l.getD i .dead) (vs.getD i undef)) →
  ∃ x, k x = some r ∧ ParL w g.lend ps x i vs ∧ ps.length = vs.length
 | [], [], vs, i, k, r, h, hl, _ => ⟨(), h, by simpa [ParL] using hl.symm, by simpa using hl⟩
 | [], _ :: _, _, _, _, _, h, _, _ => by cases h
 | .val _ _ :: _, [], _, _, _, _, h, _, _ => by cases h
 | .ptr _ _ :: _, [], _, _, _, _, h, _, _ => by cases h
 | .clo _ _ :: _, [], _, _, _, _, h, _, _ => by cases h
 | .box _ _ :: _, _, _, _, _, _, h, _, _ => by simp [argsL] at h
 | .val t m :: ps, av :: l, [], i, k, r, h, hl, hv => by simp at hl
 | .ptr t m :: ps, av :: l, [], i, k, r, h, hl, hv => by simp at hl
 | .clo f caps :: ps, av :: l, [], i, k, r, h, hl, hv => by simp at hl
 | .val t m :: ps, av :: l, v :: vs, i, k, r, h, hl, hv => by
  simp only [argsL] at h
  split at h
  ·rename_i nz
   obtain ⟨x, h, hx⟩ := asRead_sound hfar (lend_lends g) hI h (hv 0 (by simp))
   obtain ⟨xs, h1, h2, h3⟩ := argsL_sound hfar hI ps l vs (i + 1) h (by simpa using hl) (fun i hi => by simpa using hv (i + 1) (by simpa using hi))
   exact ⟨(x, xs), h1, ⟨v, vs, rfl, fun av' => hx av', h2⟩, by simp [h3]⟩
  ·cases h
 | .ptr t m :: ps, av :: l, v :: vs, i, k, r, h, hl, hv => by
  simp only [argsL] at h
  split at h
  ·rename_i nz
   obtain ⟨x, h, hx⟩ := asPtr_sound hfar (lend_lends g) hI rfl h (hv 0 (by simp))
   obtain ⟨xs, h1, h2, h3⟩ := argsL_sound hfar hI ps l vs (i + 1) h (by simpa using hl) (fun i hi => by simpa using hv (i + 1) (by simpa using hi))
   exact ⟨(x, xs), h1, ⟨v, vs, rfl, fun av' => hx av', h2⟩, by simp [h3]⟩
  ·cases h
 | .clo f caps :: ps, av :: l, v :: vs, i, k, r, h, hl, hv => by
  simp only [argsL] at h
  split at h
  ·rename_i f' cs
   split at h
   ·rename_i hf
    have hf := Nat.eq_of_beq_eq_true hf
    subst hf
    obtain ⟨us, u1, u2, u3⟩ := hv 0 (by simp)
    obtain ⟨x, h, hx1, hx2⟩ := capsD_sound hfar (lend_lends g) hI caps cs us.toList h (by simpa using u2.symm) (fun i hi => by
     have := u3 i hi
     have hne : ∀ a v, VR0 w g st.get a v → VR w g st.get a v := fun a v h => by cases a <;> first | exact h | cases h
     simpa [Array.getD_eq_getD_getElem?, List.getD_eq_getElem?_getD] using hne _ _ this)
    obtain ⟨xs, h1, h2, h3⟩ := argsL_sound hfar hI ps l vs (i + 1) h (by simpa using hl) (fun i hi => by simpa using hv (i + 1) (by simpa using hi))
    refine ⟨(x, xs), h1, ⟨v, vs, rfl, fun av' => ⟨us, by simpa using u1, by rw [hx1]; simp, fun j hj => ?_⟩, h2⟩, by simp [h3]⟩
    have := hx2 j (by rw [← hx1]; exact hj) av'
    simpa [Array.getD_eq_getD_getElem?, List.getD_eq_getElem?_getD] using this
   ·cases h
  ·cases h
end
end Go.Ab
