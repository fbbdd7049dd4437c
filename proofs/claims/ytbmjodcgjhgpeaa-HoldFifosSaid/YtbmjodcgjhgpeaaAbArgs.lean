/- Arguments that are lent. -/
import Derived.Test.YtbmjodcgjhgpeaaAbRes
namespace Go.Ab

/-- where nothing is handed over, what the caller owns is lent -/
def Gh.lend (g : Gh) : Gh where
  col b := match g.col b with | none => none | some _ => some lentC
  H := g.H
  A := g.A
theorem lend_all {g : Gh} {b : Nat} : shared g.lend.col true b := by
  simp only [shared, Gh.lend]
  cases g.col b <;> simp
theorem lend_sh {g : Gh} {b : Nat} {l : Bool} (h : shared g.col l b) : shared g.lend.col l b := by
  rcases h with h | ⟨h, h'⟩
  · left; simp [Gh.lend, h]
  · right; simp [Gh.lend, h', h]

section
variable {P : Program} {T : Tab} {Φ : Nat → Option Contract} {w0 w : World} {mu : Mu} {st : St} {a : Act} {g : Gh} {R : Type} {o : Oper} {K : AV → St → Option R} {r : R} {val : Nat → Value} {U : Nat → Prop}

theorem leM_lent : ∀ (t : Ty) (k : Nat) (m : Md), leM t k m (.bor true false) = true := by
  intro t
  induction t with
  | sl e ih =>
    intro k m
    simp only [leM, Md.fits, Md.nz?, Md.el, bimp, Bool.and_true, Bool.and_eq_true]
    exact ⟨by cases m.isOwn <;> cases m.lent? <;> rfl, ih 0 _⟩
  | pair a b iha ihb =>
    intro k m
    simp only [leM, fld_bor, Bool.and_eq_true]
    exact ⟨iha _ _, ihb _ _⟩
  | mp a b iha ihb =>
    intro k m
    simp only [leM, Md.fits, Md.el, bimp, Bool.and_eq_true]
    exact ⟨⟨by cases m.isOwn <;> cases m.lent? <;> rfl, iha 0 _⟩, ihb 0 _⟩
  | _ => intro k m; rfl

theorem own_lend {s : Nat} {e : Ty} {m : Md} {p : List Stp} {src : Src} {k : Nat} {x : List (den e)} {rd : Nat → Option Value} (h : RR w g s (.sl e) m p src k x) (hr : rd 0 = rdS w src k) : RO w g.lend.col true (.sl e) rd 0 x := by
  have h1 := RR_toRO (w' := w) (col' := g.lend.col) (l := true) (Nat.le_refl _) (fun b l0 _ hs _ => ⟨rfl, lend_all⟩) (.sl e) m false p src k x (rdS w src) h (leM_lent _ _ _) (fun b r hb => ⟨rfl, lend_all⟩) (fun _ _ => rfl)
  exact RO_shift (.sl e) _ _ _ _ _ h1 (fun j hj => by simp [sz] at hj; subst hj; exact hr)

theorem asRead_sound (hI : Inv w0 mu st.get val U w g) {av : AV} {t : Ty} {nz : Bool} {k : den t → Option R} {r : R} {v : Value} (h : asRead st av t nz k = some r) (hv : VR w g st.get av v) :
    ∃ x, k x = some r ∧ ∀ av', VR w g.lend av' (.v t (.bor true nz) x) v := by
  unfold asRead at h
  split at h
  · rename_i t' m' x
    split at h
    · rename_i ht; subst ht
      split at h
      · rename_i hl
        refine ⟨x, h, fun av' => ⟨rfl, hv.2.1, ?_⟩⟩
        exact RR_free (Nat.le_refl _) (fun b l0 _ hs => ⟨rfl, lend_sh hs⟩) t' _ [] [] _ _ 0 0 x (RR_weak _ _ _ _ _ _ _ hv.2.2 hl hv.1 rfl) rfl (fun _ => rfl) (fun _ _ => rfl)
      · cases h
    · cases h
  · split at h
    · obtain rfl : v = .slice none 0 0 := hv
      exact ⟨[], h, fun av' => VR_nil rfl⟩
    · cases h
  · rename_i s n p
    split at h
    · rename_i o ho
      obtain ⟨e, m, x, hat, hm, h⟩ := Own.sl_some h
      split at h
      · rename_i ht; subst ht
        split at h
        · rename_i hl
          obtain ⟨h1, hok⟩ := hv o ho
          obtain ⟨ad, cap, h2, h3⟩ := alias_node hI ho hok hat hm
          refine ⟨x, h, fun av' => ⟨rfl, by rw [h1, h2]; rfl, ?_⟩⟩
          simp only [RR, Md.isOwn, Md.lent?, Md.nz?]
          refine ⟨own_lend h3 (by rw [h1]), fun hz hx => ?_⟩
          simp only [RR, hm] at h3
          obtain ⟨a', c', g1, g2, _, g4, _⟩ := h3
          simp only [leM, Bool.and_eq_true] at hl
          have hz' : m.nz? = true := by
            have := hl.1.2
            rw [hz] at this
            simpa [Md.nz?, bimp] using this
          have := g4 hz' hx
          subst this
          exact ⟨_, _, by rw [h1, g2]; rfl⟩
        · cases h
      · cases h
    · cases h
  · rename_i s n p lo len cp
    split at h
    · rename_i o ho
      obtain ⟨e, m, x, hat, hm, h⟩ := Own.sl_some h
      split at h
      · rename_i ht; subst ht
        obtain ⟨hok, e', m', x', ad, c, M, h1, h2, h3, h4, h5, h6, h7⟩ := hv o ho
        rw [hat] at h1
        simp only [Option.some.injEq, TV.mk.injEq, Ty.sl.injEq] at h1
        obtain ⟨rfl, rfl, h1⟩ := h1
        have h1 := eq_of_heq h1
        subst h1
        obtain ⟨ad', cap', h8, h9⟩ := alias_node hI ho hok hat hm
        rw [h2] at h8
        simp only [Value.slice.injEq] at h8
        obtain ⟨rfl, _, rfl⟩ := h8
        refine ⟨_, h, fun av' => ⟨rfl, by rw [h7]; rfl, ?_⟩⟩
        simp only [RR, Md.isOwn, Md.lent?, Md.nz?]
        refine ⟨?_, fun h => by cases h⟩
        have h10 := RO_sub (own_lend (rd := fun _ => some (.slice ad x.length c)) h9 (by rw [h2]; rfl)) h3 h4 h5 h7
        exact RO_shift (.sl e) _ _ 0 0 _ h10 (fun j hj => by simp [sz] at hj; subst hj; rw [h7]; rfl)
      · cases h
    · cases h
  · cases h

theorem cell_block {b o : Nat} {v : Value} (h : w.cell? ⟨b, o, none⟩ = some v) : b < w.heap.size := by
  rcases Nat.lt_or_ge b w.heap.size with hlt | hge
  · exact hlt
  · simp [World.cell?, Array.getElem?_eq_none hge] at h

theorem asPtr_sound (hI : Inv w0 mu st.get (Vals a) U w g) {av : AV} {t : Ty} {m : Md} {nz : Bool} (hm : m = .bor true nz) {k : den t → Option R} {r : R} {v : Value} (h : asPtr st av t m k = some r) (hv : VR w g st.get av v) :
    ∃ x, k x = some r ∧ ∀ av', VR0 w g.lend av' (.rop t m x) v := by
  subst hm
  unfold asPtr at h
  split at h
  · rename_i s n p
    split at h
    · rename_i o ho
      split at h
      · rename_i t' m' x hat
        split at h
        · rename_i ht; subst ht
          split at h
          · rename_i hl
            simp only [Bool.and_eq_true] at hl
            obtain ⟨b, off, k1, h1, h2, h3, h4⟩ := ptr_node hI ho hv hat
            have hszt : 0 < sz t' := by have := hl.2; simpa [Nat.blt_eq] using this
            obtain ⟨cs, g1, g2, _⟩ := RR_cells _ _ _ _ _ _ h2
            have hb : b < w.heap.size := by
              have hc0 : 0 < cs.length := by rw [g1]; exact hszt
              have := g2 0 cs[0] (by simp [hc0])
              exact cell_block this
            have hro : RO w g.lend.col true t' (fun j => w.cell? ⟨b, off + k1 + j, none⟩) 0 x := by
              have h5 := RR_toRO (w' := w) (col' := g.lend.col) (l := true) (Nat.le_refl _) (fun b l0 _ hs _ => ⟨rfl, lend_all⟩) t' m' nz p _ k1 x (rdS w (.mem b off)) h2 (by
                have : leM t' k1 m' (.bor true nz) = leM t' 0 m' (.bor true nz) := by
                  cases hc : isCell t' with
                  | true => exact leM_cell hc _ _ _ _
                  | false => rw [h3 hc]
                rw [this]; exact hl.1) (fun b r hb => ⟨rfl, lend_all⟩) (fun _ _ => rfl)
              exact RO_shift t' _ _ _ _ _ h5 (fun j _ => by simp [rdS, Nat.add_assoc])
            refine ⟨x, h, fun av' => ⟨true, nz, rfl, ⟨b, off + k1, none⟩, h1, rfl, hb, lend_all, hro, fun hz => ?_⟩⟩
            cases t' with
            | sl e =>
              intro hx
              have hl1 := hl.1
              simp only [leM, Bool.and_eq_true] at hl1
              have hz' : m'.nz? = true := by
                have := hl1.1.2
                rw [hz] at this
                simpa [Md.nz?, bimp] using this
              simp only [RR] at h2
              cases hmo : m'.isOwn with
              | true =>
                rw [hmo] at h2
                obtain ⟨a', c', f1, f2, _, f4, _⟩ := h2
                have := f4 hz' hx
                subst this
                refine ⟨List.length x, c', ?_⟩
                rw [f2] at f1
                simpa [rdS] using f1
              | false =>
                rw [hmo] at h2
                obtain ⟨l, c, f⟩ := h2.2 hz' hx
                exact ⟨l, c, by simpa [rdS] using f⟩
            | _ => trivial
          · cases h
        · cases h
      · cases h
    · cases h
  · rename_i t' m' x
    split at h
    · rename_i ht; subst ht
      split at h
      · rename_i hl
        obtain ⟨l, nz', rfl, ad, h1, h2, h3, h4, h5, h6⟩ := hv
        refine ⟨x, h, fun av' => ⟨true, nz, rfl, ad, h1, h2, h3, lend_all, RO_conv (l := l) (l' := true) (by cases l <;> rfl) (Nat.le_refl _) (fun b _ _ => ⟨rfl, lend_all⟩) t' _ _ 0 x h5 (fun _ _ => rfl), fun hz => ?_⟩⟩
        cases t' with
        | sl e =>
          simp only [leM, Bool.and_eq_true] at hl
          refine h6 ?_
          have := hl.1.2
          rw [hz] at this
          simpa [Md.nz?, bimp] using this
        | _ => trivial
      · cases h
    · cases h
  · cases h

theorem capsD_sound (hI : Inv w0 mu st.get (Vals a) U w g) : ∀ (caps : List (Ty × Md)) (l : List AV) (vs : List Value) {k : denL caps → Option R} {r : R}, capsD st caps l k = some r → l.length = vs.length → (∀ i, i < l.length → VR w g st.get (l.getD i .dead) (vs.getD i undef)) →
    ∃ x, k x = some r ∧ (initL.capsL caps x).length = vs.length ∧ ∀ i, i < vs.length → ∀ av', VR0 w g.lend av' ((initL.capsL caps x).getD i .dead) (vs.getD i undef)
  | [], [], vs, k, r, h, hl, _ => ⟨(), h, by simpa [initL.capsL] using hl, fun i hi => by simp at hl; rw [← hl] at hi; simp at hi⟩
  | [], _ :: _, _, _, _, h, _, _ => by cases h
  | _ :: _, [], _, _, _, h, _, _ => by simp [capsD] at h
  | c :: caps, av :: l, [], k, r, h, hl, hv => by simp at hl
  | c :: caps, av :: l, v :: vs, k, r, h, hl, hv => by
    simp only [capsD] at h
    split at h
    · rename_i nz hc
      obtain ⟨x, h, hx⟩ := asPtr_sound hI hc h (hv 0 (by simp))
      obtain ⟨xs, h1, h2, h3⟩ := capsD_sound hI caps l vs h (by simpa using hl) (fun i hi => by simpa using hv (i + 1) (by simpa using hi))
      refine ⟨(x, xs), h1, by simp [initL.capsL, h2], fun i hi av' => ?_⟩
      cases i with
      | zero => simpa [initL.capsL] using hx av'
      | succ i => simpa [initL.capsL] using h3 i (by simpa using hi) av'
    · cases h

/-- parameters as the callee finds them -/
def ParL (w : World) (g : Gh) : (ps : List PT) → denPs ps → Nat → List Value → Prop
  | [], _, _, vs => vs = []
  | .val t m :: r, x, i, vs => ∃ v vs', vs = v :: vs' ∧ (∀ av, SlotR w g av i (match m.hasOwn with | true => .ow (form + i) t m x.1 | false => .v t m x.1) v) ∧ ParL w g r x.2 (i + 1) vs'
  | .ptr t m :: r, x, i, vs => ∃ v vs', vs = v :: vs' ∧ (∀ av, SlotR w g av i (.rop t m x.1) v) ∧ ParL w g r x.2 (i + 1) vs'
  | .clo f caps :: r, x, i, vs => ∃ v vs', vs = v :: vs' ∧ (∀ av, SlotR w g av i (.clo f (initL.capsL caps x.1)) v) ∧ ParL w g r x.2 (i + 1) vs'

theorem capsL_stamp {U : Nat → Prop} : ∀ (caps : List (Ty × Md)) (x : denL caps), ∀ a ∈ initL.capsL caps x, stampOK0 U a
  | [], _, _, h => by simp [initL.capsL] at h
  | c :: r, x, a, h => by
    simp only [initL.capsL, List.mem_cons] at h
    rcases h with rfl | h
    · trivial
    · exact capsL_stamp r x.2 a h

theorem look_cons (d : Nat) (v : AV) (r : List (Nat × AV)) (s : Nat) : look ((d, v) :: r) s = if s = d then v else look r s := by
  simp only [look]
  by_cases h : s = d
  · subst h; simp [Nat.beq_refl]
  · have : Nat.beq d s = false := by cases hb : Nat.beq d s with
      | false => rfl
      | true => exact absurd (Nat.eq_of_beq_eq_true hb).symm h
    rw [this]; simp [h]

theorem init_slots : ∀ (ps : List PT) (x : denPs ps) (i : Nat) (vs : List Value), ParL w g ps x i vs → i + ps.length ≤ 1000 → ∀ (s : Nat) (av : Nat → AV), (s < i → look (initL ps i x) s = .dead) ∧ (i + ps.length ≤ s → look (initL ps i x) s = .dead) ∧
    SlotR w g av s (look (initL ps i x) s) (vs.getD (s - i) undef) ∧ stampOK (· < fresh) (look (initL ps i x) s)
  | [], _, _, _, _, _, s, av => ⟨fun _ => rfl, fun _ => rfl, trivial, trivial⟩
  | .val t m :: r, x, i, vs, h, hl, s, av => by
    obtain ⟨v, vs', rfl, h1, h2⟩ := h
    obtain ⟨g1, g2, g3, g4⟩ := init_slots r x.2 (i + 1) vs' h2 (by simp at hl; omega) s av
    simp only [initL, look_cons]
    by_cases hs : s = i
    · subst hs
      rw [if_pos rfl, Nat.sub_self]
      refine ⟨fun h => absurd h (Nat.lt_irrefl _), fun h => by simp at h; omega, h1 av, ?_⟩
      cases hm : m.hasOwn with
      | true => show form + s < fresh; simp at hl; show 500000 + s < 1000000; omega
      | false => trivial
    · rw [if_neg hs]
      refine ⟨fun h => g1 (by omega), fun h => g2 (by simp at h; omega), ?_, g4⟩
      by_cases hlt : s < i
      · rw [g1 (by omega)]; trivial
      · rw [show s - i = (s - (i + 1)) + 1 by omega]; exact g3
  | .ptr t m :: r, x, i, vs, h, hl, s, av => by
    obtain ⟨v, vs', rfl, h1, h2⟩ := h
    obtain ⟨g1, g2, g3, g4⟩ := init_slots r x.2 (i + 1) vs' h2 (by simp at hl; omega) s av
    simp only [initL, look_cons]
    by_cases hs : s = i
    · subst hs
      rw [if_pos rfl, Nat.sub_self]
      exact ⟨fun h => absurd h (Nat.lt_irrefl _), fun h => by simp at h; omega, h1 av, trivial⟩
    · rw [if_neg hs]
      refine ⟨fun h => g1 (by omega), fun h => g2 (by simp at h; omega), ?_, g4⟩
      by_cases hlt : s < i
      · rw [g1 (by omega)]; trivial
      · rw [show s - i = (s - (i + 1)) + 1 by omega]; exact g3
  | .clo f caps :: r, x, i, vs, h, hl, s, av => by
    obtain ⟨v, vs', rfl, h1, h2⟩ := h
    obtain ⟨g1, g2, g3, g4⟩ := init_slots r x.2 (i + 1) vs' h2 (by simp at hl; omega) s av
    simp only [initL, look_cons]
    by_cases hs : s = i
    · subst hs
      rw [if_pos rfl, Nat.sub_self]
      exact ⟨fun h => absurd h (Nat.lt_irrefl _), fun h => by simp at h; omega, h1 av, fun a ha => capsL_stamp caps x.1 a ha⟩
    · rw [if_neg hs]
      refine ⟨fun h => g1 (by omega), fun h => g2 (by simp at h; omega), ?_, g4⟩
      by_cases hlt : s < i
      · rw [g1 (by omega)]; trivial
      · rw [show s - i = (s - (i + 1)) + 1 by omega]; exact g3

/-- what a call begins with that hands nothing over -/
def muL (g : Gh) : Mu := { h := fun _ => False, L := fun b => g.col b ≠ none, far := fun s => lentC.1 ≤ s, hfar := Nat.le_refl _, pin := fun _ => none }

theorem init_inv {mu' : Mu} (hfar : ∀ s, mu'.far s ↔ lentC.1 ≤ s) {ps : List PT} {x : denPs ps} {vs : List Value} (h : ParL w g ps x 0 vs) (hl : ps.length ≤ 1000) (hcols : ∀ b k, g.col b = some k → b < w.heap.size ∧ (k = lentC ∨ mu' b)) (hlk : ∀ b, mu'.L b → g.col b = some lentC) :
    Inv w mu' (look (initL ps 0 x)) (fun i => vs.toArray.getD i undef) (· < fresh) w g where
  slots s := by
    have := (init_slots ps x 0 vs h (by omega) s (look (initL ps 0 x))).2.2.1
    simpa [Array.getD_eq_getD_getElem?, List.getD_eq_getElem?_getD] using this
  stamps s := (init_slots ps x 0 vs h (by omega) s (look (initL ps 0 x))).2.2.2
  cols b k hb := by
    obtain ⟨h1, h2⟩ := hcols b k hb
    exact ⟨h1, h2.imp id .inr⟩
  fr := ⟨rfl, rfl, rfl, Nat.le_refl _, fun _ _ _ => rfl⟩
  far s hs := by
    have h1 := (hfar s).1 hs
    have h2 : lentC.1 = 4000000000 := rfl
    exact (init_slots ps x 0 vs h (by omega) s (look (initL ps 0 x))).2.1 (by omega)
  lk := hlk

theorem argsL_sound (hI : Inv w0 mu st.get (Vals a) U w g) : ∀ (ps : List PT) (l : List AV) (vs : List Value) (i : Nat) {k : denPs ps → Option R} {r : R}, argsL st ps l k = some r → l.length = vs.length → (∀ i, i < l.length → VR w g st.get (l.getD i .dead) (vs.getD i undef)) →
    ∃ x, k x = some r ∧ ParL w g.lend ps x i vs ∧ ps.length = vs.length
  | [], [], vs, i, k, r, h, hl, _ => ⟨(), h, by simpa [ParL] using hl.symm, by simpa using hl⟩
  | [], _ :: _, _, _, _, _, h, _, _ => by cases h
  | .val _ _ :: _, [], _, _, _, _, h, _, _ => by cases h
  | .ptr _ _ :: _, [], _, _, _, _, h, _, _ => by cases h
  | .clo _ _ :: _, [], _, _, _, _, h, _, _ => by cases h
  | .val t m :: ps, av :: l, [], i, k, r, h, hl, hv => by simp at hl
  | .ptr t m :: ps, av :: l, [], i, k, r, h, hl, hv => by simp at hl
  | .clo f caps :: ps, av :: l, [], i, k, r, h, hl, hv => by simp at hl
  | .val t m :: ps, av :: l, v :: vs, i, k, r, h, hl, hv => by
    simp only [argsL] at h
    split at h
    · rename_i nz
      obtain ⟨x, h, hx⟩ := asRead_sound hI h (hv 0 (by simp))
      obtain ⟨xs, h1, h2, h3⟩ := argsL_sound hI ps l vs (i + 1) h (by simpa using hl) (fun i hi => by simpa using hv (i + 1) (by simpa using hi))
      exact ⟨(x, xs), h1, ⟨v, vs, rfl, fun av' => hx av', h2⟩, by simp [h3]⟩
    · cases h
  | .ptr t m :: ps, av :: l, v :: vs, i, k, r, h, hl, hv => by
    simp only [argsL] at h
    split at h
    · rename_i nz
      obtain ⟨x, h, hx⟩ := asPtr_sound hI rfl h (hv 0 (by simp))
      obtain ⟨xs, h1, h2, h3⟩ := argsL_sound hI ps l vs (i + 1) h (by simpa using hl) (fun i hi => by simpa using hv (i + 1) (by simpa using hi))
      exact ⟨(x, xs), h1, ⟨v, vs, rfl, fun av' => hx av', h2⟩, by simp [h3]⟩
    · cases h
  | .clo f caps :: ps, av :: l, v :: vs, i, k, r, h, hl, hv => by
    simp only [argsL] at h
    split at h
    · rename_i f' cs
      split at h
      · rename_i hf
        have hf := Nat.eq_of_beq_eq_true hf
        subst hf
        obtain ⟨us, u1, u2, u3⟩ := hv 0 (by simp)
        obtain ⟨x, h, hx1, hx2⟩ := capsD_sound hI caps cs us.toList h (by simpa using u2.symm) (fun i hi => by
          have := u3 i hi
          have hne : ∀ a v, VR0 w g st.get a v → VR w g st.get a v := fun a v h => by cases a <;> first | exact h | cases h
          simpa [Array.getD_eq_getD_getElem?, List.getD_eq_getElem?_getD] using hne _ _ this)
        obtain ⟨xs, h1, h2, h3⟩ := argsL_sound hI ps l vs (i + 1) h (by simpa using hl) (fun i hi => by simpa using hv (i + 1) (by simpa using hi))
        refine ⟨(x, xs), h1, ⟨v, vs, rfl, fun av' => ⟨us, by simpa using u1, by rw [hx1]; simp, fun j hj => ?_⟩, h2⟩, by simp [h3]⟩
        have := hx2 j (by rw [← hx1]; exact hj) av'
        simpa [Array.getD_eq_getD_getElem?, List.getD_eq_getElem?_getD] using this
      · cases h
    · cases h
end
end Go.Ab
