/- Codes: a state at a loop's head, loops, the end of a function. -/
import Derived.Test.YtokjogplnoeicaaAbDraw
import Derived.LoopN
namespace Go.Ab

section
variable {P : Program} {T : Tab} {Φ : Nat → Option Contract} {w0 w : World} {mu : Mu} {st : St} {a : Act} {g : Gh} {R : Type} {o : Oper} {K : AV → St → Option R} {r : R} {val : Nat → Value} {U : Nat → Prop}

theorem normL_eq (keep : List Nat) (st : St) : ∀ (l : List Nat) (k : List (Nat × AV) → Option R), normL keep st l k = k (l.map fun s => (s, renew keep st s (st.get s)))
 | [], k => rfl
 | s :: l, k => by
  simp only [normL, AV.force_eq]
  rw [normL_eq keep st l]
  rfl

theorem look_map (f : Nat → AV) : ∀ (l : List Nat) (s : Nat), look (l.map fun s => (s, f s)) s = if s ∈ l then f s else .dead
 | [], s => by simp [look]
 | d :: l, s => by
  rw [List.map_cons, look_cons, look_map f l s]
  by_cases h : s = d
  ·subst h; simp
  ·simp [h]

theorem any_beq {l : List Nat} {s : Nat} (h : l.any (Nat.beq s) = true) : s ∈ l := by
 obtain ⟨x, h1, h2⟩ := List.any_eq_true.1 h
 have := Nat.eq_of_beq_eq_true h2
 subst this; exact h1

/-- the state behind norm -/
def normSt (keep : List Nat) (st : St) : St := ⟨fresh, keep.map fun s => (s, renew keep st s (st.get s))⟩
theorem normSt_get (keep : List Nat) (st : St) (s : Nat) : (normSt keep st).get s = if s ∈ keep then renew keep st s (st.get s) else .dead := look_map _ keep s

theorem own_renew {keep : List Nat} {s n : Nat} {o o' : Own} (hk : s ∈ keep) (ho : own? (st.get s) n = some o) (ho' : own? ((normSt keep st).get s) (form + s) = some o') : o' = o := by
 rw [normSt_get, if_pos hk] at ho'
 rcases own?_ow ho with ⟨hb, h⟩ | ⟨hb, n1, h⟩
 ·rw [h] at ho'
  simp only [renew, own?, Nat.beq_refl, Option.some.injEq] at ho'
  rw [← ho']; obtain ⟨ob, ot, om, ox⟩ := o; simp only at hb; subst hb; rfl
 ·rw [h] at ho'
  simp only [renew, own?, Nat.beq_refl, Option.some.injEq] at ho'
  rw [← ho']; obtain ⟨ob, ot, om, ox⟩ := o; simp only at hb; subst hb; rfl

theorem ownP_renew_ow {keep : List Nat} {s n' : Nat} {t : Ty} {m : Md} {x : den t} {p : List Stp} {o' : Own} (hk : s ∈ keep) (hq : st.get s = .ow n' t m x) (ho' : ownP? ((normSt keep st).get s) (form + s) p = some o') : o' = ⟨false, t, m, x⟩ := by
 rw [normSt_get, if_pos hk, hq] at ho'
 simp only [renew, ownP?, Nat.beq_refl, Option.some.injEq] at ho'
 exact ho'.symm
theorem ownP_renew_box {keep : List Nat} {s n1 n2 n : Nat} {t : Ty} {m : Md} {x : den t} {p : List Stp} {o' : Own} (hk : s ∈ keep) (hq : st.get s = .box n1 n2 t m x) (ho' : ownP? ((normSt keep st).get s) n p = some o') : o' = ⟨true, t, m, x⟩ := by
 rw [normSt_get, if_pos hk, hq] at ho'
 simp only [renew, ownP?] at ho'
 split at ho'
 ·simp only [Option.some.injEq] at ho'; exact ho'.symm
 ·cases ho'

theorem renewCaps_sound {keep : List Nat} {av' : Nat → AV} : ∀ (l l' : List AV) (f : Nat → Value), renewCaps keep st l = some l' → (∀ s, av' s = (normSt keep st).get s) → (∀ s ∈ keep, s < form) → (∀ i, i < l.length → VR0 w g st.get (l.getD i .dead) (f i)) →
  l'.length = l.length ∧ (∀ i, i < l.length → VR0 w g av' (l'.getD i .dead) (f i)) ∧ ∀ a ∈ l', stampOK0 (· < fresh) a
 | [], l', f, h, _, _, _ => by
  simp only [renewCaps, Option.some.injEq] at h
  subst h
  exact ⟨rfl, fun i hi => absurd hi (Nat.not_lt_zero i), fun a ha => by cases ha⟩
 | a :: l, l', f, h, hav, hf, hv => by
  have h0 := hv 0 (by simp)
  simp only [List.getD_cons_zero] at h0
  cases a with
  | rop t m x =>
   simp only [renewCaps] at h
   split at h
   ·rename_i l2 hl2
    simp only [Option.some.injEq] at h
    subst h
    obtain ⟨h1, h2, h3⟩ := renewCaps_sound l l2 (fun i => f (i + 1)) hl2 hav hf (fun i hi => by simpa using hv (i + 1) (by simpa using hi))
    refine ⟨by simp [h1], fun i hi => ?_, fun a ha => ?_⟩
    ·cases i with
     | zero => simp only [List.getD_cons_zero]; exact h0
     | succ i => simpa using h2 i (by simpa using hi)
    ·rcases List.mem_cons.1 ha with rfl | ha
     ·trivial
     ·exact h3 a ha
   ·cases h
  | pl s' n p =>
   simp only [renewCaps] at h
   split at h
   ·rename_i n1 n2 t m x hq hk
    split at h
    ·rename_i l2 hb hl2
     simp only [Option.some.injEq] at h
     subst h
     obtain ⟨h1, h2, h3⟩ := renewCaps_sound l l2 (fun i => f (i + 1)) hl2 hav hf (fun i hi => by simpa using hv (i + 1) (by simpa using hi))
     have hks := any_beq hk
     simp only [Bool.and_eq_true] at hb
     have hn := Nat.eq_of_beq_eq_true hb.1
     refine ⟨by simp [h1], fun i hi => ?_, fun a ha => ?_⟩
     ·cases i with
      | zero =>
       simp only [List.getD_cons_zero]
       intro o' ho'
       rw [hav] at ho'
       have := ownP_renew_box hks hq ho'
       subst this
       exact h0 ⟨true, t, m, x⟩ (by rw [hq]; simp [ownP?, hb.1, hb.2])
      | succ i => simpa using h2 i (by simpa using hi)
     ·rcases List.mem_cons.1 ha with rfl | ha
      ·show s' < fresh
       have := hf s' hks
       have h5 : form = 500000 := rfl
       have h6 : fresh = 1000000 := rfl
       omega
      ·exact h3 a ha
    ·cases h
   ·cases h
  | _ => simp [renewCaps] at h

theorem normK_sound {keep : List Nat} {k : St → Option R} {r : R} (h : normK keep st k = some r) {N : Nat} (hA : At w0 mu N st a w) : k (normSt keep st) = some r ∧ At w0 mu N (normSt keep st) a w := by
 unfold normK at h
 obtain ⟨hg, h⟩ := guardB_some h
 rw [normL_eq] at h
 refine ⟨h, ?_⟩
 obtain ⟨⟨g, hI⟩, hs, hdf, hpin⟩ := hA
 have hkf : ∀ s ∈ keep, s < form := fun s hs => by
  have := List.all_eq_true.1 hg s hs
  simp only [Bool.and_eq_true] at this
  simpa [Nat.blt_eq] using this.1
 have h5 : form = 500000 := rfl
 have h6 : fresh = 1000000 := rfl
 refine ⟨⟨g, ?_⟩, hs, hdf, hpin⟩
 have hslot : ∀ s, SlotR w g (normSt keep st).get s ((normSt keep st).get s) (Vals a s) ∧ stampOK (· < fresh) ((normSt keep st).get s) := by
  intro s
  by_cases hk : s ∈ keep
  ·rw [normSt_get keep st s, if_pos hk]
   have h0 := hI.slots s
   have hlt := hkf s hk
   cases hq : st.get s with
   | ow n t m x => rw [hq] at h0; exact ⟨h0, by show form + s < fresh; omega⟩
   | box n u t m x => rw [hq] at h0; exact ⟨h0, by show s < fresh; omega, by show form + s < fresh; omega⟩
   | tup l => exact ⟨trivial, trivial⟩
   | app s n p e nz me zs => exact ⟨trivial, trivial⟩
   | ent s n p k y b => exact ⟨trivial, trivial⟩
   | it s' n p k e l z =>
    rw [hq] at h0
    simp only [renew]
    split
    ·rename_i o ho hk'
     have hks := any_beq hk'
     obtain ⟨rr, B, c, seen, g1, g2, g3, g4, g5⟩ := h0
     refine ⟨⟨rr, B, c, seen, g1, g2, g3, g4, fun o' ho' => ?_⟩, by show form + s' < fresh; have := hkf s' hks; omega⟩
     obtain rfl := own_renew hks ho ho'
     obtain ⟨e1, m, x, es, e2, e3, e4, e5, e6, e7, e8, _⟩ := g5 _ ho
     exact ⟨e1, m, x, es, e2, e3, e4, e5, e6, e7, e8, fun _ h => by cases h⟩
    ·exact ⟨trivial, trivial⟩
   | dead => exact ⟨trivial, trivial⟩
   | undefd => rw [hq] at h0; exact ⟨h0, trivial⟩
   | nilS => rw [hq] at h0; exact ⟨h0, trivial⟩
   | nilP => rw [hq] at h0; exact ⟨h0, trivial⟩
   | v t m x =>
    rw [hq] at h0
    cases t with
    | int k => exact ⟨⟨rfl, h0.2.1, h0.2.2⟩, trivial⟩
    | bool => exact ⟨⟨rfl, h0.2.1, h0.2.2⟩, trivial⟩
    | _ => exact ⟨h0, trivial⟩
   | rop t m x => rw [hq] at h0; exact ⟨h0, trivial⟩
   | al s' n p =>
    rw [hq] at h0
    simp only [renew]
    split
    ·rename_i o ho hk'
     have hks := any_beq hk'
     refine ⟨fun o' ho' => ?_, by show form + s' < fresh; have := hkf s' hks; omega⟩
     obtain rfl := own_renew hks ho ho'
     exact h0 _ ho
    ·exact ⟨trivial, trivial⟩
   | sub s' n p lo len c =>
    rw [hq] at h0
    simp only [renew]
    split
    ·rename_i o ho hk'
     have hks := any_beq hk'
     refine ⟨fun o' ho' => ?_, by show form + s' < fresh; have := hkf s' hks; omega⟩
     obtain rfl := own_renew hks ho ho'
     exact h0 _ ho
    ·exact ⟨trivial, trivial⟩
   | pl s' n p =>
    rw [hq] at h0
    simp only [renew]
    split
    ·rename_i n' t m x hq' hk'
     have hks := any_beq hk'
     split
     ·rename_i hb
      refine ⟨fun o' ho' => ?_, by show form + s' < fresh; have := hkf s' hks; omega⟩
      have := ownP_renew_ow hks hq' ho'
      subst this
      exact h0 ⟨false, t, m, x⟩ (by rw [hq']; simp [ownP?, hb])
     ·exact ⟨trivial, trivial⟩
    ·rename_i n1 n2 t m x hq' hk'
     have hks := any_beq hk'
     split
     ·rename_i hb
      simp only [Bool.and_eq_true] at hb
      refine ⟨fun o' ho' => ?_, by show s' < fresh; have := hkf s' hks; omega⟩
      have := ownP_renew_box hks hq' ho'
      subst this
      exact h0 ⟨true, t, m, x⟩ (by rw [hq']; simp [ownP?, hb.1, hb.2])
     ·split
      ·rename_i hb
       refine ⟨fun o' ho' => ?_, by show form + s' < fresh; have := hkf s' hks; omega⟩
       have := ownP_renew_box hks hq' ho'
       subst this
       exact h0 ⟨true, t, m, x⟩ (by rw [hq']; simp [ownP?, hb])
      ·exact ⟨trivial, trivial⟩
    ·exact ⟨trivial, trivial⟩
   | cel s' n =>
    rw [hq] at h0
    simp only [renew]
    split
    ·rename_i n1 n2 t m x hq' hk'
     have hks := any_beq hk'
     split
     ·rename_i hb
      obtain ⟨b, c, el, u, g1, g2, g3, g4, g5, g6⟩ := h0
      refine ⟨⟨b, c, el, u, g1, g2, g3, g4, g5, fun o' ho' => ?_⟩, by show s' < fresh; have := hkf s' hks; omega⟩
      have := ownP_renew_box hks hq' ho'
      subst this
      exact g6 ⟨true, t, m, x⟩ (by rw [hq']; simp [ownP?, hb, shallowD, shallow])
     ·exact ⟨trivial, trivial⟩
    ·exact ⟨trivial, trivial⟩
   | clo f l =>
    rw [hq] at h0
    simp only [renew]
    split
    ·rename_i l' hl'
     obtain ⟨vs, h1, h2, h3⟩ := h0
     obtain ⟨g1, g2, g3⟩ := renewCaps_sound (av' := (normSt keep st).get) l l' (fun i => vs.getD i undef) hl' (fun _ => rfl) hkf h3
     exact ⟨⟨vs, h1, by rw [h2, g1], fun i hi => g2 i (by rw [← g1]; exact hi)⟩, g3⟩
    ·exact ⟨trivial, trivial⟩
  ·rw [normSt_get keep st s, if_neg hk]; exact ⟨trivial, trivial⟩
 exact ⟨fun s => (hslot s).1, fun s => (hslot s).2, hI.cols, hI.fr, fun s hs => by
  rw [normSt_get]
  split
  ·rw [hI.far s hs]; rfl
  ·rfl, hI.lk⟩

/-- what an alias tells of it becomes its own -/
theorem adopt1 {s s' n : Nat} {p : List Stp} {o : Own} {t : Ty} {m : Md} {x : den t} (hU : New U st.c) (hI : Inv w0 mu st.get val U w g) (hq : st.get s = .al s' n p) (ho : own? (st.get s') n = some o)
  (hr : o.ok p → val s = g.H s' p → shapeV t (val s) ∧ RR w g s' t m p (.val (val s).cells) 0 x) : ∃ g', Inv w0 mu ((st.set s' .dead).set s (.ow st.c t m x)).get val (Nw U st.c) w g' := by
 have hv := hI.slots s
 rw [hq] at hv
 obtain ⟨h1, hok⟩ := hv o ho
 obtain ⟨hsv, hr⟩ := hr hok h1
 have hd : ¬ mu.far s := fun hf => by rw [hI.far s hf] at hq; cases hq
 have hs0 := own_ne_lent hI ho
 refine ⟨g.moveA s' p s [], ?_⟩
 have := Inv_moveA (U' := Nw U st.c) (a' := .ow st.c t m x) (v := val s) (g1 := g) (d := s) (p' := []) hI (fun _ => Nw_old) hs0 rfl (fun _ _ => rfl) (fun _ _ => rfl) ⟨hsv, RR_moveA hs0 hr⟩ Nw_0 (fun n hn => own?_new hU hn) (fun n p hn => ownP?_new hU hn) hd
 refine Inv_congr this (fun u => ?_) (fun u => ?_)
 ·rw [get_set]
  split
  ·rfl
  ·rw [get_set]
 ·split
  ·rename_i h; rw [h]
  ·rfl

theorem adopt_sound {keep : List Nat} {N : Nat} {k : St → Option R} {r : R} : ∀ (l : List Nat) (st : St), adopt keep l st k = some r → At w0 mu N st a w → ∃ st', k st' = some r ∧ At w0 mu N st' a w
 | [], st, h, hA => ⟨st, h, hA⟩
 | s :: l, st, h, hA => by
  have ih : ∀ st, adopt keep l st k = some r → At w0 mu N st a w → ∃ st', k st' = some r ∧ At w0 mu N st' a w := fun st => adopt_sound l st
  unfold adopt at h
  split at h
  ·rename_i s' n p hq
   split at h
   ·exact ih _ h hA
   ·split at h
    ·rename_i o ho
     obtain ⟨⟨g, hI⟩, hs, hdf, hpin⟩ := hA
     split at h
     ·rename_i e m x hat
      split at h
      ·rename_i hm
       obtain ⟨g', hI'⟩ := adopt1 (m := m) (x := x) (t := .sl e) (new_lt st.c) hI hq ho (fun hok hv => by
        obtain ⟨ad, cap, h2, h3⟩ := alias_node hI ho hok hat hm
        exact ⟨by rw [hv, h2]; rfl, by rw [hv]; exact h3⟩)
       exact ih _ h ⟨⟨g', hI'.monoU fun n h => Nw_lt h⟩, hs, hdf, hpin⟩
      ·exact ih _ h ⟨⟨g, hI⟩, hs, hdf, hpin⟩
     ·rename_i k1 e m x hat
      split at h
      ·rename_i hm
       simp only [Bool.and_eq_true] at hm
       obtain ⟨g', hI'⟩ := adopt1 (m := m) (x := x) (t := .mp k1 e) (new_lt st.c) hI hq ho (fun hok hv => by
        obtain ⟨b, h2, h3⟩ := alias_map hI ho hok hat hm.1 hm.2
        exact ⟨by rw [hv, h2]; rfl, by rw [hv]; exact h3⟩)
       exact ih _ h ⟨⟨g', hI'.monoU fun n h => Nw_lt h⟩, hs, hdf, hpin⟩
      ·exact ih _ h ⟨⟨g, hI⟩, hs, hdf, hpin⟩
     ·exact ih _ h ⟨⟨g, hI⟩, hs, hdf, hpin⟩
    ·exact ih _ h hA
  ·exact ih _ h hA

theorem norm_sound {keep : List Nat} {k : St → Option R} {r : R} (h : norm keep st k = some r) {N : Nat} (hA : At w0 mu N st a w) : ∃ st', k st' = some r ∧ At w0 mu N st' a w := by
 obtain ⟨st', h1, hA1⟩ := adopt_sound keep st h hA
 obtain ⟨h2, hA2⟩ := normK_sound h1 hA1
 exact ⟨_, h2, hA2⟩

/-- all slots that a code writes lie below N -/
def dstB (N : Nat) (io : List Nat) (o : Oper) : Bool := match o.dst with | some d => Nat.blt d N && io.all (fun p => !Nat.beq d p) | none => true
/-- no walk backwards stands in it -/
def noRF : Code → Bool
 | .seq x y | .cond _ x y => noRF x && noRF y
 | .block _ c | .loop c => noRF c
 | .rangeFunc _ _ _ _ => false
 | _ => true
/-- slots that a round leaves alone -/
def ioR (N : Nat) (ca cb : Code) : List Nat := (List.range N).filter fun s => !memB s (wrC ca ++ wrC cb)
def codeB (N : Nat) (io : List Nat) : Code → Bool
 | .region _ os d => os.toList.all (dstB N io) && (match d with | true => drawB os.toList | false => true) && os.toList.all notDefer
 | .seq x y | .cond _ x y => codeB N io x && codeB N io y
 | .block _ c | .loop c => codeB N io c
 | .rangeFunc _ ps ca cb => ps.toList.all (fun p => Nat.blt p N) && codeB N (ioR N ca cb) ca && codeB N (ioR N ca cb) cb && noRF ca && noRF cb
 | _ => true
theorem dstB_ok {N : Nat} {io : List Nat} (hp : ∀ s, mu.pin s ≠ none → s ∈ io) {os : Array Oper} (h : os.toList.all (dstB N io) = true) : ∀ o ∈ os.toList, ∀ d, o.dst = some d → d < N ∧ mu.pin d = none := by
 intro o ho d hd
 have := List.all_eq_true.1 h o ho
 simp only [dstB, hd, Bool.and_eq_true] at this
 refine ⟨by simpa [Nat.blt_eq] using this.1, ?_⟩
 cases hpd : mu.pin d with
 | none => rfl
 | some v =>
  have h1 := hp d (by rw [hpd]; simp)
  have h2 := List.all_eq_true.1 this.2 d h1
  simp [Nat.beq_refl] at h2

/-- drawn regions do as they are told -/
def DrawOK (P : Program) (T : Tab) (Φ : Nat → Option Contract) (w0 : World) (mu : Mu) (N : Nat) (io : List Nat) : Prop :=
 ∀ {R : Type} (id : Nat) (os : Array Oper) (K : St → Option R) (r : R) (Q : Exit → Act → World → Prop) (st : St) (a : Act) (w : World), os.toList.all (dstB N io) = true → drawB os.toList = true →
  drawOps T Φ os.toList (befGo os.toList []) K (os.toList.length + 1) [] [] st = some r → At w0 mu N st a w → (∀ st a w, K st = some r → At w0 mu N st a w → Q .normal a w) → ∀ t, wpOps P os Q (Region.schedule (P.follows .mixedOrders) os t) a { w with drawn := w.drawn + 1 }

/-- where a function calls itself by a shared variable, its text is the one that is told -/
def codeS (T : Tab) : Code → Prop
 | .region id os d => ∀ C, T.sc id = some C → os = C.os ∧ d = false
 | .seq x y | .cond _ x y => codeS T x ∧ codeS T y
 | .block _ c | .loop c => codeS T c
 | _ => True
theorem codeS_none (h : ∀ id, T.sc id = none) : ∀ c, codeS T c := by
 intro c
 induction c with
 | region id os d => intro C hC; rw [h] at hC; cases hC
 | seq x y ihx ihy => exact ⟨ihx, ihy⟩
 | cond c x y ihx ihy => exact ⟨ihx, ihy⟩
 | block id c ih => exact ih
 | loop c ih => exact ih
 | _ => trivial
/-- and it does as it is told -/
def SelfOK (P : Program) (T : Tab) (Φ : Nat → Option Contract) (w0 : World) (mu : Mu) (N : Nat) (io : List Nat) : Prop :=
 ∀ {R : Type} (id : Nat) (C : SelfC) (K : St → Option R) (r : R) (Q : Exit → Act → World → Prop) (st : St) (a : Act) (w : World), T.sc id = some C → codeB N io (.region id C.os false) = true →
  selfReg T Φ C st K = some r → At w0 mu N st a w → (∀ st a w, K st = some r → At w0 mu N st a w → Q .normal a w) → (Code.region id C.os false).wp P Q a w

theorem code_sound (hE : EnvOK P T Φ) (hfar : ∀ s, mu.far s ↔ lentC.1 ≤ s) {N : Nat} (hN : N ≤ lentC.1) {io : List Nat} (hp : ∀ s, mu.pin s ≠ none → s ∈ io) (hD : DrawOK P T Φ w0 mu N io) (hS : SelfOK P T Φ w0 mu N io) (hng : ∀ g S, T.bk g = some (.gen S) → False) {keep : Nat → List Nat} {n : Nat} :
  ∀ (c : Code) (b : Nat) (K : St → Option R) (Kx : Nat → St → Option R) (Kr : St → Option R) (r : R) (Q : Exit → Act → World → Prop) (st : St) (a : Act) (w : World), codeB N io c = true → codeS T c →
   code T Φ (fun _ F => iter n F) keep b c K Kx Kr st = some r → At w0 mu N st a w →
   (∀ st a w, K st = some r → At w0 mu N st a w → Q .normal a w) → (∀ i st a w, Kx i st = some r → At w0 mu N st a w → Q (.exit i) a w) → (∀ st a w, Kr st = some r → At w0 mu N st a w → Q .ret a w) → c.wp P Q a w := by
 intro c
 induction c with
 | skip => intro b K Kx Kr r Q st a w _ _ h hA hK _ _; exact wp_skip (hK st a w h hA)
 | region id os d =>
  intro b K Kx Kr r Q st a w hc hcs h hA hK _ _
  simp only [code] at h
  split at h
  ·rename_i C hC
   obtain ⟨rfl, rfl⟩ := hcs C hC
   exact hS id C K r Q st a w hC hc h hA hK
  ·simp only [codeB, Bool.and_eq_true] at hc
   cases d with
   | false =>
    have hos := dstB_ok (N := N) hp hc.1.1
    exact wp_region_list (ops_sound hE hfar hN hos (Q := Q) hK os.toList st a w hos h hA)
   | true => exact wp_region_draw (hD id os K r Q st a w hc.1.1 hc.1.2 h hA hK)
 | seq x y ihx ihy =>
  intro b K Kx Kr r Q st a w hc hcs h hA hK hKx hKr
  simp only [codeB, Bool.and_eq_true] at hc
  exact wp_seq (ihx b _ Kx Kr r _ st a w hc.1 hcs.1 h hA (fun st a w h hA => ihy b K Kx Kr r Q st a w hc.2 hcs.2 h hA hK hKx hKr) hKx hKr)
 | cond c x y ihx ihy =>
  intro b K Kx Kr r Q st a w hc hcs h hA hK hKx hKr
  simp only [codeB, Bool.and_eq_true] at hc
  simp only [code] at h
  obtain ⟨g, hI⟩ := hA.inv
  obtain ⟨av, h1, hv, _, _⟩ := opd_sound hI h
  obtain ⟨t, h2, hv⟩ := asBool_sound h1 hv
  clear h h1
  have hset : ∀ s, c = .tmp s → At w0 mu N (st.set s (.v .bool (.bor false true) t)) a w := by
   intro s hs
   subst hs
   refine ⟨⟨g, ?_⟩, hA.size, hA.defers, hA.pin⟩
   by_cases hin : s < a.tmps.size
   ·-- the slot holds what it held
    have hval : Vals a s = .bool t := hv
    have hfs : ¬ mu.far s := by
     have h8 := hA.size
     intro hf
     have h9 := (hfar s).1 hf
     rw [h8] at hin
     exact Nat.lt_irrefl _ (Nat.lt_of_lt_of_le hin (Nat.le_trans hN h9))
    have h3 := put_free hI hin hfs (av := .v .bool (.bor false true) t) (v := Vals a s) (by rw [hval]; exact VR_of_bool t) trivial rfl
    refine Inv_congr h3 (fun _ => rfl) (fun u => ?_)
    rw [Vals_put hin]
    split
    ·rename_i hu; rw [hu]
    ·rfl
   ·have hval : a.eval (.tmp s) = undef := by
     simp [Act.eval, Array.getD_eq_getD_getElem?, hin]
    rw [hval] at hv
    cases hv
  cases c with
  | tmp s =>
   simp only at h2
   cases t with
   | true => exact wp_cond_true hv (ihx b K Kx Kr r Q _ a w hc.1 hcs.1 h2 (hset s rfl) hK hKx hKr)
   | false => exact wp_cond_false hv (ihy b K Kx Kr r Q _ a w hc.2 hcs.2 h2 (hset s rfl) hK hKx hKr)
  | _ =>
   cases t with
   | true => exact wp_cond_true hv (ihx b K Kx Kr r Q _ a w hc.1 hcs.1 h2 hA hK hKx hKr)
   | false => exact wp_cond_false hv (ihy b K Kx Kr r Q _ a w hc.2 hcs.2 h2 hA hK hKx hKr)
 | block id c ih =>
  intro b K Kx Kr r Q st a w hc hcs h hA hK hKx hKr
  refine wp_block (ih id K _ Kr r _ st a w hc hcs h hA (fun st a w h hA => hK st a w h hA) (fun i st a w h hA => ?_) (fun st a w h hA => hKr st a w h hA))
  simp only [Exit.inBlock]
  split at h
  ·rename_i hi
   have := Nat.eq_of_beq_eq_true hi
   rw [if_pos this]; exact hK st a w h hA
  ·rename_i hi
   rw [if_neg (fun h => by subst h; simp [Nat.beq_refl] at hi)]; exact hKx i st a w h hA
 | loop c ih =>
  intro b K Kx Kr r Q st a w hc hcs h hA hK hKx hKr
  simp only [code] at h
  have key : ∀ (m : Nat) (st : St) (a : Act) (w : World), iter m (fun G st => code T Φ (fun _ F => iter n F) keep b c (fun st => norm (keep b) st G) Kx Kr st) st = some r → At w0 mu N st a w → Code.rounds P c Q m a w := by
   intro m
   induction m with
   | zero => intro st a w h _; cases h
   | succ m ihm =>
    intro st a w h hA
    exact ih b _ Kx Kr r _ st a w hc hcs h hA (fun st a w h hA => by
     obtain ⟨_, h2, hA2⟩ := norm_sound h hA
     exact ihm _ a w h2 hA2) hKx hKr
  split at h
  ·obtain ⟨_, h1, hA1⟩ := norm_sound h hA
   exact wp_loop_rounds n (key n _ a w h1 hA1)
  ·refine wp_loop_rounds (n + 1) ?_
   exact ih b _ Kx Kr r _ st a w hc hcs h hA (fun st a w h hA => by
    obtain ⟨_, h2, hA2⟩ := norm_sound h hA
    exact key n _ a w h2 hA2) hKx hKr
 | exit id => intro b K Kx Kr r Q st a w _ _ h hA _ hKx _; exact wp_exit (hKx id st a w h hA)
 | ret => intro b K Kx Kr r Q st a w _ _ h hA _ _ hKr; exact wp_ret (hKr st a w h hA)
 | rangeFunc f ps ca cb _ _ =>
  intro b K Kx Kr r Q st a w _ _ h
  simp only [code] at h
  unfold rfStart at h
  split at h
  ·split at h
   ·obtain ⟨_, h⟩ := guardK_some h
    unfold backArg at h
    split at h
    ·split at h
     ·rename_i hb
      exact (hng _ _ hb).elim
     ·cases h
    ·cases h
   ·cases h
  ·cases h
 | _ => intro b K Kx Kr r Q st a w _ _ h; cases h

/-- a result's value -/
def resV (tmps : Array Value) : ResultVar → Sem Value
 | .tmp t => pure (tmps.getD t undef)
 | .cell a t => do loadVar t (← asAddr (tmps.getD a undef))

theorem results_run {fn : Func} {tmps : Array Value} {vs : List Value} {w : World} (h : (fn.results.toList.mapM (resV tmps)).run P w = .ok vs w) : (results fn tmps).run P w = .ok (retV vs) w := by
 unfold results
 rw [← Array.toArray_toList (xs := fn.results)]
 rw [List.mapM_toArray]
 simp only [Sem.run_bind, map_eq_pure_bind]
 have key : ∀ f : ResultVar → Sem Value, (∀ v, f v = resV tmps v) → (fn.results.toList.mapM f).run P w = .ok vs w := fun f hf => by rw [funext hf]; exact h
 rw [key]
 rotate_left
 ·intro v; cases v <;> rfl
 simp only [Result.andThen_ok, Sem.run_pure]
 match vs with
 | [] => rfl
 | [v] => rfl
 | v1 :: v2 :: vs => simp [retV]
end
end Go.Ab
