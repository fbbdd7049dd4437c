/- What is owned becomes shared; new blocks. -/
import Derived.Test.YtokjogplnoeicaaAbStepV
import Derived.Deep.AppendSrc
namespace Go.Ab

section
variable {P : Program} {w0 w : World} {mu : Mu} {st : St} {a : Act} {g : Gh} {R : Type} {val : Nat → Value} {U : Nat → Prop}

theorem VR_free_mono {w w' : World} {g g' : Gh} {av av' : Nat → AV} (hsz : w.heap.size ≤ w'.heap.size)
  (hsh : ∀ b l0, b < w.heap.size → shared g.col l0 b → w'.heap[b]? = w.heap[b]? ∧ shared g'.col l0 b)
  (a : AV) (v : Value) (ha : isFree a = true) (h : VR w g av a v) : VR w' g' av' a v := by
 cases a with
 | v t m x => exact ⟨h.1, h.2.1, RR_free hsz hsh t m [] [] _ _ 0 0 x h.2.2 h.1 (fun _ => rfl) (fun j _ => rfl)⟩
 | nilS => exact h
 | rop t m x =>
  obtain ⟨l, nz, rfl, ad, h1, h2, h3, h4, h5, h6⟩ := h
  obtain ⟨h7, h8⟩ := hsh _ l h3 h4
  have hc : ∀ j, w'.cell? ⟨ad.block, ad.off + j, none⟩ = w.cell? ⟨ad.block, ad.off + j, none⟩ := fun j => cell?_congr h7
  refine ⟨l, nz, rfl, ad, h1, h2, by omega, h8, RO_conv (by cases l <;> rfl) hsz (fun b hb hs => hsh b l hb hs) t _ _ 0 x h5 (fun j _ => hc _), fun hz => ?_⟩
  have := h6 hz
  cases t <;> first | trivial | (simp only [nzP, hc] at this ⊢; exact this)
 | _ => cases ha

/-- a nil slice as a value -/
theorem VR_nil {av : Nat → AV} {e : Ty} {m : Md} (hm : m.hasOwn = false) : VR w g av (.v (.sl e) m []) (.slice none 0 0) := by
 refine ⟨hm, rfl, ?_⟩
 simp only [RR, isOwn_hasOwn hm]
 refine ⟨?_, fun _ _ => ⟨0, 0, rfl⟩⟩
 simp only [RO]
 exact ⟨none, 0, rfl, Nat.le_refl _, by simp⟩

theorem VR_nilP {av : Nat → AV} {e : Ty} {m : Md} (hm : m.hasOwn = false) : VR w g av (.v (.bx e) m (none : Option (den e))) (.pointer none) := by
 refine ⟨hm, rfl, ?_⟩
 simp only [RR, isOwn_hasOwn hm, RO]
 exact ⟨none, rfl, trivial⟩

/-- what a take leaves: values that stand free are as they were -/
def Kept (w : World) (g g' : Gh) : Prop := ∀ b l0, b < w.heap.size → shared g.col l0 b → shared g'.col l0 b

theorem Kept.refl : Kept w g g := fun _ _ _ h => h
theorem Kept.trans {g' g'' : Gh} (h : Kept w g g') (h' : Kept w g' g'') : Kept w g g'' := fun b l hb hs => h' b l hb (h b l hb hs)
theorem Kept.free {g' : Gh} {av av' : Nat → AV} (h : Kept w g g') {a : AV} {v : Value} (ha : isFree a = true) (hv : VR w g av a v) : VR w g' av' a v :=
 VR_free_mono (Nat.le_refl _) (fun b l0 hb hs => ⟨rfl, h b l0 hb hs⟩) a v ha hv

/-- a slot that is dead, and ghosts that have moved on -/
theorem Inv_dead (hI : Inv w0 mu st.get val U w g) {s0 : Nat} {g' : Gh} (hs : s0 ≠ lentC.1) (hk : Kept w g g')
  (hun : ∀ b s r, g.col b = some (s, r) → s ≠ s0 → g'.col b = g.col b) (hH : ∀ s, s ≠ s0 → ∀ p, g'.H s p = g.H s p) (hA : ∀ s, s ≠ s0 → ∀ p, g'.A s p = g.A s p)
  (hcols : ∀ b k, g'.col b = some k → b < w.heap.size ∧ (k = lentC ∨ w0.heap.size ≤ b ∨ mu b)) : Inv w0 mu (st.set s0 .dead).get val U w g' := by
 have h := Inv_upd (av' := (st.set s0 .dead).get) (val' := val) (g' := g') hI (fun s => s = s0) (fun _ h => h) (Nat.le_refl _) (fun b l0 hb hs => ⟨rfl, hk b l0 hb hs⟩) (fun s h1 => ⟨by rw [get_set, if_neg h1], rfl, fun b r hb => ⟨rfl, hun b s r hb h1⟩, hH s h1, hA s h1⟩)
  (fun s h1 n _ o' ho' => by rw [get_set, if_pos h1] at ho'; cases ho') (fun s h1 n p _ o' ho' => by rw [get_set, if_pos h1] at ho'; cases ho') (fun s h1 => by rw [get_set, if_pos h1]; exact ⟨trivial, trivial⟩) hcols hI.fr
  (fun s hs => by rw [get_set]; split; rfl; exact hI.far s hs) (fun b hb => by
   have := hun b lentC.1 lentC.2 hb (fun h => hs h.symm)
   rw [this]; exact hb) (.inl fun s h1 n _ => by rw [get_set, if_pos h1]; rfl)
 exact h

/-- A value that is taken to be shared. -/
theorem take_ro {av : AV} {t : Ty} {m : Md} {k : den t → St → Option R} {r : R} {v : Value} (h : take st av t m k = some r) (hm : m.hasOwn = false) (hI : Inv w0 mu st.get val U w g) (hv : VR w g st.get av v) :
  ∃ y st1 g1, k y st1 = some r ∧ st1.c = st.c ∧ Inv w0 mu st1.get val U w g1 ∧ VR w g1 st1.get (.v t m y) v ∧ Kept w g g1 := by
 obtain ⟨y, st1, hk, h1⟩ := take_sound h hI hv
 rcases h1 with ⟨rfl, h1⟩ | ⟨s0, g1, m0, p0, hs', rfl, hcol, hH, hA, hsv, hr, hle⟩
 ·refine ⟨y, st1, g, hk, rfl, hI, ?_, Kept.refl⟩
  rcases h1 with ⟨m', rfl, hle⟩ | ⟨e, rfl, rfl, rfl, rfl⟩ | ⟨e, rfl, rfl, rfl, rfl⟩
  ·exact ⟨hm, hv.2.1, RR_weak _ _ _ _ _ _ _ hv.2.2 hle hv.1 hm⟩
  ·exact VR_nil hm
  ·exact VR_nilP hm
 ·have hs := Mu.ne hs'
  have hlt : ∀ b k, g1.col b = some k → b < w.heap.size := fun b k hb => (hI.cols b k (by rw [← hcol]; exact hb)).1
  have hkept : Kept w g (g1.move s0 p0 s0 [] m) := fun b l0 _ hb => move_shared hs (by rw [hcol]; exact hb)
  refine ⟨y, _, g1.move s0 p0 s0 [] m, hk, rfl, ?_, ?_, hkept⟩
  ·refine Inv_dead hI hs hkept ?_ ?_ ?_ ?_
   ·intro b s r hb hs0; simp only [Gh.move, hcol, hb, hs0, if_false]
   ·intro s hs0 p; simp only [Gh.move, hs0, if_false, hH s hs0]
   ·intro s hs0 p; simp only [Gh.move, hs0, if_false, hA s hs0]
   ·exact move_cols (Q := fun b => b < w.heap.size) (R := fun b => w0.heap.size ≤ b ∨ mu b) hs fun b k hb => hI.cols b k (by rw [← hcol]; exact hb)
  ·have := RR_move (d := s0) (p' := []) (m := m) hs (Nat.le_refl _) (fun _ _ => rfl) hlt hr hle (fun _ _ h => h) (fun _ _ => rfl)
   exact ⟨hm, hsv, RR_free (Nat.le_refl _) (fun b l0 _ hb => ⟨rfl, hb⟩) t m [] [] _ _ 0 0 y this hm (fun _ => rfl) (fun _ _ => rfl)⟩

/-- what lies at (s0, p0) now lies at (d, p') -/
def Gh.moveA (g : Gh) (s0 : Nat) (p0 : List Stp) (d : Nat) (p' : List Stp) : Gh where
 col b := match g.col b with
  | some (s, q) => if s = s0 then (match strip p0 q with | some r => some (d, p' ++ r) | none => none) else some (s, q)
  | none => none
 H s q := if s = d then (match strip p' q with | some r => g.H s0 (p0 ++ r) | none => g.H s q) else g.H s q
 A s q := if s = d then (match strip p' q with | some r => if r = [] then g.A s q else g.A s0 (p0 ++ r) | none => g.A s q) else g.A s q

theorem moveA_shared {s0 d : Nat} {p0 p' : List Stp} (hs : s0 ≠ lentC.1) {b : Nat} {l : Bool} (h : shared g.col l b) : shared (g.moveA s0 p0 d p').col l b := by
 rcases h with h | ⟨h, h'⟩
 ·left; simp [Gh.moveA, h]
 ·right; refine ⟨h, ?_⟩
  simp only [Gh.moveA, h']
  rw [if_neg (fun h => hs h.symm)]
theorem moveA_cols {s0 d : Nat} {p0 p' : List Stp} {Q R : Nat → Prop} (hs : s0 ≠ lentC.1) (h : ∀ b k, g.col b = some k → Q b ∧ (k = lentC ∨ R b)) :
  ∀ b k, (g.moveA s0 p0 d p').col b = some k → Q b ∧ (k = lentC ∨ R b) := by
 intro b k hk
 simp only [Gh.moveA] at hk
 cases hb : g.col b with
 | none => rw [hb] at hk; cases hk
 | some c =>
  obtain ⟨s, q⟩ := c
  rw [hb] at hk
  simp only at hk
  split at hk
  ·rename_i hs0
   subst hs0
   obtain ⟨h1, h2⟩ := h b _ hb
   exact ⟨h1, .inr (h2.resolve_left fun h => hs (by rw [← h]))⟩
  ·simp only [Option.some.injEq] at hk; subst hk; exact h b _ hb
theorem moveA_lk {s0 d : Nat} {p0 p' : List Stp} (hs : s0 ≠ lentC.1) {b : Nat} (h : g.col b = some lentC) : (g.moveA s0 p0 d p').col b = some lentC := by
 simp only [Gh.moveA, h]
 rw [if_neg (fun h => hs h.symm)]
theorem RR_moveA' {s0 d : Nat} {p0 p' q : List Stp} {t : Ty} {m : Md} {src : Src} {k : Nat} {x : den t} (hs : s0 ≠ lentC.1) (h : RR w g s0 t m (p0 ++ q) src k x) : RR w (g.moveA s0 p0 d p') d t m (p' ++ q) src k x := by
 refine RR_moved (Nat.le_refl _) (fun b l0 hb h => ⟨rfl, moveA_shared hs h⟩) t m (p0 ++ q) (p' ++ q) src k x h ?_ ?_ ?_ (fun _ _ => rfl)
 ·intro b r hb
  refine ⟨rfl, ?_⟩
  simp only [Gh.moveA, hb, if_true, List.append_assoc, strip_app]
 ·intro r; simp only [Gh.moveA, if_true, List.append_assoc, strip_app]
 ·intro r hr
  have : q ++ r ≠ [] := by simp [hr]
  simp only [Gh.moveA, if_true, List.append_assoc, strip_app, this, if_false]
theorem RR_moveA {s0 d : Nat} {p0 p' : List Stp} {t : Ty} {m : Md} {src : Src} {k : Nat} {x : den t} (hs : s0 ≠ lentC.1) (h : RR w g s0 t m p0 src k x) : RR w (g.moveA s0 p0 d p') d t m p' src k x := by
 have := RR_moveA' (q := []) (d := d) (p' := p') (p0 := p0) hs (by simpa using h)
 simpa using this

/-- What slot s0 holds at p0 moves into slot d, whose new value is told. -/
theorem Inv_moveA {U' : Nat → Prop} {av : Nat → AV} {g1 : Gh} (h : Inv w0 mu av val U w g) {s0 d : Nat} {p0 p' : List Stp} {a' : AV} {v : Value} (hc : ∀ n, U n → U' n)
  (hs : s0 ≠ lentC.1) (hcol : g1.col = g.col) (hH : ∀ s, s ≠ s0 → g1.H s = g.H s) (hA : ∀ s, s ≠ s0 → g1.A s = g.A s)
  (hr : SlotR w (g1.moveA s0 p0 d p') (fun t => if t = d then a' else if t = s0 then .dead else av t) d a' v) (hst : stampOK U' a') (hf : ∀ n, U n → own? a' n = none) (hf' : ∀ n p, U n → ownP? a' n p = none) (hd : ¬ mu.far d) :
  Inv w0 mu (fun u => if u = d then a' else if u = s0 then .dead else av u) (fun u => if u = d then v else val u) U' w (g1.moveA s0 p0 d p') := by
 refine Inv_put h s0 d _ _ hc (Nat.le_refl _) (fun b l0 _ hb => ⟨rfl, moveA_shared hs (by rw [hcol]; exact hb)⟩) ?_ ?_ ?_ hr hst hf hf' ?_ h.fr hd (fun b hb => moveA_lk hs (by rw [hcol]; exact hb))
 ·intro b s r hb hsd hs0
  refine ⟨rfl, ?_⟩
  simp only [Gh.moveA, hcol, hb, hs0, if_false]
 ·intro s hsd hs0 p
  simp only [Gh.moveA, hsd, if_false, hH s hs0]
 ·intro s hsd hs0 p
  simp only [Gh.moveA, hsd, if_false, hA s hs0]
 ·exact moveA_cols (Q := fun b => b < w.heap.size) (R := fun b => w0.heap.size ≤ b ∨ mu b) hs fun b k hb => h.cols b k (by rw [← hcol]; exact hb)

theorem own?_new {c n : Nat} {t : Ty} {m : Md} {x : den t} (hU : New U c) (h : U n) : own? (.ow c t m x) n = none := by
 simp only [own?]
 cases hb : Nat.beq n c with
 | true => have := Nat.eq_of_beq_eq_true hb; subst this; exact absurd h hU.1
 | false => rfl
theorem ownP?_new {c n : Nat} {p : List Stp} {t : Ty} {m : Md} {x : den t} (hU : New U c) (h : U n) : ownP? (.ow c t m x) n p = none := by
 simp only [ownP?]
 cases hb : Nat.beq n c with
 | true => have := Nat.eq_of_beq_eq_true hb; subst this; exact absurd h hU.1
 | false => rfl

/-- after an operation that has a slot for its result -/
theorem M_done {o : Oper} {d : Nat} (hdst : o.dst = some d) (hds : d < a.tmps.size) {st' : St} {av : AV} {v : Value} {w' : World} {g' : Gh} (hrun : (execOp a.eval o).run P w = .ok (.value v) w')
  (hI' : Inv w0 mu (fun u => if u = d then av else st'.get u) (fun u => if u = d then v else Vals a u) U w' g') {next : Act → World → Prop} {Q : Exit → Act → World → Prop} (hn : NextOK w0 mu o a U st' av next) : o.wp P a w next Q := by
 unfold Oper.wp
 rw [hrun, Oper.upon_value]
 refine hn _ w' g' ?_ ?_ ?_ put_same
 ·rw [hdst]
  exact Inv_congr hI' (fun s => get_set st' d av s) (fun s => Vals_put hds v s)
 ·rw [hdst]; simp [Act.put]
 ·rw [hdst]; rfl
end
end Go.Ab

/-! Assignments, moves of owners, parts of tuples. -/
namespace Go.Ab

section
variable {P : Program} {T : Tab} {Φ : Nat → Option Contract} {w0 w : World} {mu : Mu} {st : St} {a : Act} {g : Gh} {R : Type} {o : Oper} {K : AV → St → Option R} {r : R} {U : Nat → Prop}

theorem ownK_some {av : AV} {st' : St} (h : ownK o K av st' = some r) : ∃ d, o.dst = some d ∧ K av st' = some r := by
 cases hd : o.dst with
 | none => simp [ownK, hd] at h
 | some d => exact ⟨d, rfl, by simpa [ownK, hd] using h⟩

/-- an owner moves into the result's slot -/
theorem O_ok (hU : New U st.c) (hI : Inv w0 mu st.get (Vals a) U w g) (hd : DstOK mu o a) {s0 : Nat} {p0 : List Stp} {g1 : Gh} {t : Ty} {m : Md} {x : den t} {v : Value} {s : Sem Value} (hK : ownK o K (.ow st.c t m x) (st.set s0 .dead) = some r)
  (he : execOp a.eval o = (do pure (.value (← s)))) (hs : s.run P w = .ok v w) (hs0 : s0 ≠ lentC.1) (hcol : g1.col = g.col) (hH : ∀ s, s ≠ s0 → g1.H s = g.H s) (hA : ∀ s, s ≠ s0 → g1.A s = g.A s)
  (hsv : shapeV t v) (hr : RR w g1 s0 t m p0 (.val v.cells) 0 x) : StepOK P w0 mu (Nw U st.c) o a w K r := by
 obtain ⟨d, hdst, hK⟩ := ownK_some hK
 obtain ⟨h1, h2⟩ := hd d hdst
 refine ⟨_, _, hK, fun next Q hn => M_done hdst h1 (exec_v he hs) (g' := g1.moveA s0 p0 d []) ?_ hn⟩
 have := Inv_moveA (U' := Nw U st.c) (a' := .ow st.c t m x) (v := v) hI (fun _ => Nw_old) hs0 hcol hH hA ⟨hsv, RR_moveA hs0 hr⟩ Nw_0 (fun n hn => own?_new hU hn) (fun n p hn => ownP?_new hU hn) h2
 refine Inv_congr this (fun s => ?_) (fun _ => rfl)
 rw [get_set]

theorem step_assign_tmp (hU : New U st.c) (hI : Inv w0 mu st.get (Vals a) U w g) (hd : DstOK mu o a) {t : Nat} (ho : o.op = .assign (.tmp t)) (h : step T Φ o st K = some r) : StepOK P w0 mu (Nw U st.c) o a w K r := by
 unfold step at h; rw [ho] at h; simp only at h
 obtain ⟨av, h, hv, hst, how⟩ := opd_sound hI h
 split at h
 ·rename_i s n
  split at h
  ·rename_i o' ho'
   split at h
   ·obtain ⟨k1, e1, m, x, hat, hm, h⟩ := Own.mp_some h
    obtain ⟨hnz, h⟩ := guardK_some h
    obtain ⟨h1, hok⟩ := hv o' ho'
    obtain ⟨b, h2, h3⟩ := alias_map hI ho' hok hat hm hnz
    exact O_ok hU (s := pure (a.eval (.tmp t))) (v := a.eval (.tmp t)) hI hd h (by simp [execOp, ho]) (by simp) (own_ne_lent hI ho') rfl (fun _ _ => rfl) (fun _ _ => rfl) (by rw [h1, h2]; rfl) (by rw [h1]; exact h3)
   obtain ⟨e, m, x, hat, hm, h⟩ := Own.sl_some h
   obtain ⟨h1, hok⟩ := hv o' ho'
   obtain ⟨ad, cap, h2, h3⟩ := alias_node hI ho' hok hat hm
   exact O_ok hU (s := pure (a.eval (.tmp t))) (v := a.eval (.tmp t)) hI hd h (by simp [execOp, ho]) (by simp) (own_ne_lent hI ho') rfl (fun _ _ => rfl) (fun _ _ => rfl) (by rw [h1, h2]; rfl) (by rw [h1]; exact h3)
  ·cases h
 ·rename_i s n p lo len
  split at h
  ·rename_i o' ho'
   obtain ⟨e, m, x, hat, hm, h⟩ := Own.sl_some h
   split at h
   ·rename_i nz me
    split at h
    ·rename_i hme
     obtain ⟨h1, h2, h3⟩ := sub_node hI ho' hv hat hme
     refine O_ok hU (g1 := g.reslice s p lo (a.eval (.tmp t))) (s := pure (a.eval (.tmp t))) (v := a.eval (.tmp t)) hI hd h (by simp [execOp, ho]) (by simp) (own_ne_lent hI ho') rfl ?_ ?_ h2 h1
     ·intro s' hs'; funext q; simp [Gh.reslice, hs']
     ·intro s' hs'; funext q; simp [Gh.reslice, hs']
    ·cases h
   ·cases h
  ·cases h
 ·exact (S_ok (s := pure (a.eval (.tmp t))) hI hd h (by simp [execOp, ho]) (by simp) hv hst how).ok hI hd

/-- a tuple moves -/
theorem step_move_tup (hI : Inv w0 mu st.get (Vals a) U w g) (hd : DstOK mu o a) {t : Nat} {l : List AV} (ho : o.op = .move (.tmp t)) (hq : st.get t = .tup l) (h : ownK o K (.tup l) (st.set t .dead) = some r) : StepOK P w0 mu (Nw U st.c) o a w K r := by
 obtain ⟨d, hdst, hK⟩ := ownK_some h
 obtain ⟨h1, h2⟩ := hd d hdst
 have ht : t ≠ lentC.1 := by intro h; subst h; rw [hI.lent] at hq; cases hq
 have hs := hI.slots t
 rw [hq] at hs
 obtain ⟨vs, h3, h4, h5⟩ := hs
 refine ⟨_, _, hK, fun next Q hn => M_done hdst h1 (w' := w) (v := Vals a t) (by simp [execOp, ho]; rfl) (g' := g.moveA t [] d []) ?_ hn⟩
 have := Inv_moveA (p0 := []) (p' := []) (d := d) (s0 := t) (U' := Nw U st.c) (a' := .tup l) (v := Vals a t) hI (fun _ => Nw_old) ht rfl (fun _ _ => rfl) (fun _ _ => rfl) ⟨vs, h3, h4, fun i hi => ?_⟩ trivial (fun _ _ => rfl) (fun _ _ _ => rfl) h2
 ·refine Inv_congr this (fun s => ?_) (fun _ => rfl)
  rw [get_set]
 ·have h6 := h5 i hi
  generalize l.getD i .dead = b at h6
  cases b with
  | v t1 m x => exact ⟨h6.1, h6.2.1, RR_free (Nat.le_refl _) (fun b l0 _ hb => ⟨rfl, moveA_shared ht hb⟩) t1 m [] [] _ _ 0 0 x h6.2.2 h6.1 (fun _ => rfl) (fun _ _ => rfl)⟩
  | ow n t1 m x => exact ⟨h6.1, RR_moveA' (p0 := []) (p' := []) (q := [.fld i]) ht h6.2⟩
  | dead => trivial
  | _ => exact h6

/-- a new value of a slot; c: the stamp of its form -/
def openV (c : Nat) : (t : Ty) → Md → den t → AV
 | .bx t, m, some y => match m.isOwn with | true => .box c (c + 1) t m.el y | false => .dead
 | .bx _, _, none => .nilP
 | t, m, x => match m.hasOwn with | true => .ow c t m x | false => .v t m x
theorem openA_some {c : Nat} {t : Ty} {m : Md} {x : den t} {k : AV → Option R} {r : R} (h : openA c t m x k = some r) : k (openV c t m x) = some r ∧ ((∃ t' y, t = .bx t' ∧ HEq x (some y : Option (den t'))) → m.isOwn = true) := by
 cases t with
 | bx t =>
  cases x with
  | none => exact ⟨h, fun ⟨t', y, e1, e2⟩ => by cases e1; cases eq_of_heq e2⟩
  | some y =>
   simp only [openA] at h
   cases hm : m.isOwn with
   | true => rw [hm] at h; refine ⟨?_, fun _ => rfl⟩; simp only [openV, hm]; exact h
   | false => rw [hm] at h; cases h
 | _ =>
  refine ⟨?_, fun ⟨t', y, e1, _⟩ => by cases e1⟩
  simp only [openA] at h
  simp only [openV]
  cases hm : m.hasOwn <;> rw [hm] at h <;> exact h

theorem openV_slot {c0 d : Nat} (hU : New U c0) {av' : Nat → AV} {t : Ty} {m : Md} {y : den t} {v : Value} (hs : shapeV t v) (h : RR w g d t m [] (.val v.cells) 0 y) :
  SlotR w g av' d (openV c0 t m y) v ∧ stampOK (Nw U c0) (openV c0 t m y) ∧ (∀ n, U n → own? (openV c0 t m y) n = none) ∧ ∀ n p, U n → ownP? (openV c0 t m y) n p = none := by
 have hk : ∀ n, U n → Nat.beq n c0 = false := fun n hn => by
  cases hb : Nat.beq n c0 with
  | true => have := Nat.eq_of_beq_eq_true hb; subst this; exact absurd hn hU.1
  | false => rfl
 have hk1 : ∀ n, U n → Nat.beq n (c0 + 1) = false := fun n hn => by
  cases hb : Nat.beq n (c0 + 1) with
  | true => have := Nat.eq_of_beq_eq_true hb; subst this; exact absurd hn hU.2
  | false => rfl
 have gen : (∀ t', t ≠ .bx t') → openV c0 t m y = (match m.hasOwn with | true => .ow c0 t m y | false => .v t m y) := fun hb => by
  cases t <;> first | rfl | exact absurd rfl (hb _)
 by_cases hb : ∃ t', t = .bx t'
 ·obtain ⟨t', rfl⟩ := hb
  have hc := shape_cell (t := .bx t') rfl hs
  cases y with
  | none => exact ⟨val_nilP hc h, trivial, fun _ _ => rfl, fun _ _ _ => rfl⟩
  | some y =>
   simp only [openV]
   cases hm : m.isOwn with
   | true => exact ⟨val_box hc hm h, ⟨Nw_0, Nw_1⟩, fun n hn => by simp only [own?, hk1 n hn], fun n p hn => by simp [ownP?, hk n hn, hk1 n hn]⟩
   | false => exact ⟨trivial, trivial, fun _ _ => rfl, fun _ _ _ => rfl⟩
 ·rw [gen fun t' ht => hb ⟨t', ht⟩]
  cases hm : m.hasOwn with
  | true => exact ⟨⟨hs, h⟩, Nw_0, fun n hn => own?_new hU hn, fun n p hn => ownP?_new hU hn⟩
  | false => exact ⟨⟨hm, hs, RR_free (Nat.le_refl _) (fun b l0 _ hb => ⟨rfl, hb⟩) t m [] [] _ _ 0 0 y h hm (fun _ => rfl) (fun _ _ => rfl)⟩, trivial, fun _ _ => rfl, fun _ _ _ => rfl⟩

/-- a part of a tuple moves out -/
def Gh.out (g : Gh) (s i d : Nat) : Gh where
 col b := match g.col b with
  | some (s', q) => if s' = s then (match strip [.fld i] q with | some r => some (d, r) | none => some (s', q)) else some (s', q)
  | none => none
 H s' q := if s' = d then g.H s (.fld i :: q) else g.H s' q
 A s' q := if s' = d then g.A s (.fld i :: q) else g.A s' q

theorem step_extract (hU : New U st.c) (hI : Inv w0 mu st.get (Vals a) U w g) (hd : DstOK mu o a) {x : Operand} {i : Nat} (ho : o.op = .extract x i) (h : step T Φ o st K = some r) : StepOK P w0 mu (Nw U st.c) o a w K r := by
 unfold step at h; rw [ho] at h
 cases x with
 | tmp s =>
  simp only at h
  split at h
  ·rename_i l hq
   have hsl := hI.slots s
   rw [hq] at hsl
   obtain ⟨vs, h3, h4, h5⟩ := hsl
   have hrun : ∀ v, vs[i]? = some v → (Instr.extract (a.eval (.tmp s)) i).run P w = .ok v w := by
    intro v hv
    have : a.eval (.tmp s) = .tuple vs := h3
    rw [this]; simp [Instr.extract, hv]
   have hin : ∀ b, l.getD i .dead = b → b ≠ .dead → i < l.length := by
    intro b hb hne
    rcases Nat.lt_or_ge i l.length with hlt | hge
    ·exact hlt
    ·rw [List.getD_eq_getElem?_getD, List.getElem?_eq_none hge] at hb; exact absurd hb.symm hne
   split at h
   ·rename_i t m y hc
    have hi := hin _ hc (by simp)
    have h6 := h5 i hi
    rw [hc] at h6
    have hiv : i < vs.size := by omega
    have hv : vs[i]? = some (vs.getD i undef) := by simp [Array.getD_eq_getD_getElem?, hiv]
    exact (S_ok hI hd h (by simp only [execOp, ho] <;> rfl) (hrun _ hv) h6 trivial rfl).ok hI hd
   ·rename_i n t m y hc
    obtain ⟨hg, hK⟩ := guardB_some h
    have hK := (openA_some hK).1
    have hi := hin _ hc (by simp)
    have h6 := h5 i hi
    rw [hc] at h6
    have hiv : i < vs.size := by omega
    have hv : vs[i]? = some (vs.getD i undef) := by simp [Array.getD_eq_getD_getElem?, hiv]
    split at hg
    ·rename_i d hdst
     obtain ⟨h1, h2⟩ := hd d hdst
     have hds : d ≠ s := by
      intro h; subst h; simp at hg
     have hs : s ≠ lentC.1 := by intro h; subst h; rw [hI.lent] at hq; cases hq
     refine ⟨_, _, hK, fun next Q hn => M_done hdst h1 (exec_v (by simp only [execOp, ho] <;> rfl) (hrun _ hv)) (g' := g.out s i d) ?_ hn⟩
     have hsh : ∀ b l0, b < w.heap.size → shared g.col l0 b → w.heap[b]? = w.heap[b]? ∧ shared (g.out s i d).col l0 b := by
      intro b l0 _ hb
      refine ⟨rfl, ?_⟩
      rcases hb with hb | ⟨hl, hb⟩
      ·left; simp [Gh.out, hb]
      ·right; refine ⟨hl, ?_⟩
       simp only [Gh.out, hb]
       rw [if_neg (fun h => hs h.symm)]
     have hslot : ∀ av', SlotR w (g.out s i d) av' d (openV st.c t m y) (vs.getD i undef) ∧ stampOK (Nw U st.c) (openV st.c t m y) ∧ (∀ n, U n → own? (openV st.c t m y) n = none) ∧ ∀ n p, U n → ownP? (openV st.c t m y) n p = none := fun av' => by
      refine openV_slot hU h6.1 ?_
      refine RR_moved (Nat.le_refl _) hsh t m [.fld i] [] _ 0 y h6.2 ?_ ?_ ?_ (fun _ _ => rfl)
      ·intro b q hb
       refine ⟨rfl, ?_⟩
       simp only [Gh.out, hb, if_true, strip_app, List.nil_append]
      ·intro q; simp [Gh.out]
      ·intro q _; simp [Gh.out]
     refine Inv_upd hI (fun u => u = d ∨ u = s) (fun _ => Nw_old) (Nat.le_refl _) hsh ?_ ?_ ?_ ?_ ?_ hI.fr ?_ ?_ (.inl fun u hu n' hn' => by
      by_cases hu1 : u = d
      ·subst hu1; simp only [if_true]; exact (hslot st.get).2.2.1 _ hn'
      ·have hu2 := hu.resolve_left hu1
       subst hu2
       simp [hu1, get_set, own?])
     ·intro u hu
      have hu1 : u ≠ d := fun h => hu (.inl h)
      have hu2 : u ≠ s := fun h => hu (.inr h)
      refine ⟨by simp [hu1, get_set, hu2], by simp [hu1], fun b q hb => ⟨rfl, by simp [Gh.out, hb, hu2]⟩, fun p => by simp [Gh.out, hu1], fun p => by simp [Gh.out, hu1]⟩
     ·intro u hu n' hn' o' ho'
      by_cases hu1 : u = d
      ·subst hu1; simp only [if_true] at ho'; rw [(hslot st.get).2.2.1 _ hn'] at ho'; cases ho'
      ·have hu2 := hu.resolve_left hu1
       subst hu2
       simp [hu1, get_set, own?] at ho'
     ·intro u hu n' p hn' o' ho'
      by_cases hu1 : u = d
      ·subst hu1; simp only [if_true] at ho'; rw [(hslot st.get).2.2.2 _ _ hn'] at ho'; cases ho'
      ·have hu2 := hu.resolve_left hu1
       subst hu2
       simp [hu1, get_set, ownP?] at ho'
     ·intro u hu
      by_cases hu1 : u = d
      ·subst hu1
       simp only [if_true]
       exact ⟨(hslot _).1, (hslot st.get).2.1⟩
      ·have hu2 := hu.resolve_left hu1
       subst hu2
       simp only [hu1, if_false, get_set, if_true]
       refine ⟨⟨vs, h3, by simpa using h4, fun j hj => ?_⟩, trivial⟩
       rw [List.length_set] at hj
       by_cases hji : j = i
       ·subst hji
        have : (l.set j AV.dead).getD j .dead = .dead := by simp [List.getD_eq_getElem?_getD, hj]
        rw [this]; trivial
       ·have : (l.set i AV.dead).getD j .dead = l.getD j .dead := by
         simp only [List.getD_eq_getElem?_getD]; rw [List.getElem?_set_ne (Ne.symm hji)]
        rw [this]
        have h7 := h5 j hj
        generalize l.getD j .dead = b at h7
        cases b with
        | v t1 m1 x => exact ⟨h7.1, h7.2.1, RR_free (Nat.le_refl _) hsh t1 m1 [] [] _ _ 0 0 x h7.2.2 h7.1 (fun _ => rfl) (fun _ _ => rfl)⟩
        | ow n1 t1 m1 x =>
         refine ⟨h7.1, RR_frame (Nat.le_refl _) hsh t1 m1 _ _ 0 x h7.2 (fun b q hb => ⟨rfl, ?_⟩) (fun q => by simp [Gh.out, hu1]) (fun q _ => by simp [Gh.out, hu1]) (fun _ _ => rfl)⟩
         have : strip [.fld i] ([.fld j] ++ q) = none := by simp [strip, Ne.symm hji]
         simp only [Gh.out, hb, if_true, this]
        | dead => trivial
        | _ => exact h7
     ·intro b k hk
      simp only [Gh.out] at hk
      cases hb : g.col b with
      | none => rw [hb] at hk; cases hk
      | some c =>
       obtain ⟨s', q⟩ := c
       rw [hb] at hk
       simp only at hk
       obtain ⟨h8, h9⟩ := hI.cols b _ hb
       split at hk
       ·rename_i hss
        refine ⟨h8, .inr (h9.resolve_left fun h => hs ?_)⟩
        rw [← hss]; exact congrArg Prod.fst h
       ·simp only [Option.some.injEq] at hk; subst hk; exact ⟨h8, h9⟩
     ·intro u hu
      have h10 : u ≠ d := fun h => h2 (h ▸ hu)
      have h11 := hI.far u hu
      simp only [h10, if_false, get_set]
      split
      ·rename_i h12
       subst h12
       rw [hq] at h11; cases h11
      ·exact h11
     ·intro b hb
      simp only [Gh.out, hb]
      rw [if_neg (fun h => hs h.symm)]
    ·cases hg
   ·cases h
  ·rename_i s' n p kt y hq
   obtain ⟨hg, hK⟩ := guardB_some h
   split at hg
   ·rename_i d hdst
    simp only [Bool.and_eq_true, Bool.not_eq_true'] at hg
    obtain ⟨hg1, hg2⟩ := hg
    have hds : d ≠ s := by
     intro h; subst h; simp at hg1
    have hi1 := Nat.eq_of_beq_eq_true hg2
    subst hi1
    obtain ⟨h1, h2⟩ := hd d hdst
    have hsl := hI.slots s
    rw [hq] at hsl
    have hst := hI.stamps s
    rw [hq] at hst
    obtain ⟨born, v2, h3, h4⟩ := hsl
    have hrun : (Instr.extract (a.eval (.tmp s)) 1).run P w = .ok (goInt born) w := by
     have : a.eval (.tmp s) = .tuple #[v2, goInt born] := h3
     rw [this]; rfl
    refine ⟨_, _, hK, fun next Q hn => M_done hdst h1 (exec_v (by simp only [execOp, ho] <;> rfl) hrun) (g' := g) ?_ hn⟩
    have := Inv_put hI s d (.ent s' n p kt y false) (goInt born) (U' := Nw U st.c) (fun _ => Nw_old) (Nat.le_refl _) (fun b l0 _ hb => ⟨rfl, hb⟩) (fun b s r _ _ _ => ⟨rfl, rfl⟩) (fun _ _ _ _ => rfl) (fun _ _ _ _ => rfl)
     ⟨born, v2, rfl, fun o' ho' => by
      simp only at ho'
      split at ho'
      ·cases ho'
      ·split at ho'
       ·cases ho'
       ·exact h4 o' ho'⟩ (Nw_old hst) (fun _ _ => rfl) (fun _ _ _ => rfl) hI.cols hI.fr h2 (fun _ h => h)
    refine Inv_congr this (fun u => ?_) (fun _ => rfl)
    rw [get_set]
   ·cases hg
  ·cases h
 | _ => cases h
end
end Go.Ab
