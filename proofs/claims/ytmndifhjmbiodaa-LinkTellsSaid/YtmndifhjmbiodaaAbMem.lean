/- What is owned becomes shared; new blocks. -/
import Derived.Test.YtmndifhjmbiodaaAbStepV
import Derived.Deep.AppendSrc
namespace Go.Ab

section
variable {P : Program} {w0 w : World} {mu : Mu} {st : St} {a : Act} {g : Gh} {R : Type} {val : Nat → Value} {U : Nat → Prop}

theorem VR_free_mono {w w' : World} {g g' : Gh} {av av' : Nat → AV} (hsz : w.heap.size ≤ w'.heap.size)
    (hsh : ∀ b l0, b < w.heap.size → shared g.col l0 b → w'.heap[b]? = w.heap[b]? ∧ shared g'.col l0 b)
    (a : AV) (v : Value) (ha : isFree a = true) (h : VR w g av a v) : VR w' g' av' a v := by
  cases a with
  | v t m x => exact ⟨h.1, h.2.1, RR_free hsz hsh t m [] [] _ _ 0 0 x h.2.2 h.1 (fun _ => rfl) (fun j _ => rfl)⟩
  | nilS => exact h
  | rop t m x =>
    obtain ⟨l, nz, rfl, ad, h1, h2, h3, h4, h5, h6⟩ := h
    obtain ⟨h7, h8⟩ := hsh _ l h3 h4
    have hc : ∀ j, w'.cell? ⟨ad.block, ad.off + j, none⟩ = w.cell? ⟨ad.block, ad.off + j, none⟩ := fun j => cell?_congr h7
    refine ⟨l, nz, rfl, ad, h1, h2, by omega, h8, RO_conv (by cases l <;> rfl) hsz (fun b hb hs => hsh b l hb hs) t _ _ 0 x h5 (fun j _ => hc _), fun hz => ?_⟩
    have := h6 hz
    cases t <;> first | trivial | (simp only [nzP, hc] at this ⊢; exact this)
  | _ => cases ha

/-- a nil slice as a value -/
theorem VR_nil {av : Nat → AV} {e : Ty} {m : Md} (hm : m.hasOwn = false) : VR w g av (.v (.sl e) m []) (.slice none 0 0) := by
  refine ⟨hm, rfl, ?_⟩
  simp only [RR, isOwn_hasOwn hm]
  refine ⟨?_, fun _ _ => ⟨0, 0, rfl⟩⟩
  simp only [RO]
  exact ⟨none, 0, rfl, Nat.le_refl _, by simp⟩

theorem VR_nilP {av : Nat → AV} {e : Ty} {m : Md} (hm : m.hasOwn = false) : VR w g av (.v (.bx e) m (none : Option (den e))) (.pointer none) := by
  refine ⟨hm, rfl, ?_⟩
  simp only [RR, isOwn_hasOwn hm, RO]
  exact ⟨none, rfl, trivial⟩

/-- what a take leaves: values that stand free are as they were -/
def Kept (w : World) (g g' : Gh) : Prop := ∀ b l0, b < w.heap.size → shared g.col l0 b → shared g'.col l0 b

theorem Kept.refl : Kept w g g := fun _ _ _ h => h
theorem Kept.trans {g' g'' : Gh} (h : Kept w g g') (h' : Kept w g' g'') : Kept w g g'' := fun b l hb hs => h' b l hb (h b l hb hs)
theorem Kept.free {g' : Gh} {av av' : Nat → AV} (h : Kept w g g') {a : AV} {v : Value} (ha : isFree a = true) (hv : VR w g av a v) : VR w g' av' a v :=
  VR_free_mono (Nat.le_refl _) (fun b l0 hb hs => ⟨rfl, h b l0 hb hs⟩) a v ha hv

/-- a slot that is dead, and ghosts that have moved on -/
theorem Inv_dead (hI : Inv w0 mu st.get val U w g) {s0 : Nat} {g' : Gh} (hs : s0 ≠ lentC.1) (hk : Kept w g g')
    (hun : ∀ b s r, g.col b = some (s, r) → s ≠ s0 → g'.col b = g.col b) (hH : ∀ s, s ≠ s0 → ∀ p, g'.H s p = g.H s p) (hA : ∀ s, s ≠ s0 → ∀ p, g'.A s p = g.A s p)
    (hcols : ∀ b k, g'.col b = some k → b < w.heap.size ∧ (k = lentC ∨ w0.heap.size ≤ b ∨ mu b)) : Inv w0 mu (st.set s0 .dead).get val U w g' := by
  have h := Inv_upd (av' := (st.set s0 .dead).get) (val' := val) (g' := g') hI (fun s => s = s0) (fun _ h => h) (Nat.le_refl _) (fun b l0 hb hs => ⟨rfl, hk b l0 hb hs⟩) (fun s h1 => ⟨by rw [get_set, if_neg h1], rfl, fun b r hb => ⟨rfl, hun b s r hb h1⟩, hH s h1, hA s h1⟩)
    (fun s h1 n _ o' ho' => by rw [get_set, if_pos h1] at ho'; cases ho') (fun s h1 n p _ o' ho' => by rw [get_set, if_pos h1] at ho'; cases ho') (fun s h1 => by rw [get_set, if_pos h1]; exact ⟨trivial, trivial⟩) hcols hI.fr
    (fun s hs => by rw [get_set]; split; rfl; exact hI.far s hs) (fun b hb => by
      have := hun b lentC.1 lentC.2 hb (fun h => hs h.symm)
      rw [this]; exact hb) (.inl fun s h1 n _ => by rw [get_set, if_pos h1]; rfl)
  exact h

/-- A value that is taken to be shared. -/
theorem take_ro {av : AV} {t : Ty} {m : Md} {k : den t → St → Option R} {r : R} {v : Value} (h : take st av t m k = some r) (hm : m.hasOwn = false) (hI : Inv w0 mu st.get val U w g) (hv : VR w g st.get av v) :
    ∃ y st1 g1, k y st1 = some r ∧ st1.c = st.c ∧ Inv w0 mu st1.get val U w g1 ∧ VR w g1 st1.get (.v t m y) v ∧ Kept w g g1 := by
  obtain ⟨y, st1, hk, h1⟩ := take_sound h hI hv
  rcases h1 with ⟨rfl, h1⟩ | ⟨s0, g1, m0, p0, hs', rfl, hcol, hH, hA, hsv, hr, hle⟩
  · refine ⟨y, st1, g, hk, rfl, hI, ?_, Kept.refl⟩
    rcases h1 with ⟨m', rfl, hle⟩ | ⟨e, rfl, rfl, rfl, rfl⟩ | ⟨e, rfl, rfl, rfl, rfl⟩
    · exact ⟨hm, hv.2.1, RR_weak _ _ _ _ _ _ _ hv.2.2 hle hv.1 hm⟩
    · exact VR_nil hm
    · exact VR_nilP hm
  · have hs := Mu.ne hs'
    have hlt : ∀ b k, g1.col b = some k → b < w.heap.size := fun b k hb => (hI.cols b k (by rw [← hcol]; exact hb)).1
    have hkept : Kept w g (g1.move s0 p0 s0 [] m) := fun b l0 _ hb => move_shared hs (by rw [hcol]; exact hb)
    refine ⟨y, _, g1.move s0 p0 s0 [] m, hk, rfl, ?_, ?_, hkept⟩
    · refine Inv_dead hI hs hkept ?_ ?_ ?_ ?_
      · intro b s r hb hs0; simp only [Gh.move, hcol, hb, hs0, if_false]
      · intro s hs0 p; simp only [Gh.move, hs0, if_false, hH s hs0]
      · intro s hs0 p; simp only [Gh.move, hs0, if_false, hA s hs0]
      · exact move_cols (Q := fun b => b < w.heap.size) (R := fun b => w0.heap.size ≤ b ∨ mu b) hs fun b k hb => hI.cols b k (by rw [← hcol]; exact hb)
    · have := RR_move (d := s0) (p' := []) (m := m) hs (Nat.le_refl _) (fun _ _ => rfl) hlt hr hle (fun _ _ h => h) (fun _ _ => rfl)
      exact ⟨hm, hsv, RR_free (Nat.le_refl _) (fun b l0 _ hb => ⟨rfl, hb⟩) t m [] [] _ _ 0 0 y this hm (fun _ => rfl) (fun _ _ => rfl)⟩

/-- what lies at (s0, p0) now lies at (d, p') -/
def Gh.moveA (g : Gh) (s0 : Nat) (p0 : List Stp) (d : Nat) (p' : List Stp) : Gh where
  col b := match g.col b with
    | some (s, q) => if s = s0 then (match strip p0 q with | some r => some (d, p' ++ r) | none => none) else some (s, q)
    | none => none
  H s q := if s = d then (match strip p' q with | some r => g.H s0 (p0 ++ r) | none => g.H s q) else g.H s q
  A s q := if s = d then (match strip p' q with | some r => if r = [] then g.A s q else g.A s0 (p0 ++ r) | none => g.A s q) else g.A s q

theorem moveA_shared {s0 d : Nat} {p0 p' : List Stp} (hs : s0 ≠ lentC.1) {b : Nat} {l : Bool} (h : shared g.col l b) : shared (g.moveA s0 p0 d p').col l b := by
  rcases h with h | ⟨h, h'⟩
  · left; simp [Gh.moveA, h]
  · right; refine ⟨h, ?_⟩
    simp only [Gh.moveA, h']
    rw [if_neg (fun h => hs h.symm)]
theorem moveA_cols {s0 d : Nat} {p0 p' : List Stp} {Q R : Nat → Prop} (hs : s0 ≠ lentC.1) (h : ∀ b k, g.col b = some k → Q b ∧ (k = lentC ∨ R b)) :
    ∀ b k, (g.moveA s0 p0 d p').col b = some k → Q b ∧ (k = lentC ∨ R b) := by
  intro b k hk
  simp only [Gh.moveA] at hk
  cases hb : g.col b with
  | none => rw [hb] at hk; cases hk
  | some c =>
    obtain ⟨s, q⟩ := c
    rw [hb] at hk
    simp only at hk
    split at hk
    · rename_i hs0
      subst hs0
      obtain ⟨h1, h2⟩ := h b _ hb
      exact ⟨h1, .inr (h2.resolve_left fun h => hs (by rw [← h]))⟩
    · simp only [Option.some.injEq] at hk; subst hk; exact h b _ hb
theorem moveA_lk {s0 d : Nat} {p0 p' : List Stp} (hs : s0 ≠ lentC.1) {b : Nat} (h : g.col b = some lentC) : (g.moveA s0 p0 d p').col b = some lentC := by
  simp only [Gh.moveA, h]
  rw [if_neg (fun h => hs h.symm)]
theorem RR_moveA' {s0 d : Nat} {p0 p' q : List Stp} {t : Ty} {m : Md} {src : Src} {k : Nat} {x : den t} (hs : s0 ≠ lentC.1) (h : RR w g s0 t m (p0 ++ q) src k x) : RR w (g.moveA s0 p0 d p') d t m (p' ++ q) src k x := by
  refine RR_moved (Nat.le_refl _) (fun b l0 hb h => ⟨rfl, moveA_shared hs h⟩) t m (p0 ++ q) (p' ++ q) src k x h ?_ ?_ ?_ (fun _ _ => rfl)
  · intro b r hb
    refine ⟨rfl, ?_⟩
    simp only [Gh.moveA, hb, if_true, List.append_assoc, strip_app]
  · intro r; simp only [Gh.moveA, if_true, List.append_assoc, strip_app]
  · intro r hr
    have : q ++ r ≠ [] := by simp [hr]
    simp only [Gh.moveA, if_true, List.append_assoc, strip_app, this, if_false]
theorem RR_moveA {s0 d : Nat} {p0 p' : List Stp} {t : Ty} {m : Md} {src : Src} {k : Nat} {x : den t} (hs : s0 ≠ lentC.1) (h : RR w g s0 t m p0 src k x) : RR w (g.moveA s0 p0 d p') d t m p' src k x := by
  have := RR_moveA' (q := []) (d := d) (p' := p') (p0 := p0) hs (by simpa using h)
  simpa using this

/-- What slot s0 holds at p0 moves into slot d, whose new value is told. -/
theorem Inv_moveA {U' : Nat → Prop} {av : Nat → AV} {g1 : Gh} (h : Inv w0 mu av val U w g) {s0 d : Nat} {p0 p' : List Stp} {a' : AV} {v : Value} (hc : ∀ n, U n → U' n)
    (hs : s0 ≠ lentC.1) (hcol : g1.col = g.col) (hH : ∀ s, s ≠ s0 → g1.H s = g.H s) (hA : ∀ s, s ≠ s0 → g1.A s = g.A s)
    (hr : SlotR w (g1.moveA s0 p0 d p') (fun t => if t = d then a' else if t = s0 then .dead else av t) d a' v) (hst : stampOK U' a') (hf : ∀ n, U n → own? a' n = none) (hf' : ∀ n p, U n → ownP? a' n p = none) (hd : ¬ mu.far d) :
    Inv w0 mu (fun u => if u = d then a' else if u = s0 then .dead else av u) (fun u => if u = d then v else val u) U' w (g1.moveA s0 p0 d p') := by
  refine Inv_put h s0 d _ _ hc (Nat.le_refl _) (fun b l0 _ hb => ⟨rfl, moveA_shared hs (by rw [hcol]; exact hb)⟩) ?_ ?_ ?_ hr hst hf hf' ?_ h.fr hd (fun b hb => moveA_lk hs (by rw [hcol]; exact hb))
  · intro b s r hb hsd hs0
    refine ⟨rfl, ?_⟩
    simp only [Gh.moveA, hcol, hb, hs0, if_false]
  · intro s hsd hs0 p
    simp only [Gh.moveA, hsd, if_false, hH s hs0]
  · intro s hsd hs0 p
    simp only [Gh.moveA, hsd, if_false, hA s hs0]
  · exact moveA_cols (Q := fun b => b < w.heap.size) (R := fun b => w0.heap.size ≤ b ∨ mu b) hs fun b k hb => h.cols b k (by rw [← hcol]; exact hb)

theorem own?_new {c n : Nat} {t : Ty} {m : Md} {x : den t} (hU : New U c) (h : U n) : own? (.ow c t m x) n = none := by
  simp only [own?]
  cases hb : Nat.beq n c with
  | true => have := Nat.eq_of_beq_eq_true hb; subst this; exact absurd h hU.1
  | false => rfl
theorem ownP?_new {c n : Nat} {p : List Stp} {t : Ty} {m : Md} {x : den t} (hU : New U c) (h : U n) : ownP? (.ow c t m x) n p = none := by
  simp only [ownP?]
  cases hb : Nat.beq n c with
  | true => have := Nat.eq_of_beq_eq_true hb; subst this; exact absurd h hU.1
  | false => rfl

/-- after an operation that has a slot for its result -/
theorem M_done {o : Oper} {d : Nat} (hdst : o.dst = some d) (hds : d < a.tmps.size) {st' : St} {av : AV} {v : Value} {w' : World} {g' : Gh} (hrun : (execOp a.eval o).run P w = .ok (.value v) w')
    (hI' : Inv w0 mu (fun u => if u = d then av else st'.get u) (fun u => if u = d then v else Vals a u) U w' g') {next : Act → World → Prop} {Q : Exit → Act → World → Prop} (hn : NextOK w0 mu o a U st' av next) : o.wp P a w next Q := by
  unfold Oper.wp
  rw [hrun, Oper.upon_value]
  refine hn _ w' g' ?_ ?_ ?_ put_same
  · rw [hdst]
    exact Inv_congr hI' (fun s => get_set st' d av s) (fun s => Vals_put hds v s)
  · rw [hdst]; simp [Act.put]
  · rw [hdst]; rfl
end
end Go.Ab
