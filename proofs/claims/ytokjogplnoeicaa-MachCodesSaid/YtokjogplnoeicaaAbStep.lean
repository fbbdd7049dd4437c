/- Operations that leave memory as it is. -/
import Derived.Test.YtokjogplnoeicaaAbTake
import Derived.Laws.Cells
import Derived.Laws.CopyRow
namespace Go.Ab

/-- the cells of a zero value -/
def zeros : Ty → List Value
 | .int k => [.int k 0]
 | .bool => [.bool false]
 | .sl _ => [.slice none 0 0]
 | .pair a b => zeros a ++ zeros b
 | .unit => []
 | .mp _ _ => [.map none]
 | .bx _ => [.pointer none]

def FieldsOf (P : Program) (t : TypeId) (fld : Nat → Option TypeId) (n : Nat) : Prop :=
 (∃ fs : Array Field, P.underlying t = some (.struct fs) ∧ fs.size = n ∧ ∀ j, j < n → ∃ f, fs[j]? = some f ∧ f.offset = j ∧ fld j = some f.type) ∨
 (2 ≤ n ∧ ∃ te, P.underlying t = some (.array n te) ∧ (∃ i, P.info? te = some i ∧ i.size = 1) ∧ ∀ j, j < n → fld j = some te)

/-- a type's number says what the abstract type says; of the rest of a struct from field k on -/
def TM2 (P : Program) : Ty → (TypeId → Prop) × ((Nat → Option TypeId) → Nat → Prop)
 | .int k => (fun t => P.underlying t = some (.int k) ∧ ∃ i, P.info? t = some i ∧ i.size = 1 ∧ i.zero = some (.int k 0) ∧ i.bytes ≤ 256, fun _ _ => False)
 | .bool => (fun t => P.underlying t = some .bool ∧ ∃ i, P.info? t = some i ∧ i.size = 1 ∧ i.zero = some (.bool false) ∧ i.bytes ≤ 256, fun _ _ => False)
 | .sl e => (fun t => ∃ te, P.underlying t = some (.slice te) ∧ (TM2 P e).1 te ∧ ∃ i, P.info? t = some i ∧ i.size = 1 ∧ i.zero = some (.slice none 0 0) ∧ i.bytes ≤ 256, fun _ _ => False)
 | .pair a b =>
  (fun t => ∃ fld i zs, FieldsOf P t fld (1 + sz b) ∧ isCell a = true ∧ isCell b = false ∧ (∃ ta, fld 0 = some ta ∧ (TM2 P a).1 ta ∧ (TM2 P b).2 fld 1) ∧
   P.info? t = some i ∧ i.size = 1 + sz b ∧ i.zero = some (.agg zs) ∧ zs.toList = zeros (.pair a b) ∧ 0 < i.bytes ∧ i.bytes ≤ 256,
   fun fld k => isCell a = true ∧ isCell b = false ∧ ∃ ta, fld k = some ta ∧ (TM2 P a).1 ta ∧ (TM2 P b).2 fld (k + 1))
 | .unit => (fun _ => False, fun _ _ => True)
 | .mp k e => (fun t => ∃ tk te, P.underlying t = some (.map tk te) ∧ (TM2 P k).1 tk ∧ (TM2 P e).1 te ∧ ∃ i, P.info? t = some i ∧ i.size = 1 ∧ i.zero = some (.map none) ∧ i.bytes ≤ 256, fun _ _ => False)
 | .bx e => (fun t => ∃ te, P.underlying t = some (.pointer te) ∧ (TM2 P e).1 te ∧ ∃ i, P.info? t = some i ∧ i.size = 1 ∧ i.zero = some (.pointer none) ∧ i.bytes ≤ 256, fun _ _ => False)
abbrev TM (P : Program) (ty : Ty) (t : TypeId) : Prop := (TM2 P ty).1 t

/-- what is asked of a map's keys -/
def KeyRun (P : Program) (tk : TypeId) (k : Ty) : Prop := ∀ w : World, (∀ (em : Bool) (y : den k), (Instr.checkKey em 10000 tk (litV k y)).run P w = .ok () w) ∧
 (∀ (y : den k) (es : List MapEntry) (xs : List (den k)), es.map (·.key) = xs.map (litV k) → (Instr.findKey tk (litV k y) es).run P w = .ok (findE k y es xs 0) w) ∧
 ∀ y : den k, (Instr.keyThatStays (litV k y) (litV k y)).run P w = .ok (litV k y) w
/-- the table of types fits the program -/
def TabOK (P : Program) (T : Tab) : Prop := ∀ t, (∀ ty, T.ty t = some ty → TM P ty t ∧ (∀ n te, P.underlying t = some (.array n te) → T.arr t = true) ∧ (∀ fs, P.underlying t = some (.struct fs) → T.arr t = false)) ∧ (T.str t = true → P.underlying t = some .string) ∧ (∀ k e, T.ty t = some (.mp k e) → ∃ tk te, P.underlying t = some (.map tk te) ∧ KeyRun P tk k)

theorem TM_info {P : Program} {ty : Ty} {t : TypeId} (h : TM P ty t) : ∃ i, P.info? t = some i ∧ i.size = sz ty ∧ i.bytes ≤ 256 ∧ ∃ z, i.zero = some z ∧ z.cells.toList = zeros ty := by
 cases ty with
 | int k => obtain ⟨_, i, h1, h2, h3, h4⟩ := h; exact ⟨i, h1, h2, h4, _, h3, rfl⟩
 | bool => obtain ⟨_, i, h1, h2, h3, h4⟩ := h; exact ⟨i, h1, h2, h4, _, h3, rfl⟩
 | sl e => obtain ⟨te, _, _, i, h1, h2, h3, h4⟩ := h; exact ⟨i, h1, h2, h4, _, h3, rfl⟩
 | pair a b => obtain ⟨fld, i, zs, _, _, _, _, h1, h2, h3, h4, _, h5⟩ := h; exact ⟨i, h1, h2, h5, _, h3, h4⟩
 | unit => exact h.elim
 | mp k e => obtain ⟨_, _, _, _, _, i, h1, h2, h3, h4⟩ := h; exact ⟨i, h1, h2, h4, _, h3, rfl⟩
 | bx e => obtain ⟨_, _, _, i, h1, h2, h3, h4⟩ := h; exact ⟨i, h1, h2, h4, _, h3, rfl⟩

theorem TM_isAgg {P : Program} {ty : Ty} {t : TypeId} (h : TM P ty t) (w : World) : (isAgg t).run P w = .ok (!isCell ty) w := by
 cases ty with
 | int k => obtain ⟨h0, _⟩ := h; simp [isAgg, run_underlying h0, isCell]
 | bool => obtain ⟨h0, _⟩ := h; simp [isAgg, run_underlying h0, isCell]
 | sl e => obtain ⟨te, h0, _⟩ := h; simp [isAgg, run_underlying h0, isCell]
 | pair a b =>
  obtain ⟨fld, i, zs, h0, _⟩ := h
  rcases h0 with ⟨fs, h0, _⟩ | ⟨_, te, h0, _⟩ <;> simp [isAgg, run_underlying h0, isCell]
 | unit => exact h.elim
 | mp k e => obtain ⟨_, _, h0, _⟩ := h; simp [isAgg, run_underlying h0, isCell]
 | bx e => obtain ⟨_, h0, _⟩ := h; simp [isAgg, run_underlying h0, isCell]
theorem TM_sizeOf {P : Program} {ty : Ty} {t : TypeId} (h : TM P ty t) (w : World) : (sizeOf t).run P w = .ok (sz ty) w := by
 obtain ⟨i, h1, h2, _⟩ := TM_info h
 simp [sizeOf, typeInfo, h1, h2]

def Vals (a : Act) (s : Nat) : Value := a.tmps.getD s undef
theorem Vals_put {a : Act} {d : Nat} (hd : d < a.tmps.size) (v : Value) (s : Nat) : Vals (a.put (some d) v) s = if s = d then v else Vals a s := by
 simp only [Vals, Act.put, Array.getD_eq_getD_getElem?]
 by_cases h : s = d
 ·subst h; simp [hd]
 ·rw [Array.getElem?_setIfInBounds_ne (Ne.symm h)]; simp [h]

def isOw : AV → Bool
 | .ow _ _ _ _ | .box _ _ _ _ _ | .tup _ | .app _ _ _ _ _ _ _ | .ent _ _ _ _ _ _ | .it _ _ _ _ _ _ _ => true
 | _ => false
theorem own?_free {a : AV} (h : isOw a = false) (n : Nat) : own? a n = none := by cases a <;> first | rfl | cases h
theorem ownP?_free {a : AV} (h : isOw a = false) (n : Nat) (p : List Stp) : ownP? a n p = none := by cases a <;> first | rfl | cases h
theorem SlotR_free {w : World} {g : Gh} {av : Nat → AV} {s : Nat} {a : AV} {v : Value} (h : isOw a = false) : SlotR w g av s a v ↔ VR w g av a v := by cases a <;> first | exact Iff.rfl | cases h

theorem Inv_congr {w0 w : World} {mu : Mu} {av av' : Nat → AV} {val val' : Nat → Value} {U : Nat → Prop} {g : Gh} (h : Inv w0 mu av val U w g) (ha : ∀ s, av' s = av s) (hv : ∀ s, val' s = val s) : Inv w0 mu av' val' U w g := by
 rw [funext ha, funext hv]; exact h

section
variable {P : Program} {w0 w : World} {mu : Mu} {st : St} {a : Act} {g : Gh} {R : Type} {U : Nat → Prop}

/-- What follows an operation: its result lies in its slot. -/
def NextOK (w0 : World) (mu : Mu) (o : Oper) (a : Act) (U : Nat → Prop) (st' : St) (av : AV) (next : Act → World → Prop) : Prop :=
 ∀ a' w' g', Inv w0 mu (st'.put o.dst av).get (Vals a') U w' g' → a'.tmps.size = a.tmps.size → a'.defers = a.defers → (∀ s, o.dst ≠ some s → Vals a' s = Vals a s) → next a' w'

/-- what is put in one slot leaves the others alone -/
theorem put_same {o : Oper} {a : Act} {v : Value} (s : Nat) (h : o.dst ≠ some s) : Vals (a.put o.dst v) s = Vals a s := by
 cases hd : o.dst with
 | none => rfl
 | some d =>
  have : d ≠ s := fun h' => h (by rw [hd, h'])
  simp only [Vals, Act.put, Array.getD_eq_getD_getElem?]
  rw [Array.getElem?_setIfInBounds_ne this]

def DstOK (mu : Mu) (o : Oper) (a : Act) : Prop := ∀ d, o.dst = some d → d < a.tmps.size ∧ ¬ mu.far d

theorem put_free (hI : Inv w0 mu st.get (Vals a) U w g) {d : Nat} (hd : d < a.tmps.size) (hdl : ¬ mu.far d) {av : AV} {v : Value} (hv : VR w g st.get av v) (hst : stampOK U av) (how : isOw av = false) :
  Inv w0 mu (st.set d av).get (Vals (a.put (some d) v)) U w g := by
 have h := Inv_put hI d d av v (fun _ h => h) (Nat.le_refl _) (fun b l0 _ hb => ⟨rfl, hb⟩) (fun b s r _ _ _ => ⟨rfl, rfl⟩) (fun _ _ _ _ => rfl) (fun _ _ _ _ => rfl) ?_ hst (fun n _ => own?_free how n) (fun n p _ => ownP?_free how n p) hI.cols hI.fr hdl (fun _ h => h)
 ·refine Inv_congr h (fun s => ?_) (fun s => Vals_put hd v s)
  rw [get_set]
  by_cases hs : s = d <;> simp [hs]
 ·rw [SlotR_free how]
  refine VR_mono (av := st.get) (U := U) (Nat.le_refl _) (fun b l0 _ hb => ⟨rfl, hb⟩) ?_ ?_ av v hst hv
  ·intro s n _ o' ho'
   by_cases hs : s = d
   ·simp only [hs, if_true] at ho'; rw [own?_free how] at ho'; cases ho'
   ·simp only [hs, if_false] at ho'; exact ⟨o', ho', fun p hp => ⟨hp, rfl, fun e m x hx => ⟨m, x, hx, rfl⟩⟩⟩
  ·intro s n p _ o' ho'
   by_cases hs : s = d
   ·simp only [hs, if_true] at ho'; rw [ownP?_free how] at ho'; cases ho'
   ·simp only [hs, if_false] at ho'; exact ⟨o', ho', fun hp hm => ⟨hp, hm, rfl⟩⟩

theorem S_done {o : Oper} (hI : Inv w0 mu st.get (Vals a) U w g) (hd : DstOK mu o a) {av : AV} {v : Value} (hrun : (execOp a.eval o).run P w = .ok (.value v) w) (hv : VR w g st.get av v) (hst : stampOK U av) (how : isOw av = false)
  {next : Act → World → Prop} {Q : Exit → Act → World → Prop} (hn : NextOK w0 mu o a U st av next) : o.wp P a w next Q := by
 unfold Oper.wp
 rw [hrun, Oper.upon_value]
 cases hdst : o.dst with
 | none =>
  refine hn _ w g ?_ ?_ ?_ ?_
  ·rw [hdst]; exact hI
  ·rfl
  ·rfl
  ·exact fun s _ => rfl
 | some d =>
  obtain ⟨h1, h2⟩ := hd d hdst
  refine hn _ w g ?_ ?_ ?_ ?_
  ·rw [hdst]; exact put_free hI h1 h2 hv hst how
  ·simp [Act.put]
  ·rfl
  ·exact fun s hs => by rw [← hdst]; exact put_same s hs

/-- an operand's value -/
theorem opd_sound (hI : Inv w0 mu st.get (Vals a) U w g) {x : Operand} {k : AV → Option R} {r : R} (h : opd st x k = some r) :
  ∃ av, k av = some r ∧ VR w g st.get av (a.eval x) ∧ stampOK U av ∧ isOw av = false := by
 cases x with
 | tmp t =>
  have hs := hI.slots t
  have hst := hI.stamps t
  simp only [opd] at h
  change SlotR w g st.get t (st.get t) (a.eval (.tmp t)) at hs
  generalize a.eval (.tmp t) = v at hs ⊢
  cases hq : st.get t with
  | ow n ty m x =>
   rw [hq] at h hs hst
   simp only at h
   split at h
   ·rename_i e hm
    refine ⟨_, h, ?_, hst, rfl⟩
    intro o ho
    rw [hq] at ho
    obtain ⟨h1, h2⟩ := hs
    simp only [RR, hm] at h2
    obtain ⟨a', cap, h3, h4, _⟩ := h2
    simp only [own?, Nat.beq_refl, Option.some.injEq] at ho
    subst ho
    rw [shape_cell rfl h1] at h3
    simp only [rdS] at h3
    refine ⟨by simpa using h3, by simp [Own.ok, okP]⟩
   ·rename_i kt et hm
    split at h
    ·rename_i hnz
     refine ⟨_, h, ?_, hst, rfl⟩
     intro o ho
     rw [hq] at ho
     obtain ⟨h1, h2⟩ := hs
     simp only [RR, hm] at h2
     obtain ⟨r, h3, h4, h5⟩ := h2
     simp only [own?, Nat.beq_refl, Option.some.injEq] at ho
     subst ho
     rw [shape_cell rfl h1] at h3
     simp only [rdS] at h3
     cases r with
     | none => exact absurd rfl (h4 hnz)
     | some b =>
      refine ⟨?_, by simp [Own.ok, okP]⟩
      rw [h5.1]; simpa using h3
    ·cases h
   ·cases h
  | box n u ty m x =>
   rw [hq] at h hs hst
   refine ⟨_, h, ?_, hst.1, rfl⟩
   intro o ho
   rw [hq] at ho
   obtain ⟨b, c, el, h1, h2, h3, h4, h5, h6⟩ := hs
   simp only [ownP?, Nat.beq_refl, shallowD, shallow, Bool.and_self, Bool.true_or, Option.some.injEq] at ho
   subst ho
   exact ⟨by rw [h5]; exact h1, by simp [Own.ok, okP], .inl rfl⟩
  | tup l => rw [hq] at h; cases h
  | app s n p e nz me zs => rw [hq] at h; cases h
  | ent s n p k y b => rw [hq] at h; cases h
  | it s n p k e l z => rw [hq] at h; cases h
  | dead => rw [hq] at h hs hst; exact ⟨_, h, hs, hst, rfl⟩
  | undefd => rw [hq] at h hs hst; exact ⟨_, h, hs, hst, rfl⟩
  | nilS => rw [hq] at h hs hst; exact ⟨_, h, hs, hst, rfl⟩
  | nilP => rw [hq] at h hs hst; exact ⟨_, h, hs, hst, rfl⟩
  | v t m x => rw [hq] at h hs hst; exact ⟨_, h, hs, hst, rfl⟩
  | pl s n p => rw [hq] at h hs hst; exact ⟨_, h, hs, hst, rfl⟩
  | al s n p => rw [hq] at h hs hst; exact ⟨_, h, hs, hst, rfl⟩
  | sub s n p lo len c => rw [hq] at h hs hst; exact ⟨_, h, hs, hst, rfl⟩
  | rop t m x => rw [hq] at h hs hst; exact ⟨_, h, hs, hst, rfl⟩
  | clo f l => rw [hq] at h hs hst; exact ⟨_, h, hs, hst, rfl⟩
  | cel s n => rw [hq] at h hs hst; exact ⟨_, h, hs, hst, rfl⟩
 | const v =>
  cases v with
  | int kd n => exact ⟨_, h, VR_of_int kd n, trivial, rfl⟩
  | bool b => exact ⟨_, h, VR_of_bool b, trivial, rfl⟩
  | pointer r =>
   cases r with
   | none => exact ⟨_, h, rfl, trivial, rfl⟩
   | some _ => cases h
  | slice ad len cap =>
   cases ad with
   | none =>
    cases len with
    | zero =>
     cases cap with
     | zero => exact ⟨_, h, rfl, trivial, rfl⟩
     | succ _ => cases h
    | succ _ => cases h
   | some _ => cases h
  | _ => cases h
 | global _ => cases h
 | func f => exact ⟨_, h, ⟨#[], rfl, rfl, fun i hi => absurd hi (Nat.not_lt_zero i)⟩, (fun _ h => by cases h), rfl⟩
end
end Go.Ab
