/- Regions that draw their order: one run of the operations in an order of our own serves for every order. -/
import Derived.Test.YtokjogplnoeicaaAbWs
import Derived.Test.YtokjogplnoeicaaAbSound
import Derived.Orders
namespace Go.Ab

section
variable {P : Program} {T : Tab} {Φ : Nat → Option Contract} {w0 w : World} {mu : Mu} {st : St} {a : Act} {g : Gh} {R : Type} {o : Oper} {K : AV → St → Option R} {r : R} {U : Nat → Prop}

/-- two states that have the same in every slot -/
def GEq (st st' : St) : Prop := st'.c = st.c ∧ ∀ s, st'.get s = st.get s
theorem GEq.rfl {st : St} : GEq st st := ⟨Eq.refl _, fun _ => Eq.refl _⟩

theorem fl_sound (hE : EnvOK P T Φ) (hI : Inv w0 mu st.get (Vals a) U w g) (hd : DstOK mu o a) (hf : flOp o = true) (hm : noTup st o = true) (h : step T Φ o st K = some r) : StepS P U o a w g st K r := by
 obtain ⟨hT, hEq, _, _⟩ := hE
 cases ho : o.op with
 | move x =>
  unfold step at h; rw [ho] at h
  cases x with
  | tmp t =>
   simp only at h
   split at h
   ·rename_i l hq; simp [noTup, ho, hq] at hm
   ·exact step_move_tmp hI hd ho h
  | _ => exact step_move_tmp hI hd ho h
 | pick c x y => exact step_pick hI hd ho h
 | binOp op t x y u => exact step_binOp hT hEq hI hd ho h
 | unOp op t x => exact step_unOp hI hd ho h
 | convert s d x => exact step_convert hT hI hd ho h
 | load t x => exact step_load hT hI hd ho hm h
 | fieldAddr t x f => exact step_fieldAddr hT hI hd ho h
 | field t x f => exact step_field hT hI hd ho h
 | indexAddr t x i => exact step_indexAddr hT hI hd ho h
 | index t x i => exact step_index hT hI hd ho h
 | slice t x lo hi mx => exact step_slice hT hI hd ho h
 | makeFunc f fs cs => exact step_makeFunc hI hd ho h
 | nilCheck x => exact step_nilCheck hI hd ho h
 | lookup t x i ok =>
  cases ok with
  | false => exact step_lookup1 hT hI hd ho h
  | true => simp [flOp, ho] at hf
 | call c =>
  cases hc : c.callee with
  | value f => simp [flOp, ho, hc] at hf
  | builtin b =>
   cases b with
   | len => exact step_len hT hI hd ho hc h
   | min => exact step_min hI hd ho hc h
   | max => exact step_max hI hd ho hc h
   | _ => simp [flOp, ho, hc] at hf
  | invoke x n => simp [flOp, ho, hc] at hf
 | _ => simp [flOp, ho] at hf

theorem behind_agr {st st' : St} {x : Operand} (h : Agr (behind st x) st st') : behind st' x = behind st x := by
 cases x with
 | tmp t => simp only [behind, h t (by simp [behind])]
 | _ => rfl
theorem flatMap_congr' {α β : Type} {f f' : α → List β} : ∀ (l : List α), (∀ x ∈ l, f x = f' x) → l.flatMap f = l.flatMap f'
 | [], _ => rfl
 | x :: l, h => by simp only [List.flatMap_cons, h x (by simp), flatMap_congr' l (fun y hy => h y (by simp [hy]))]
theorem footO_agr {st st' : St} (h : Agr (footO st o) st st') : footO st' o = footO st o :=
 flatMap_congr' _ fun x hx => behind_agr (h.mem (footO_mem hx))
theorem noTup_agr {st st' : St} (h : Agr (footO st o) st st') : noTup st' o = noTup st o := by
 unfold noTup
 split
 ·rename_i t ho
  have : st'.get t = st.get t := h t (footO_mem (x := .tmp t) (by rw [ho]; simp [Op.operands]) t (by simp [behind]))
  rw [this]
 ·rename_i op t x y u ho
  have hx := h.mem (footO_mem (x := x) (o := o) (by rw [ho]; simp [Op.operands]))
  have hy := h.mem (footO_mem (x := y) (o := o) (by rw [ho]; simp [Op.operands]))
  unfold nilSure
  rw [opd_agr hy, opd_agr hx]
  split
  ·cases ha : opd st x some with
   | none => rfl
   | some a =>
    obtain ⟨a', h1, h2, _⟩ := opd_fl ha
    cases h1
    cases a with
    | al s n p =>
     have : st'.get s = st.get s := hx s (h2 s (by simp [targets, target]))
     simp only [sureN, this]
    | _ => rfl
  ·rfl
 ·rename_i t x ho
  have hx := h.mem (footO_mem (x := x) (o := o) (by rw [ho]; simp [Op.operands]))
  rw [opd_agr hx]
  cases ha : opd st x some with
  | none => rfl
  | some a =>
   obtain ⟨a', h1, h2, _⟩ := opd_fl ha
   cases h1
   exact frz_agr' (hx.mem h2)
 ·rfl

theorem GEq.set {st : St} {s : Nat} {v : AV} (h : st.get s = v) : GEq st (st.set s v) := ⟨Eq.refl _, fun u => by
 rw [get_set]; split
 ·rename_i hu; rw [hu, h]
 ·exact Eq.refl _⟩
theorem GEq.agr {l : List Nat} {st st' : St} (h : GEq st st') : Agr l st st' := fun s _ => h.2 s

/-- what a floater yields, whatever becomes of it: at every state that has the same in the slots that it looks at -/
theorem gfl {all : List Oper} (hf : flOp o = true) (hm : noTup st o = true) (h : gstep T Φ all o st K = some r) :
  ∃ av st2, K av st2 = some r ∧ GEq st st2 ∧ ∀ st', Agr (guardL all o ++ footO st o) st st' → ∃ st3, GEq st' st3 ∧ ∀ {R' : Type} (K' : AV → St → Option R'), gstep T Φ all o st' K' = K' av st3 := by
 have hfoot : ∀ {st' : St}, Agr (guardL all o ++ footO st o) st st' → Agr (footO st o) st st' := fun h => h.mem fun s hs => List.mem_append_right _ hs
 unfold gstep at h
 split at h
 ·rename_i hg
  obtain ⟨av, hk, e⟩ := fl_step hf hm h
  exact ⟨av, st, hk, GEq.rfl, fun st' ha => ⟨st', GEq.rfl, fun K' => by unfold gstep; rw [hg]; exact e K' st' (hfoot ha)⟩⟩
 ·rename_i j want hg
  split at h
  ·cases h
  ·rename_i d hj
   have hd : ∀ {st' : St}, Agr (guardL all o ++ footO st o) st st' → st'.get d = st.get d := fun ha => ha d (List.mem_append_left _ (by simp only [guardL, hg, hj]; simp))
   have inner : ∀ (m : Md) (c : Bool), st.get d = .v .bool m c → step T Φ o (st.set d (.v .bool m c)) K = some r → ∃ av st2, K av st2 = some r ∧ GEq st st2 ∧ ∀ st', Agr (guardL all o ++ footO st o) st st' → ∃ st3, GEq st' st3 ∧ ∀ {R' : Type} (K' : AV → St → Option R'), step T Φ o (st'.set d (.v .bool m c)) K' = K' av st3 := by
    intro m c hq h
    have hge := GEq.set hq
    obtain ⟨av, hk, e⟩ := fl_step hf (by rw [noTup_agr hge.agr]; exact hm) h
    refine ⟨av, _, hk, hge, fun st' ha => ⟨_, GEq.set (by rw [hd ha, hq]), fun K' => e K' _ fun s hs => ?_⟩⟩
    rw [footO_agr hge.agr] at hs
    rw [get_set, get_set, hfoot ha s hs]
   split at h
   ·rename_i m c hq
    cases c with
    | true =>
     cases want with
     | true =>
      obtain ⟨av, st2, hk, h2, e⟩ := inner m true hq h
      exact ⟨av, st2, hk, h2, fun st' ha => by
       obtain ⟨st3, h3, e3⟩ := e st' ha
       exact ⟨st3, h3, fun K' => by unfold gstep; rw [hg]; simp only [hj, hd ha, hq]; exact e3 K'⟩⟩
     | false => exact ⟨_, _, h, GEq.set hq, fun st' ha => ⟨_, GEq.set (by rw [hd ha, hq]), fun K' => by unfold gstep; rw [hg]; simp only [hj, hd ha, hq]⟩⟩
    | false =>
     cases want with
     | false =>
      obtain ⟨av, st2, hk, h2, e⟩ := inner m false hq h
      exact ⟨av, st2, hk, h2, fun st' ha => by
       obtain ⟨st3, h3, e3⟩ := e st' ha
       exact ⟨st3, h3, fun K' => by unfold gstep; rw [hg]; simp only [hj, hd ha, hq]; exact e3 K'⟩⟩
     | true => exact ⟨_, _, h, GEq.set hq, fun st' ha => ⟨_, GEq.set (by rw [hd ha, hq]), fun K' => by unfold gstep; rw [hg]; simp only [hj, hd ha, hq]⟩⟩
   ·rename_i hq
    exact ⟨_, _, h, GEq.rfl, fun st' ha => ⟨_, GEq.rfl, fun K' => by unfold gstep; rw [hg]; simp only [hj, hd ha, hq]⟩⟩
   ·cases h

/-- what a floater yields now -/
theorem gfl_sound (hE : EnvOK P T Φ) (hI : Inv w0 mu st.get (Vals a) U w g) (hd : DstOK mu o a) {all : List Oper} (hall : ∀ o ∈ all, ∀ d, o.dst = some d → d < a.tmps.size) (hf : flOp o = true) (hm : noTup st o = true) (h : gstep T Φ all o st K = some r) :
  ∃ av st2 v, K av st2 = some r ∧ GEq st st2 ∧ (if Region.wanted o (yielded all.toArray a.tmps) = true then (execOp a.eval o).run P w = .ok (.value v) w else v = undef) ∧ VR w g st.get av v ∧ stampOK U av ∧ isOw av = false := by
 unfold gstep at h
 split at h
 ·rename_i hg
  obtain ⟨av, v, hk, hs, hv, hst, how⟩ := fl_sound hE hI hd hf hm h
  exact ⟨av, st, v, hk, GEq.rfl, by rw [if_pos (by simp [Region.wanted, hg])]; exact hs, hv, hst, how⟩
 ·rename_i j want hg
  split at h
  ·cases h
  ·rename_i d hj
   have hjb := getD_map_some hj
   have hdlt : d < a.tmps.size := by
    rw [List.getD_eq_getElem?_getD, List.getElem?_map] at hj
    cases hjo : all[j]? with
    | none => rw [hjo] at hj; cases hj
    | some oj => rw [hjo] at hj; exact hall oj (List.mem_of_getElem? hjo) d hj
   have hget : a.tmps[d]? = some (Vals a d) := by simp [Vals, Array.getD_eq_getD_getElem?, hdlt]
   have hs := hI.slots d
   split at h
   ·rename_i m c hq
    rw [hq] at hs
    have hv : Vals a d = .bool c := VR_bool (av := st.get) hs
    have hy : yielded all.toArray a.tmps j = some c := by simp only [yielded, hjb, Option.bind_some, hget, hv]
    have hge := GEq.set hq
    have hI' : Inv w0 mu (st.set d (.v .bool m c)).get (Vals a) U w g := Inv_congr hI hge.2 (fun _ => Eq.refl _)
    have hm' : noTup (st.set d (.v .bool m c)) o = true := by rw [noTup_agr hge.agr]; exact hm
    have run : step T Φ o (st.set d (.v .bool m c)) K = some r → want = c → ∃ av st2 v, K av st2 = some r ∧ GEq st st2 ∧ (if Region.wanted o (yielded all.toArray a.tmps) = true then (execOp a.eval o).run P w = .ok (.value v) w else v = undef) ∧ VR w g st.get av v ∧ stampOK U av ∧ isOw av = false := by
     intro h hw
     obtain ⟨av, v, hk, hs, hv, hst, how⟩ := fl_sound hE hI' hd hf hm' h
     refine ⟨av, _, v, hk, hge, by rw [if_pos (by simp [Region.wanted, hg, hy, hw])]; exact hs, ?_, hst, how⟩
     have : (st.set d (.v .bool m c)).get = st.get := funext hge.2
     rw [← this]; exact hv
    have skip : K .undefd (st.set d (.v .bool m c)) = some r → want ≠ c → ∃ av st2 v, K av st2 = some r ∧ GEq st st2 ∧ (if Region.wanted o (yielded all.toArray a.tmps) = true then (execOp a.eval o).run P w = .ok (.value v) w else v = undef) ∧ VR w g st.get av v ∧ stampOK U av ∧ isOw av = false := by
     intro h hw
     exact ⟨_, _, undef, h, hge, by rw [if_neg (by simp [Region.wanted, hg, hy]; exact fun h => hw h.symm)], Eq.refl _, trivial, Eq.refl _⟩
    cases c with
    | true =>
     cases want with
     | true => exact run h (Eq.refl _)
     | false => exact skip h (by decide)
    | false =>
     cases want with
     | false => exact run h (Eq.refl _)
     | true => exact skip h (by decide)
   ·rename_i hq
    rw [hq] at hs
    have hv : Vals a d = undef := hs
    have hy : yielded all.toArray a.tmps j = none := by simp only [yielded, hjb, Option.bind_some, hget, hv, undef]
    exact ⟨_, _, undef, h, GEq.rfl, by rw [if_neg (by simp [Region.wanted, hg, hy])], Eq.refl _, trivial, Eq.refl _⟩
   ·cases h

/-- two frames that differ in the slots of D alone -/
structure Virt (D : Nat → Prop) (a b : Act) : Prop where
 defers : b.defers = a.defers
 size : b.tmps.size = a.tmps.size
 same : ∀ s, ¬ D s → b.tmps[s]? = a.tmps[s]?

theorem Virt.put {D : Nat → Prop} {a b : Act} (h : Virt D a b) (d : Option Tmp) (v : Value) : Virt D (a.put d v) (b.put d v) := by
 cases d with
 | none => exact h
 | some d =>
  refine ⟨h.defers, by simp [Act.put, h.size], fun s hs => ?_⟩
  simp only [Act.put, Array.getElem?_setIfInBounds, h.size]
  split
  ·rfl
  ·exact h.same s hs

theorem Virt.eval {D : Nat → Prop} {a b : Act} (h : Virt D a b) {x : Operand} (hx : ∀ t, x = .tmp t → ¬ D t) : b.eval x = a.eval x := by
 cases x with
 | tmp t => simp only [Act.eval, Array.getD_eq_getD_getElem?, h.same t (hx t rfl)]
 | _ => rfl

theorem Virt.exec {D : Nat → Prop} {a b : Act} (h : Virt D a b) {os : Array Oper} (hs : ∀ cs c, o.op ≠ .select cs c) (hl : ∀ t ∈ o.looksAt os, ¬ D t) : execOp b.eval o = execOp a.eval o :=
 execOp_congr o hs fun x hx => h.eval fun t ht => hl t (by
  subst ht
  exact List.mem_append_left _ (List.mem_filterMap.2 ⟨.tmp t, by simpa using hx, rfl⟩))

theorem Virt.wanted {D : Nat → Prop} {a b : Act} (h : Virt D a b) {os : Array Oper} (hl : ∀ t ∈ o.looksAt os, ¬ D t) : Region.wanted o (yielded os b.tmps) = Region.wanted o (yielded os a.tmps) := by
 unfold Region.wanted
 cases hg : o.guard with
 | none => rfl
 | some gw =>
  obtain ⟨j, want⟩ := gw
  have hy : yielded os b.tmps j = yielded os a.tmps j := by
   unfold yielded
   cases ht : (os[j]?).bind (·.dst) with
   | none => rfl
   | some t =>
    have : ¬ D t := hl t (by simp [Oper.looksAt, hg, ht])
    simp only [Option.bind_some, h.same t this]
  simp only [hy]

theorem Virt.wp {D : Nat → Prop} {a b : Act} (h : Virt D a b) {os : Array Oper} (hs : ∀ cs c, o.op ≠ .select cs c) (hl : ∀ t ∈ o.looksAt os, ¬ D t) {next : Act → World → Prop} {Q : Exit → Act → World → Prop}
  (hw : o.wp P b w next fun _ _ _ => False) : o.wp P a w (fun a' w' => ∃ b', Virt D a' b' ∧ next b' w') Q := by
 unfold Oper.wp at *
 rw [h.exec hs hl] at hw
 generalize (execOp a.eval o).run P w = r at *
 cases r with
 | ok n w' =>
  cases n <;> simp only [Oper.upon] at hw ⊢
  case value u => exact ⟨_, h.put _ _, hw⟩
  case skip => exact ⟨_, h.put _ _, hw⟩
  case defer d => exact ⟨_, Virt.put (a := { a with defers := d :: a.defers }) (b := { b with defers := d :: b.defers }) ⟨by simp [h.defers], h.size, h.same⟩ _ _, hw⟩
  case enter f args =>
   refine Calls.mono hw fun e w'' he => ?_
   cases e with
   | returned u => exact ⟨_, h.put _ _, he⟩
   | panicked c => exact he.elim
   | outgrown => exact absurd he (by simp [LetsOut])
  case row row args => exact Rows.mono hw fun u w'' he => ⟨_, h.put _ _, he⟩
 | halt x w' =>
  cases x <;> simp only [Oper.upon] at hw ⊢

def notSel (o : Oper) : Bool := match o.op with | .select _ _ => false | _ => true
/-- what one operation of a drawn region is to another one that leaves memory alone -/
def pairB (os : List Oper) (bs : List (List Nat)) (i : Nat) (o : Oper) (j : Nat) : Bool := match os[j]? with
 | some oj => !flOp oj || (match oj.dst with
  | some d => (mem j (bs.getD i []) || !mem d (o.looksAt os.toArray)) && (Nat.beq i j || !mem d (dstL o))
  | none => true)
 | none => true
/-- may the order of these be drawn? -/
def drawB (os : List Oper) : Bool := (List.range os.length).all fun i => match os[i]? with
 | some o => (bef1 o).all (fun j => Nat.blt j i) && notSel o && (List.range os.length).all (pairB os (befGo os []) i o)
 | none => true

theorem mem_iff {i : Nat} {l : List Nat} : mem i l = true ↔ i ∈ l := by
 unfold mem
 rw [List.any_eq_true]
 constructor
 ·rintro ⟨x, h1, h2⟩
  have := Nat.eq_of_beq_eq_true h2
  subst this; exact h1
 ·intro h; exact ⟨i, h, Nat.beq_refl i⟩
theorem mem_false {i : Nat} {l : List Nat} : mem i l = false ↔ i ∉ l := by
 rw [← mem_iff]; simp

structure DrawS (os : List Oper) : Prop where
 back : ∀ (i : Nat) o, os[i]? = some o → ∀ j ∈ bef1 o, j < i
 sel : ∀ (i : Nat) o, os[i]? = some o → ∀ cs c, o.op ≠ .select cs c
 apart : ∀ (i j : Nat) o oj d, os[i]? = some o → os[j]? = some oj → flOp oj = true → oj.dst = some d → (j ∈ (befGo os []).getD i [] ∨ d ∉ o.looksAt os.toArray) ∧ (i ≠ j → o.dst ≠ some d)

theorem drawB_ok {os : List Oper} (h : drawB os = true) : DrawS os := by
 have key : ∀ (i : Nat) o, os[i]? = some o → ((bef1 o).all (fun j => Nat.blt j i) = true ∧ notSel o = true) ∧ (List.range os.length).all (pairB os (befGo os []) i o) = true := by
  intro i o ho
  have hi : i < os.length := (List.getElem?_eq_some_iff.1 ho).1
  have := List.all_eq_true.1 h i (List.mem_range.2 hi)
  rw [ho] at this
  simpa only [Bool.and_eq_true] using this
 refine ⟨fun i o ho j hj => ?_, fun i o ho cs c hc => ?_, fun i j o oj d ho hoj hf hd => ?_⟩
 ·have := List.all_eq_true.1 (key i o ho).1.1 j hj
  simpa [Nat.blt_eq] using this
 ·have := (key i o ho).1.2
  simp [notSel, hc] at this
 ·have hj : j < os.length := (List.getElem?_eq_some_iff.1 hoj).1
  have := List.all_eq_true.1 (key i o ho).2 j (List.mem_range.2 hj)
  simp only [pairB, hoj, hf, hd, Bool.not_true, Bool.false_or, Bool.or_eq_true, Bool.and_eq_true, Bool.not_eq_true', mem_iff, mem_false] at this
  obtain ⟨h1, h2⟩ := this
  exact ⟨h1, fun hij h3 => by
   rcases h2 with h2 | h2
   ·exact hij (Nat.eq_of_beq_eq_true h2)
   ·exact h2 (by simp [dstL, h3])⟩

theorem mem_addN {i j : Nat} {l : List Nat} (h : i ∈ addN j l) : i = j ∨ i ∈ l := by
 unfold addN at h
 split at h
 ·exact .inr h
 ·simpa using h
theorem mem_foldN {i : Nat} : ∀ (a l : List Nat), i ∈ a.foldr addN l → i ∈ a ∨ i ∈ l
 | [], l, h => .inr h
 | j :: a, l, h => by
  rcases mem_addN h with h1 | h1
  ·exact .inl (by simp [h1])
  ·rcases mem_foldN a l h1 with h2 | h2
   ·exact .inl (List.mem_cons_of_mem _ h2)
   ·exact .inr h2
theorem mem_befN {i : Nat} {acc : List (List Nat)} : ∀ (b : List Nat), i ∈ b.foldr (fun j l => (j :: acc.getD j []).foldr addN l) [] → ∃ j ∈ b, i = j ∨ i ∈ acc.getD j []
 | [], h => by cases h
 | j :: b, h => by
  simp only [List.foldr_cons] at h
  rcases mem_addN h with h1 | h1
  ·exact ⟨j, by simp, .inl h1⟩
  ·rcases mem_foldN _ _ h1 with h2 | h2
   ·exact ⟨j, by simp, .inr h2⟩
   ·obtain ⟨k, hk, h3⟩ := mem_befN b h2
    exact ⟨k, List.mem_cons_of_mem _ hk, h3⟩
theorem befGo_len : ∀ (l : List Oper) (acc : List (List Nat)), (befGo l acc).length = acc.length + l.length
 | [], acc => by simp [befGo]
 | o :: r, acc => by simp only [befGo]; rw [befGo_len r]; simp; omega
theorem befGo_old : ∀ (l : List Oper) (acc : List (List Nat)) (i : Nat), i < acc.length → (befGo l acc).getD i [] = acc.getD i []
 | [], acc, i, _ => rfl
 | o :: r, acc, i, h => by
  simp only [befGo]
  rw [befGo_old r _ i (by simp; omega), getD_app, if_pos h]
theorem befGo_new : ∀ (l : List Oper) (acc : List (List Nat)) (k : Nat) (o : Oper), l[k]? = some o → ∀ i, i ∈ (befGo l acc).getD (acc.length + k) [] → ∃ j ∈ bef1 o, i = j ∨ i ∈ (befGo l acc).getD j []
 | [], _, _, _, h, _, _ => by simp at h
 | o' :: r, acc, 0, o, h, i, hi => by
  simp only [List.getElem?_cons_zero, Option.some.injEq] at h
  subst h
  simp only [befGo] at hi ⊢
  rw [Nat.add_zero, befGo_old r _ acc.length (by simp), getD_app, if_neg (by omega)] at hi
  simp only [Nat.sub_self, List.getD_cons_zero] at hi
  obtain ⟨j, hj, h2⟩ := mem_befN _ hi
  refine ⟨j, hj, h2.imp id fun h3 => ?_⟩
  by_cases hjl : j < acc.length
  ·rw [befGo_old r _ j (by simp; omega), getD_app, if_pos hjl]; exact h3
  ·rw [List.getD_eq_getElem?_getD, List.getElem?_eq_none (by omega)] at h3; cases h3
 | o' :: r, acc, k + 1, o, h, i, hi => by
  simp only [befGo] at hi ⊢
  refine befGo_new r _ k o (by simpa using h) i ?_
  have : (acc ++ [(bef1 o').foldr (fun j l => (j :: acc.getD j []).foldr addN l) []]).length + k = acc.length + (k + 1) := by simp; omega
  rw [this]; exact hi

/-- what must come before is listed, where all listed things have what must come before them listed -/
theorem bef_closed {os : List Oper} (hS : DrawS os) {L : Nat → Prop} (hL : ∀ (i : Nat) o, os[i]? = some o → L i → ∀ j ∈ bef1 o, L j) :
  ∀ (n m : Nat) (o : Oper), m < n → os[m]? = some o → (∀ j ∈ bef1 o, L j) → ∀ i ∈ (befGo os []).getD m [], L i
 | 0, _, _, h, _, _, _, _ => absurd h (Nat.not_lt_zero _)
 | n + 1, m, o, hm, ho, hj, i, hi => by
  obtain ⟨j, h1, h2⟩ := befGo_new os [] m o ho i (by simpa using hi)
  have hjm := hS.back m o ho j h1
  rcases h2 with rfl | h2
  ·exact hj _ h1
  ·have hmo := (List.getElem?_eq_some_iff.1 ho).1
   have hoj : os[j]? = some os[j] := by simp [show j < os.length by omega]
   exact bef_closed hS hL n j _ (by omega) hoj (hL j _ hoj (hj j h1)) i h2

/-- an operation that was run ahead: run again at any state that has the same in its slots, it yields the same -/
def REA (T : Tab) (Φ : Nat → Option Contract) (os : List Oper) (f : Nat × List Nat) (st : St) : Prop :=
 ∃ o av, os[f.1]? = some o ∧ flOp o = true ∧ (∀ d, o.dst = some d → st.get d = av ∧ d ∈ f.2) ∧
  ∀ st', Agr f.2 st st' → noTup st' o = true ∧ ∃ st3, GEq st' st3 ∧ ∀ {R' : Type} (K' : AV → St → Option R'), gstep T Φ os o st' K' = K' av st3

theorem REA.keep {os : List Oper} {f : Nat × List Nat} {st1 : St} (h : REA T Φ os f st) (ha : Agr f.2 st st1) : REA T Φ os f st1 := by
 obtain ⟨o, av, h1, h2, h3, h4⟩ := h
 exact ⟨o, av, h1, h2, fun d hd => ⟨by rw [ha d (h3 d hd).2]; exact (h3 d hd).1, (h3 d hd).2⟩, fun st' h' => h4 st' fun s hs => by rw [h' s hs, ha s hs]⟩

theorem apartL_ok {a b : List Nat} (h : apartL a b = true) {s : Nat} (hs : s ∈ b) : s ∉ a := fun ha => by
 have := List.all_eq_true.1 h s ha
 rw [Bool.not_eq_true', mem_false] at this
 exact this hs
theorem put_agr {l : List Nat} {st2 : St} {o : Oper} {av : AV} {c : Nat} (ha : Agr l st st2) (hd : apartL (dstL o) l = true) : Agr l st ((st2.put o.dst av).tick c) := fun s hs => by
 have hn := apartL_ok hd hs
 have : ((st2.put o.dst av).tick c).get s = (st2.put o.dst av).get s := rfl
 rw [this]
 cases hdst : o.dst with
 | none => exact ha s hs
 | some d =>
  show (st2.set d av).get s = _
  rw [get_set, if_neg (fun h => hn (by simp [dstL, hdst, h]))]
  exact ha s hs

theorem rea_new {os : List Oper} {i : Nat} {c : Nat} (ho : os[i]? = some o) (hf : flOp o = true) (hm : noTup st o = true) (hd : apartL (dstL o) (guardL os o ++ footO st o) = true) (h : gstep T Φ os o st K = some r) :
  ∃ av st2, K av st2 = some r ∧ GEq st st2 ∧ REA T Φ os (i, dstL o ++ (guardL os o ++ footO st o)) ((st2.put o.dst av).tick c) ∧
   ∀ {R' : Type} (K' : AV → St → Option R'), ∃ st3, GEq st st3 ∧ gstep T Φ os o st K' = K' av st3 := by
 obtain ⟨av, st2, hk, h2, e⟩ := gfl hf hm h
 refine ⟨av, st2, hk, h2, ⟨o, av, ho, hf, fun d hd' => ⟨?_, List.mem_append_left _ (by simp [dstL, hd'])⟩, fun st' ha => ?_⟩, fun K' => ?_⟩
 ·show (st2.put o.dst av).get d = av
  rw [hd']
  show (st2.set d av).get d = av
  rw [get_set, if_pos rfl]
 ·have h1 : Agr (guardL os o ++ footO st o) st st' := fun s hs => by
   rw [ha s (List.mem_append_right _ hs)]
   exact put_agr h2.agr hd s hs
  obtain ⟨st3, h3, e3⟩ := e st' h1
  refine ⟨?_, st3, h3, e3⟩
  rw [noTup_agr (h1.mem fun s hs => List.mem_append_right _ hs)]; exact hm
 ·obtain ⟨st3, h3, e3⟩ := e st (fun _ _ => rfl)
  exact ⟨st3, h3, e3 K'⟩

/-- the slots of what was run ahead -/
def Ahead (os : List Oper) (C : List Nat) (Ls : Array Bool) (s : Nat) : Prop := ∃ i o, i ∈ C ∧ Ls.getD i false = false ∧ os[i]? = some o ∧ o.dst = some s

/-- a schedule (Ls: what it has run; a, w: where it stands) and our own run (C, acc, st; b: the frame with what was run ahead) -/
structure Sim (T : Tab) (Φ : Nat → Option Contract) (w0 : World) (mu : Mu) (N : Nat) (os : List Oper) (C : List Nat) (acc : List (Nat × List Nat)) (st : St) (Ls : Array Bool) (a b : Act) (w : World) : Prop where
 csz : Ls.size = os.length
 cin : ∀ i, Ls.getD i false = true → i ∈ C
 pend : ∀ i ∈ C, Ls.getD i false = true ∨ ∃ F, (i, F) ∈ acc
 rea : ∀ f ∈ acc, Ls.getD f.1 false = false → REA T Φ os f st
 ccl : ∀ (i : Nat) o, os[i]? = some o → i ∈ C → ∀ j ∈ bef1 o, j ∈ C
 lcl : ∀ (i : Nat) o, os[i]? = some o → Ls.getD i false = true → ∀ j ∈ bef1 o, Ls.getD j false = true
 virt : Virt (Ahead os C Ls) a b
 at' : At w0 mu N st b w

theorem mem_readyL {os : List Oper} {C : List Nat} {i : Nat} : i ∈ readyL os C ↔ i ∉ C ∧ ∃ o, os[i]? = some o ∧ ∀ j ∈ bef1 o, j ∈ C := by
 unfold readyL
 rw [List.mem_filter, List.mem_range]
 cases ho : os[i]? with
 | none => simp
 | some o =>
  have hi := (List.getElem?_eq_some_iff.1 ho).1
  simp only [hi, true_and, Bool.and_eq_true, Bool.not_eq_true', mem_false, List.all_eq_true, mem_iff, Option.some.injEq, exists_eq_left']

theorem sim_put {st2 : St} {av : AV} {v : Value} {b : Act} (hfar : ∀ s, mu.far s ↔ lentC.1 ≤ s) {N : Nat} (hN : N ≤ lentC.1) (hA : At w0 mu N st b w) (hg : GEq st st2) (hI : Inv w0 mu st.get (Vals b) (· < st.c) w g) (hd : DstOK mu o b) (hv : VR w g st.get av v) (hst : stampOK (· < st.c) av) (how : isOw av = false) (hn : ∀ d, o.dst = some d → mu.pin d = none) :
  At w0 mu N ((st2.put o.dst av).tick st.c) (b.put o.dst v) w := by
 obtain ⟨_, hs, hdf, hpin⟩ := hA
 have hp' := pin_put (a' := b.put o.dst v) hpin put_same hn
 have hU : ∀ n, n < st.c → n < st.c + 2 := fun n h => by omega
 cases hdst : o.dst with
 | none => exact ⟨⟨g, (Inv_congr hI (fun s => hg.2 s) (fun _ => rfl)).monoU hU⟩, hs, hdf, hpin⟩
 | some d =>
  obtain ⟨h1, h2⟩ := hd d hdst
  refine ⟨⟨g, (Inv_congr (put_free hI h1 h2 hv hst how) (fun s => ?_) (fun _ => rfl)).monoU hU⟩, by simp [Act.put, hs], hdf, by rw [hdst] at hp'; exact hp'⟩
  show (st2.set d av).get s = (st.set d av).get s
  rw [get_set, get_set, hg.2 s]

theorem sim_fl {os : List Oper} {C : List Nat} {acc : List (Nat × List Nat)} {Ls : Array Bool} {a b : Act} {N j : Nat} (hE : EnvOK P T Φ) (hfar : ∀ s, mu.far s ↔ lentC.1 ≤ s) (hN : N ≤ lentC.1) (hall : ∀ o ∈ os, ∀ d, o.dst = some d → d < N ∧ mu.pin d = none)
  (hS : Sim T Φ w0 mu N os C acc st Ls a b w) (hr : j ∈ readyL os C) (ho : os[j]? = some o) (hf : flOp o = true) (hm : noTup st o = true) (hd : apartL (dstL o) (guardL os o ++ footO st o) = true) (hac : (acc.all fun f => apartL (dstL o) f.2) = true) (h : gstep T Φ os o st K = some r) :
  ∃ av st2 v, K av st2 = some r ∧ Sim T Φ w0 mu N os (j :: C) ((j, dstL o ++ (guardL os o ++ footO st o)) :: acc) ((st2.put o.dst av).tick st.c) Ls a (b.put o.dst v) w := by
 obtain ⟨av, st2, hk, h2, hrea, e⟩ := rea_new (c := st.c) ho hf hm hd h
 have hom : o ∈ os := List.mem_of_getElem? ho
 have hA := hS.at'
 obtain ⟨⟨g, hI⟩, hs, hdf, hpin⟩ := hS.at'
 have hdst : DstOK mu o b := dst_ok hfar hN hs fun d hd => (hall o hom d hd).1
 obtain ⟨st3, _, e3⟩ := e (R' := AV) fun v _ => some v
 obtain ⟨av', st4, v, hk', _, _, hv, hst, how⟩ := gfl_sound hE hI hdst (fun o ho d hd => hs ▸ (hall o ho d hd).1) hf hm e3
 cases hk'
 obtain ⟨hjC, o', ho', hpre⟩ := mem_readyL.1 hr
 rw [ho] at ho'
 cases ho'
 have hjL : Ls.getD j false = false := by
  cases hx : Ls.getD j false with
  | false => rfl
  | true => exact absurd (hS.cin j hx) hjC
 refine ⟨av, st2, v, hk, hS.csz, fun i hi => List.mem_cons_of_mem _ (hS.cin i hi), fun i hi => ?_, fun f hf' hfl => ?_, fun i oi hoi hi k hk => ?_, hS.lcl, ?_, sim_put hfar hN hA h2 hI hdst hv hst how fun d hd => (hall o hom d hd).2⟩
 ·rcases List.mem_cons.1 hi with rfl | hi
  ·exact .inr ⟨_, List.mem_cons_self ..⟩
  ·exact (hS.pend i hi).imp id fun ⟨F, hF⟩ => ⟨F, List.mem_cons_of_mem _ hF⟩
 ·rcases List.mem_cons.1 hf' with rfl | hf'
  ·exact hrea
  ·exact (hS.rea f hf' hfl).keep (put_agr h2.agr (List.all_eq_true.1 hac f hf'))
 ·refine List.mem_cons_of_mem _ ?_
  rcases List.mem_cons.1 hi with rfl | hi
  ·rw [ho] at hoi; cases hoi; exact hpre k hk
  ·exact hS.ccl i oi hoi hi k hk
 ·have hv := hS.virt
  have hsub : ∀ s, Ahead os C Ls s → Ahead os (j :: C) Ls s := fun s ⟨i, oi, h1, h2, h3, h4⟩ => ⟨i, oi, List.mem_cons_of_mem _ h1, h2, h3, h4⟩
  cases hdo : o.dst with
  | none => exact ⟨hv.defers, hv.size, fun s hs => hv.same s fun h => hs (hsub s h)⟩
  | some d =>
   refine ⟨hv.defers, by simp [Act.put, hv.size], fun s hs => ?_⟩
   have hne : d ≠ s := fun h => hs ⟨j, o, List.mem_cons_self .., hjL, ho, by rw [hdo, h]⟩
   simp only [Act.put, Array.getElem?_setIfInBounds_ne hne]
   exact hv.same s fun h => hs (hsub s h)

/-- our own run goes on till nothing that leaves memory alone is ready -/
theorem advance {os : List Oper} {Ls : Array Bool} {a : Act} {N : Nat} {K : St → Option R} {bs : List (List Nat)} (hE : EnvOK P T Φ) (hfar : ∀ s, mu.far s ↔ lentC.1 ≤ s) (hN : N ≤ lentC.1) (hall : ∀ o ∈ os, ∀ d, o.dst = some d → d < N ∧ mu.pin d = none) :
  ∀ (n : Nat) (C : List Nat) (acc : List (Nat × List Nat)) (st : St) (b : Act), drawOps T Φ os bs K n C acc st = some r → Sim T Φ w0 mu N os C acc st Ls a b w →
   ∃ n' C' acc' st' b', drawOps T Φ os bs K (n' + 1) C' acc' st' = some r ∧ Sim T Φ w0 mu N os C' acc' st' Ls a b' w ∧ (readyL os C').find? (isFl st' os) = none
 | 0, _, _, _, _, h, _ => by cases h
 | n + 1, C, acc, st, b, h, hS => by
  cases hf : (readyL os C).find? (isFl st os) with
  | none => exact ⟨n, C, acc, st, b, h, hS, hf⟩
  | some j =>
   have hj : j ∈ readyL os C := List.mem_of_find?_eq_some hf
   have hfl := List.find?_some hf
   unfold drawOps at h
   cases hr : readyL os C with
   | nil => rw [hr] at hj; cases hj
   | cons i rs =>
    rw [hr] at h hf
    simp only [hf] at h
    split at h
    ·rename_i o ho
     obtain ⟨h1, _⟩ := guardB_fl h
     have hg : (noTup st o && apartL (dstL o) (guardL os o ++ footO st o) && acc.all fun f => apartL (dstL o) f.2) = true := by
      unfold guardB at h
      split at h
      ·assumption
      ·cases h
     simp only [Bool.and_eq_true] at hg
     simp only [isFl, ho, Bool.and_eq_true] at hfl
     have hfl := hfl.1
     obtain ⟨av, st2, v, hk, hS'⟩ := sim_fl hE hfar hN hall hS hj ho hfl hg.1.1 hg.1.2 hg.2 h1
     rw [AV.force_eq] at hk
     exact advance hE hfar hN hall n _ _ _ _ hk hS'
    ·cases h

theorem opd_geq {st st' : St} (h : GEq st st') (x : Operand) (k : AV → Option R) : opd st' x k = opd st x k := by
 have : st'.get = st.get := funext h.2
 unfold opd
 simp only [this]
theorem freeO_geq {st st' : St} (h : GEq st st') (x : Operand) : freeO st' x = freeO st x := by
 unfold freeO; rw [opd_geq h]
theorem opds_geq {st st' : St} (h : GEq st st') : ∀ (xs : List Operand) (k : List AV → Option R), opds st' xs k = opds st xs k
 | [], _ => rfl
 | x :: r, k => by
  simp only [opds]
  rw [opd_geq h]
  exact congrArg _ (funext fun a => opds_geq h r _)
theorem whole_geq {st st' : St} (h : GEq st st') (d : Option Nat) (a : AV) : whole st' d a = whole st d a := by
 have : st'.get = st.get := funext h.2
 unfold whole
 rw [this]
theorem wholes_geq {st st' : St} (h : GEq st st') (d : Option Nat) (avs : List AV) : ∀ (l : List Nat), wholes st' d avs l = wholes st d avs l
 | [] => rfl
 | p :: r => by
  simp only [wholes]
  rw [whole_geq h, wholes_geq h d avs r]
theorem wsM_geq {st st' : St} (h : GEq st st') (o : Oper) : wsM T Φ st' o = wsM T Φ st o := by
 unfold wsM
 split
 ·rfl
 ·rfl
 ·rfl
 ·rfl
 ·simp only [opd_geq h]
 ·rename_i d _ _
  have : GEq (st.set d .dead) (st'.set d .dead) := ⟨h.1, fun s => by rw [get_set, get_set, h.2]⟩
  simp only [opd_geq this]
 ·simp only [freeO_geq h, opd_geq h]
 ·simp only [freeO_geq h, opd_geq h]
 ·simp only [freeO_geq h]
 ·simp only [freeO_geq h]
 ·simp only [freeO_geq h]
 ·split
  ·simp only [opd_geq h, opds_geq h, wholes_geq h]
  ·simp only [opd_geq h]
  ·simp only [opd_geq h]
  ·rfl
 ·rfl

theorem gws_congr {os : List Oper} {ws : List Nat} (hw : wsM T Φ st o = some ws) {K K1 : AV → St → Option R} (hK : KEq st ws K K1) : gstep T Φ os o st K = gstep T Φ os o st K1 := by
 have key : ∀ st', GEq st st' → KEq st' ws K K1 := fun st' h v s hs => hK v s fun u hu => by rw [hs u hu, h.2 u]
 unfold gstep
 split
 ·exact ws_congr hw hK
 ·split
  ·rfl
  ·split
   ·rename_i m c hq
    have hge := GEq.set hq
    have h1 : step T Φ o (st.set _ (.v .bool m c)) K = step T Φ o (st.set _ (.v .bool m c)) K1 := ws_congr (by rw [wsM_geq hge]; exact hw) (key _ hge)
    cases c
    ·simp only
     split
     ·exact h1
     ·exact hK _ _ fun u _ => hge.2 u
    ·simp only
     split
     ·exact h1
     ·exact hK _ _ fun u _ => hge.2 u
   ·exact hK.same _
   ·rfl

theorem bef1_mem {o : Oper} {L : Nat → Prop} : (∀ k ∈ bef1 o, L k) ↔ ∀ e ∈ o.after, Region.binds .any e = true → L e.on := by
 unfold bef1
 simp only [List.mem_map, List.mem_filter, forall_exists_index, and_imp]
 constructor
 ·intro h e he hb; exact h e.on e (by simpa using he) hb rfl
 ·rintro h k e he hb rfl; exact h e (by simpa using he) hb

theorem ready_iff {os : List Oper} {Ls : Array Bool} (hsz : Ls.size = os.length) {j : Nat} : j ∈ Region.ready .any os.toArray Ls ↔ Ls.getD j false = false ∧ ∃ o, os[j]? = some o ∧ ∀ k ∈ bef1 o, Ls.getD k false = true := by
 rw [mem_ready]
 simp only [List.getElem?_toArray, bef1_mem (L := fun k => Ls.getD k false = true)]
 constructor
 ·rintro ⟨h0, o, ho, h⟩
  have hj : j < Ls.size := by rw [hsz]; exact (List.getElem?_eq_some_iff.1 ho).1
  exact ⟨by simpa [Array.getD_eq_getD_getElem?, hj] using h0, o, ho, h⟩
 ·rintro ⟨h0, o, ho, h⟩
  have hj : j < Ls.size := by rw [hsz]; exact (List.getElem?_eq_some_iff.1 ho).1
  exact ⟨by simpa [Array.getD_eq_getD_getElem?, hj] using h0, o, ho, h⟩

theorem ready_nil {os : List Oper} {Ls : Array Bool} (hD : DrawS os) (hsz : Ls.size = os.length) (h : Region.ready .any os.toArray Ls = []) : ∀ n k, k < n → k < os.length → Ls.getD k false = true
 | 0, _, h, _ => absurd h (Nat.not_lt_zero _)
 | n + 1, k, hk, hl => by
  cases hx : Ls.getD k false with
  | true => rfl
  | false =>
   have hok : os[k]? = some os[k] := by simp [hl]
   have : k ∈ Region.ready .any os.toArray Ls := (ready_iff hsz).2 ⟨hx, _, hok, fun j hj => by
    have := hD.back k _ hok j hj
    exact ready_nil hD hsz h n j (by omega) (by omega)⟩
   rw [h] at this; cases this

theorem Sim.ahead_fl {os : List Oper} {C : List Nat} {acc : List (Nat × List Nat)} {Ls : Array Bool} {a b : Act} {N k : Nat} {ok : Oper} (hS : Sim T Φ w0 mu N os C acc st Ls a b w) (hk : k ∈ C) (hl : Ls.getD k false = false) (ho : os[k]? = some ok) : flOp ok = true := by
 rcases hS.pend k hk with h | ⟨F, hF⟩
 ·rw [hl] at h; cases h
 ·obtain ⟨o, av, h1, h2, _⟩ := hS.rea _ hF hl
  rw [ho] at h1; cases h1; exact h2

theorem Sim.bef {os : List Oper} {C : List Nat} {acc : List (Nat × List Nat)} {Ls : Array Bool} {a b : Act} {N i : Nat} (hD : DrawS os) (hS : Sim T Φ w0 mu N os C acc st Ls a b w) (ho : os[i]? = some o) (hpre : ∀ k ∈ bef1 o, Ls.getD k false = true) : ∀ k ∈ (befGo os []).getD i [], Ls.getD k false = true :=
 bef_closed hD (L := fun k => Ls.getD k false = true) (fun i o ho hi j hj => hS.lcl i o ho hi j hj) (i + 1) i o (Nat.lt_succ_self i) ho hpre

theorem Sim.clear {os : List Oper} {C : List Nat} {acc : List (Nat × List Nat)} {Ls : Array Bool} {a b : Act} {N i : Nat} (hD : DrawS os) (hS : Sim T Φ w0 mu N os C acc st Ls a b w) (ho : os[i]? = some o) (hpre : ∀ k ∈ bef1 o, Ls.getD k false = true) : ∀ t ∈ o.looksAt os.toArray, ¬ Ahead os C Ls t := by
 rintro t ht ⟨k, ok, h1, h2, h3, h4⟩
 rcases (hD.apart i k o ok t ho h3 (hS.ahead_fl h1 h2 h3) h4).1 with h | h
 ·have := hS.bef hD ho hpre k h
  rw [h2] at this; cases this
 ·exact h ht

theorem getD_set (Ls : Array Bool) (i : Nat) (hi : i < Ls.size) (k : Nat) : (Ls.setIfInBounds i true).getD k false = if k = i then true else Ls.getD k false := by
 simp only [Array.getD_eq_getD_getElem?]
 by_cases h : k = i
 ·subst h; simp [hi]
 ·rw [Array.getElem?_setIfInBounds_ne (Ne.symm h)]; simp [h]
theorem getD_set_mono {Ls : Array Bool} {i : Nat} {k : Nat} (h : (Ls.setIfInBounds i true).getD k false = false) : Ls.getD k false = false := by
 cases hx : Ls.getD k false with
 | false => rfl
 | true => rw [getD_set_true hx] at h; cases h

theorem lcl_set {os : List Oper} {Ls : Array Bool} {i : Nat} (hi : i < Ls.size) (h : ∀ (i : Nat) o, os[i]? = some o → Ls.getD i false = true → ∀ j ∈ bef1 o, Ls.getD j false = true) (ho : os[i]? = some o) (hpre : ∀ k ∈ bef1 o, Ls.getD k false = true) :
  ∀ (k : Nat) o, os[k]? = some o → (Ls.setIfInBounds i true).getD k false = true → ∀ j ∈ bef1 o, (Ls.setIfInBounds i true).getD j false = true := by
 intro k ok hok hk j hj
 rw [getD_set _ _ hi] at hk
 refine getD_set_true ?_
 split at hk
 ·rename_i hki; subst hki; rw [ho] at hok; cases hok; exact hpre j hj
 ·exact h k ok hok hk j hj

/-- what was run ahead is now run -/
theorem sim_late {os : List Oper} {C : List Nat} {acc : List (Nat × List Nat)} {Ls : Array Bool} {a b : Act} {N i : Nat} (hE : EnvOK P T Φ) (hfar : ∀ s, mu.far s ↔ lentC.1 ≤ s) (hN : N ≤ lentC.1) (hall : ∀ o ∈ os, ∀ d, o.dst = some d → d < N ∧ mu.pin d = none) (hD : DrawS os)
  (hS : Sim T Φ w0 mu N os C acc st Ls a b w) (hi : i ∈ C) (hl : Ls.getD i false = false) (ho : os[i]? = some o) (hpre : ∀ k ∈ bef1 o, Ls.getD k false = true) :
  ∃ v, (if Region.wanted o (yielded os.toArray a.tmps) = true then (execOp a.eval o).run P w = .ok (.value v) w else v = undef) ∧ Sim T Φ w0 mu N os C acc st (Ls.setIfInBounds i true) (a.put o.dst v) (b.put o.dst v) w := by
 have hclr := hS.clear hD ho hpre
 have hil : i < Ls.size := by rw [hS.csz]; exact (List.getElem?_eq_some_iff.1 ho).1
 rcases hS.pend i hi with h | ⟨F, hF⟩
 ·rw [hl] at h; cases h
 ·obtain ⟨o', av, h1, hf, hav, e⟩ := hS.rea _ hF hl
  rw [ho] at h1; cases h1
  obtain ⟨hm, st3, h3, e3⟩ := e st (fun _ _ => rfl)
  have e3 := e3 (R' := AV) fun v _ => some v
  obtain ⟨⟨g, hI⟩, hs, hdf, hpin⟩ := hS.at'
  have hom : o ∈ os := List.mem_of_getElem? ho
  have hdst : DstOK mu o b := dst_ok hfar hN hs fun d hd => (hall o hom d hd).1
  obtain ⟨av', st4, v, hk', _, hrun, hv, hst, how⟩ := gfl_sound hE hI hdst (fun o ho d hd => hs ▸ (hall o ho d hd).1) hf hm e3
  cases hk'
  rw [hS.virt.wanted hclr, hS.virt.exec (hD.sel i o ho) hclr] at hrun
  refine ⟨v, hrun, by simp [hS.csz], fun k hk => ?_, fun k hk => ?_, fun f hf hfl => hS.rea f hf (getD_set_mono hfl), hS.ccl, lcl_set hil hS.lcl ho hpre, ?_, ?_⟩
  ·rw [getD_set _ _ hil] at hk
   split at hk
   ·rename_i hki; subst hki; exact hi
   ·exact hS.cin k hk
  ·exact (hS.pend k hk).imp getD_set_true id
  ·have hv := hS.virt.put o.dst v
   refine ⟨hv.defers, hv.size, fun s hns => ?_⟩
   by_cases hsd : o.dst = some s
   ·have hsz := hS.virt.size
    simp only [Act.put, hsd, Array.getElem?_setIfInBounds_self, hsz]
   ·refine hv.same s fun ⟨k, ok, h1, h2, h3, h4⟩ => hns ⟨k, ok, h1, ?_, h3, h4⟩
    rw [getD_set _ _ hil, if_neg]
    ·exact h2
    ·rintro rfl
     rw [ho] at h3; cases h3; exact hsd h4
  ·have hp' := pin_put (a' := b.put o.dst v) hpin put_same fun d hd => (hall o hom d hd).2
   cases hdo : o.dst with
   | none => exact ⟨⟨g, hI⟩, hs, hdf, hpin⟩
   | some d =>
    obtain ⟨h5, h6⟩ := hdst d hdo
    have hav := (hav d hdo).1
    refine ⟨⟨g, Inv_congr (put_free hI h5 h6 hv hst how) (fun s => ?_) (fun _ => rfl)⟩, by simp [Act.put, hs], hdf, by rw [hdo] at hp'; exact hp'⟩
    exact ((GEq.set hav).2 s).symm

theorem sameP_ok {a b : AV} (h : sameP a b = true) : a = b := by
 unfold sameP at h
 split at h
 ·simp only [Bool.and_eq_true] at h
  rw [Nat.eq_of_beq_eq_true h.1, Nat.eq_of_beq_eq_true h.2.1, eqP_ok h.2.2]
 ·simp only [Bool.and_eq_true] at h
  rw [Nat.eq_of_beq_eq_true h.1, Nat.eq_of_beq_eq_true h.2.1, eqP_ok h.2.2]
 ·cases h
/-- run again, what was run ahead finds the same -/
theorem reAll_ok {os : List Oper} {S : St} {K0 : Option R} : ∀ {l : List (Nat × List Nat)}, reAll T Φ os S K0 l = some r → K0 = some r ∧ ∀ f ∈ l, REA T Φ os f S
 | [], h => ⟨h, fun _ h => by cases h⟩
 | f :: l, h => by
  unfold reAll at h
  split at h
  ·rename_i fo hfo
   split at h
   ·rename_i d hd
    obtain ⟨hc, h⟩ := guardK_some h
    simp only [Bool.and_eq_true] at hc
    obtain ⟨h1, h2, h3, h4⟩ := hc
    obtain ⟨av, st2, hk, h5, e⟩ := gfl h1 h2 h
    rw [AV.force_eq] at hk
    obtain ⟨hs, hk⟩ := guardB_some hk
    obtain ⟨h6, h7⟩ := reAll_ok hk
    refine ⟨h6, fun f' hf' => ?_⟩
    rcases List.mem_cons.1 hf' with rfl | hf'
    ·refine ⟨fo, av, hfo, h1, fun d' hd' => ?_, fun st'' ha => ?_⟩
     ·rw [hd] at hd'; cases hd'
      exact ⟨(sameP_ok hs).symm, mem_iff.1 h3⟩
     ·have h8 : Agr (guardL os fo ++ footO S fo) S st'' := fun s hs => ha s (mem_iff.1 (List.all_eq_true.1 h4 s hs))
      obtain ⟨st3, h9, e3⟩ := e st'' h8
      refine ⟨?_, st3, h9, e3⟩
      rw [noTup_agr (h8.mem fun s hs => List.mem_append_right _ hs)]; exact h2
    ·exact h7 f' hf'
   ·cases h
  ·cases h

/-- an operation on memory is run, by the schedule and by us -/
theorem sim_mem {os : List Oper} {C : List Nat} {acc : List (Nat × List Nat)} {Ls : Array Bool} {a b : Act} {N i : Nat} (hE : EnvOK P T Φ) (hfar : ∀ s, mu.far s ↔ lentC.1 ≤ s) (hN : N ≤ lentC.1) (hall : ∀ o ∈ os, ∀ d, o.dst = some d → d < N ∧ mu.pin d = none) (hD : DrawS os)
  (hS : Sim T Φ w0 mu N os C acc st Ls a b w) (hi : i ∉ C) (ho : os[i]? = some o) (hpre : ∀ k ∈ bef1 o, Ls.getD k false = true)
  (h : gstep T Φ os o st (fun v st' => v.force fun v => reAll T Φ os ((st'.put o.dst v).tick st.c) (K v st') (lateL T Φ (befGo os []) i st o acc)) = some r) :
  ∃ av st', K av st' = some r ∧ ∀ next Q, (∀ a' b' w', Sim T Φ w0 mu N os (i :: C) acc ((st'.put o.dst av).tick st.c) (Ls.setIfInBounds i true) a' b' w' → next a' w') →
   if Region.wanted o (yielded os.toArray a.tmps) = true then o.wp P a w next Q else next (a.put o.dst undef) w := by
 have hclr := hS.clear hD ho hpre
 have hom : o ∈ os := List.mem_of_getElem? ho
 have hil : i < Ls.size := by rw [hS.csz]; exact (List.getElem?_eq_some_iff.1 ho).1
 obtain ⟨⟨g, hI⟩, hs, hdf, hpin⟩ := hS.at'
 have hdst : DstOK mu o b := dst_ok hfar hN hs fun d hd => (hall o hom d hd).1
 have hlL : Ls.getD i false = false := by
  cases hx : Ls.getD i false with
  | false => rfl
  | true => exact absurd (hS.cin i hx) hi
 -- what was run ahead is not touched, or finds the same again
 have keep : ∃ av st', K av st' = some r ∧ (∀ f ∈ acc, Ls.getD f.1 false = false → REA T Φ os f ((st'.put o.dst av).tick st.c)) ∧
   ∀ next Q, NextOK w0 mu o b (Nw (· < st.c) st.c) st' av next → if Region.wanted o (yielded os.toArray b.tmps) then o.wp P b w next Q else next (b.put o.dst undef) w := by
  have one : ∀ f ∈ acc, Ls.getD f.1 false = false → (∃ ws, wsM T Φ st o = some ws ∧ apartL (dstL o ++ ws) f.2 = true) ∨ f ∈ lateL T Φ (befGo os []) i st o acc := by
   intro f hf hfl
   have hnb : f.1 ∉ (befGo os []).getD i [] := fun h => by
    have := hS.bef hD ho hpre _ h
    rw [hfl] at this; cases this
   cases hq : befOK T Φ (befGo os []) i st o f with
   | true =>
    unfold befOK at hq
    rw [Bool.or_eq_true, mem_iff] at hq
    rcases hq with h | h
    ·exact absurd h hnb
    ·cases hw : wsM T Φ st o with
     | none => rw [hw] at h; cases h
     | some ws => rw [hw] at h; exact .inl ⟨ws, rfl, h⟩
   | false => exact .inr (List.mem_filter.2 ⟨hf, by rw [hq]; rfl⟩)
  by_cases hpd : ∃ ws, wsM T Φ st o = some ws
  ·obtain ⟨ws, hws⟩ := hpd
   let K2 : AV → St → Option _ := fun v st' => v.force fun v => reAll T Φ os ((st'.put o.dst v).tick st.c) (K v st') (lateL T Φ (befGo os []) i st o acc)
   let K1 : AV → St → Option _ := fun v s => @ite _ (∀ u, u ∉ ws → s.get u = st.get u) (Classical.propDecidable _) (K2 v s) none
   have hK : KEq st ws K2 K1 := fun v s hs => by
    show K2 v s = @ite _ _ (Classical.propDecidable _) _ _
    rw [if_pos hs]
   have h : gstep T Φ os o st K2 = some r := h
   rw [gws_congr hws hK] at h
   obtain ⟨av, st', hk, hn⟩ := gstep_sound hE hfar (new_lt st.c) hI hdst (fun o ho d hd => hs ▸ (hall o ho d hd).1) h
   change @ite _ _ (Classical.propDecidable _) _ _ = _ at hk
   split at hk
   ·rename_i hag
    have hk : (av.force fun v => reAll T Φ os ((st'.put o.dst v).tick st.c) (K v st') (lateL T Φ (befGo os []) i st o acc)) = some r := hk
    rw [AV.force_eq] at hk
    obtain ⟨hk, hre⟩ := reAll_ok hk
    have hsame : ∀ f : Nat × List Nat, apartL (dstL o) f.2 = true → ∀ s ∈ f.2, s ∉ ws → ((st'.put o.dst av).tick st.c).get s = st.get s := fun f hap s hs h2 => by
     have h1 : s ∉ dstL o := apartL_ok hap hs
     show (st'.put o.dst av).get s = _
     rw [← hag s h2]
     cases hdo : o.dst with
     | none => rfl
     | some d =>
      show (st'.set d av).get s = _
      rw [get_set, if_neg]
      rintro rfl
      exact h1 (by simp [dstL, hdo])
    refine ⟨av, st', hk, fun f hf hfl => ?_, hn⟩
    rcases one f hf hfl with ⟨ws', hw', hap⟩ | hlate
    ·rw [hws] at hw'; cases hw'
     have hno : ∀ s ∈ f.2, s ∉ dstL o ++ ws := fun s hs => apartL_ok hap hs
     exact (hS.rea f hf hfl).keep fun s hs => hsame f (List.all_eq_true.2 fun x hx => List.all_eq_true.1 hap x (List.mem_append_left _ hx)) s hs fun h => hno s hs (List.mem_append_right _ h)
    ·exact hre f hlate
   ·cases hk
  ·obtain ⟨av, st', hk, hn⟩ := gstep_sound hE hfar (new_lt st.c) hI hdst (fun o ho d hd => hs ▸ (hall o ho d hd).1) h
   simp only [AV.force_eq] at hk
   obtain ⟨hk, hre⟩ := reAll_ok hk
   refine ⟨av, st', hk, fun f hf hfl => ?_, hn⟩
   rcases one f hf hfl with ⟨ws', hw', _⟩ | hlate
   ·exact absurd ⟨ws', hw'⟩ hpd
   ·exact hre f hlate
 obtain ⟨av, st', hk, hrea, hn⟩ := keep
 refine ⟨av, st', hk, fun next Q hx => ?_⟩
 have key : NextOK w0 mu o b (Nw (· < st.c) st.c) st' av (fun b' w' => At w0 mu N ((st'.put o.dst av).tick st.c) b' w') := by
  intro a' w' g' hI' hs' hdf' hv'
  exact ⟨⟨g', hI'.monoU fun n h => Nw_lt h⟩, by rw [hs', hs], by rw [hdf', hdf], pin_put hpin hv' fun d hd => (hall o hom d hd).2⟩
 have fin : ∀ a' b' w', Virt (Ahead os C Ls) a' b' → At w0 mu N ((st'.put o.dst av).tick st.c) b' w' → Sim T Φ w0 mu N os (i :: C) acc ((st'.put o.dst av).tick st.c) (Ls.setIfInBounds i true) a' b' w' := by
  intro a' b' w' hv hA
  refine ⟨by simp [hS.csz], fun k hk => ?_, fun k hk => ?_, fun f hf hfl => hrea f hf (getD_set_mono hfl), fun k ok hok hk j hj => ?_, lcl_set hil hS.lcl ho hpre, ⟨hv.defers, hv.size, fun s hns => hv.same s fun ⟨k, ok, h1, h2, h3, h4⟩ => hns ⟨k, ok, List.mem_cons_of_mem _ h1, ?_, h3, h4⟩⟩, hA⟩
  ·rw [getD_set _ _ hil] at hk
   split at hk
   ·rename_i hki; subst hki; exact List.mem_cons_self ..
   ·exact List.mem_cons_of_mem _ (hS.cin k hk)
  ·rcases List.mem_cons.1 hk with rfl | hk
   ·exact .inl (by rw [getD_set _ _ hil, if_pos rfl])
   ·exact (hS.pend k hk).imp getD_set_true id
  ·refine List.mem_cons_of_mem _ ?_
   rcases List.mem_cons.1 hk with rfl | hk
   ·rw [ho] at hok; cases hok; exact hS.cin j (hpre j hj)
   ·exact hS.ccl k ok hok hk j hj
  ·rw [getD_set _ _ hil, if_neg]
   ·exact h2
   ·rintro rfl; exact hi h1
 have h9 := hn _ (fun _ _ _ => False) key
 rw [hS.virt.wanted hclr] at h9
 split
 ·rename_i hw
  rw [if_pos hw] at h9
  have h10 := hS.virt.wp (P := P) (hD.sel i o ho) hclr (Q := Q) h9
  exact Oper.wp_mono (fun a' w' ⟨b', hv, hA⟩ => hx a' b' w' (fin a' b' w' hv hA)) h10
 ·rename_i hw
  rw [if_neg hw] at h9
  exact hx _ _ _ (fin _ _ _ (hS.virt.put _ _) h9)

theorem count_set {Ls : Array Bool} {i : Nat} (hi : i < Ls.size) (h : Ls.getD i false = false) {n : Nat} (hc : Ls.toList.count false ≤ n + 1) : (Ls.setIfInBounds i true).toList.count false ≤ n := by
 have h' : Ls.toList[i]'(by simpa using hi) = false := by simpa [Array.getD_eq_getD_getElem?, hi] using h
 rw [Array.toList_setIfInBounds, List.count_set (by simpa using hi), h']
 simp only [beq_self_eq_true, if_true, show (true == false) = false from rfl, Bool.false_eq_true, if_false]
 omega

theorem sim_any {os : List Oper} {N : Nat} (hE : EnvOK P T Φ) (hfar : ∀ s, mu.far s ↔ lentC.1 ≤ s) (hN : N ≤ lentC.1) (hall : ∀ o ∈ os, ∀ d, o.dst = some d → d < N ∧ mu.pin d = none) (hD : DrawS os) {K : St → Option R} {Q : Exit → Act → World → Prop}
  (hK : ∀ st a w, K st = some r → At w0 mu N st a w → Q .normal a w) :
  ∀ (fuel n : Nat) (C : List Nat) (acc : List (Nat × List Nat)) (st : St) (Ls : Array Bool) (a b : Act) (w : World), drawOps T Φ os (befGo os []) K n C acc st = some r → Sim T Φ w0 mu N os C acc st Ls a b w → Ls.toList.count false ≤ fuel → wpAny P .any os.toArray Q fuel Ls a w := by
 have stop : ∀ (n : Nat) (C : List Nat) (acc : List (Nat × List Nat)) (st : St) (Ls : Array Bool) (a b : Act) (w : World), drawOps T Φ os (befGo os []) K (n + 1) C acc st = some r → Sim T Φ w0 mu N os C acc st Ls a b w → Region.ready .any os.toArray Ls = [] → Q .normal a w := by
  intro n C acc st Ls a b w h hS hr
  have hl : ∀ k, k < os.length → Ls.getD k false = true := fun k hk => ready_nil hD hS.csz hr (k + 1) k (Nat.lt_succ_self k) hk
  have hC : readyL os C = [] := by
   cases hq : readyL os C with
   | nil => rfl
   | cons i l =>
    have : i ∈ readyL os C := by rw [hq]; exact List.mem_cons_self ..
    obtain ⟨h1, o, ho, _⟩ := mem_readyL.1 this
    exact absurd (hS.cin i (hl i (List.getElem?_eq_some_iff.1 ho).1)) h1
  unfold drawOps at h
  rw [hC] at h
  simp only at h
  have hab : a = b := by
   obtain ⟨h1, h2, h3⟩ := hS.virt
   obtain ⟨at', ad⟩ := a
   obtain ⟨bt, bd⟩ := b
   simp only at h1 h2 h3
   subst h1
   congr 1
   refine Array.ext (by rw [h2]) fun s h4 h5 => ?_
   have := h3 s fun ⟨k, ok, _, h6, h7, _⟩ => by
    rw [hl k (List.getElem?_eq_some_iff.1 h7).1] at h6; cases h6
   simpa [h4, h5] using this.symm
  subst hab
  exact hK st a w h hS.at'
 intro fuel
 induction fuel with
 | zero =>
  intro n C acc st Ls a b w h hS hc
  obtain ⟨n', C', acc', st', b', h', hS', _⟩ := advance hE hfar hN hall n C acc st b h hS
  have hr : Region.ready .any os.toArray Ls = [] := by
   cases hq : Region.ready .any os.toArray Ls with
   | nil => rfl
   | cons i l =>
    have : i ∈ Region.ready .any os.toArray Ls := by rw [hq]; exact List.mem_cons_self ..
    obtain ⟨h1, o, ho, _⟩ := (ready_iff hS.csz).1 this
    have hi : i < Ls.size := by rw [hS.csz]; exact (List.getElem?_eq_some_iff.1 ho).1
    have h2 : Ls.toList[i]'(by simpa using hi) = false := by simpa [Array.getD_eq_getD_getElem?, hi] using h1
    have : false ∈ Ls.toList := h2 ▸ List.getElem_mem _
    have := List.count_pos_iff.2 this
    omega
  exact ⟨hr, stop n' C' acc' st' Ls a b' w h' hS' hr⟩
 | succ fuel ih =>
  intro n C acc st Ls a b w h hS hc
  obtain ⟨n', C', acc', st', b', h', hS', hnf⟩ := advance hE hfar hN hall n C acc st b h hS
  refine ⟨stop n' C' acc' st' Ls a b' w h' hS', fun i hi => ?_⟩
  obtain ⟨hil, o, ho, hpre⟩ := (ready_iff hS.csz).1 hi
  have hlt : i < Ls.size := by rw [hS.csz]; exact (List.getElem?_eq_some_iff.1 ho).1
  have hcnt := count_set hlt hil hc
  unfold wpOp
  simp only [List.getElem?_toArray, ho]
  by_cases hiC : i ∈ C'
  ·obtain ⟨v, hv, hS2⟩ := sim_late hE hfar hN hall hD hS' hiC hil ho hpre
   have h9 := ih (n' + 1) C' acc' st' _ _ _ w h' hS2 hcnt
   split
   ·rename_i hw
    rw [if_pos hw] at hv
    left
    unfold Oper.wp
    rw [hv, Oper.upon_value]
    exact h9
   ·rename_i hw
    rw [if_neg hw] at hv
    subst hv
    exact h9
  ·have hir : i ∈ readyL os C' := mem_readyL.2 ⟨hiC, o, ho, fun j hj => hS'.cin j (hpre j hj)⟩
   unfold drawOps at h'
   cases hq : readyL os C' with
   | nil => rw [hq] at hir; cases hir
   | cons i' rs =>
    rw [hq] at h' hnf hir
    simp only [hnf] at h'
    have h' := eachO_some h' i hir
    simp only [ho] at h'
    obtain ⟨av, st2, hk, hn⟩ := sim_mem (K := fun v st'' => drawOps T Φ os (befGo os []) K n' (i :: C') acc' ((st''.put o.dst v).tick st'.c)) hE hfar hN hall hD hS' hiC ho hpre h'
    have := hn (wpAny P .any os.toArray Q fuel (Ls.setIfInBounds i true)) Q fun a' b' w' hS2 => ih n' _ _ _ _ _ _ _ hk hS2 hcnt
    split
    ·rename_i hw
     rw [if_pos hw] at this
     exact .inl this
    ·rename_i hw
     rw [if_neg hw] at this
     exact this

theorem At.drew {N : Nat} (h : At w0 mu N st a w) : At w0 mu N st a { w with drawn := w.drawn + 1 } := by
 obtain ⟨⟨g, hI⟩, hs, hdf, hpin⟩ := h
 exact ⟨⟨g, Inv_upd hI (fun _ => False) (fun _ h => h) (Nat.le_refl _) (fun b l0 _ hb => ⟨rfl, hb⟩) (fun s _ => ⟨rfl, rfl, fun b r _ => ⟨rfl, rfl⟩, fun _ => rfl, fun _ => rfl⟩) (fun s h => h.elim) (fun s h => h.elim) (fun s h => h.elim) hI.cols ⟨hI.fr.os, hI.fr.tape, hI.fr.output, hI.fr.size, hI.fr.old⟩ hI.far (fun _ h => h) (.inl fun _ h => h.elim)⟩, hs, hdf, hpin⟩

theorem draw_sound (hE : EnvOK P T Φ) (hfar : ∀ s, mu.far s ↔ lentC.1 ≤ s) {N : Nat} (hN : N ≤ lentC.1) {os : Array Oper} (hall : ∀ o ∈ os.toList, ∀ d, o.dst = some d → d < N ∧ mu.pin d = none) (hD : drawB os.toList = true) {K : St → Option R} {Q : Exit → Act → World → Prop}
  (h : drawOps T Φ os.toList (befGo os.toList []) K (os.toList.length + 1) [] [] st = some r) (hA : At w0 mu N st a w) (hK : ∀ st a w, K st = some r → At w0 mu N st a w → Q .normal a w) : ∀ t, wpOps P os Q (Region.schedule (P.follows .mixedOrders) os t) a { w with drawn := w.drawn + 1 } := by
 intro t
 simp only [Region.schedule, hE.mixed, Bool.true_or, if_true]
 refine wpAny_sound os.size t _ a _ ?_
 have key := sim_any hE hfar hN hall (drawB_ok hD) hK os.size _ [] [] st (Array.replicate os.size false) a a { w with drawn := w.drawn + 1 } h ?_ ?_
 ·simpa using key
 ·have hno : ∀ i, (Array.replicate os.size false).getD i false = false := fun i => by
   simp only [Array.getD_eq_getD_getElem?, Array.getElem?_replicate]
   split <;> rfl
  refine ⟨by simp, fun i hi => ?_, fun i hi => (by cases hi), fun f hf => (by cases hf), fun i o _ hi => (by cases hi), fun i o _ hi => ?_, ⟨rfl, rfl, fun s _ => rfl⟩, hA.drew⟩
  ·rw [hno] at hi; cases hi
  ·rw [hno] at hi; cases hi
 ·simp
end
end Go.Ab
