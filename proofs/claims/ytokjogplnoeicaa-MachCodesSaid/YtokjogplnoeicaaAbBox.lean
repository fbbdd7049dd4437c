/- Boxes. -/
import Derived.Test.YtokjogplnoeicaaAbLoose
namespace Go.Ab

section
variable {P : Program} {T : Tab} {Φ : Nat → Option Contract} {w0 w : World} {mu : Mu} {st : St} {a : Act} {g : Gh} {R : Type} {o : Oper} {K : AV → St → Option R} {r : R} {val : Nat → Value} {U : Nat → Prop}

theorem RR_src_cell {s : Nat} {t : Ty} {m : Md} {p : List Stp} {src src' : Src} {k k' : Nat} {x : den t} (hc : isCell t = true) (h : RR w g s t m p src k x) (hr : rdS w src' k' = rdS w src k) : RR w g s t m p src' k' x := by
 cases t with
 | int kd => simp only [RR] at *; rw [hr]; exact h
 | bool => simp only [RR] at *; rw [hr]; exact h
 | sl e =>
  cases hm : m.isOwn with
  | true => simp only [RR, hm] at h ⊢; rw [hr]; exact h
  | false => simp only [RR, hm, RO] at h ⊢; rw [hr]; exact h
 | mp kt et =>
  cases hm : m.isOwn with
  | true => simp only [RR, hm] at h ⊢; rw [hr]; exact h
  | false => simp only [RR, hm, RO] at h ⊢; rw [hr]; exact h
 | bx e =>
  cases hm : m.isOwn with
  | true => simp only [RR, hm] at h ⊢; rw [hr]; exact h
  | false => simp only [RR, hm, RO] at h ⊢; rw [hr]; exact h
 | _ => cases hc

/-- a value's cells, laid into memory -/
theorem RR_tomem {w w' : World} {g g' : Gh} {s : Nat} {cs : Array Value} {B O : Nat} (hsz : w.heap.size ≤ w'.heap.size)
  (hsh : ∀ b l0, b < w.heap.size → shared g.col l0 b → w'.heap[b]? = w.heap[b]? ∧ shared g'.col l0 b) :
  ∀ (t : Ty) (m : Md) (p : List Stp) (k : Nat) (x : den t), RR w g s t m p (.val cs) k x → (∀ b r, g.col b = some (s, p ++ r) → w'.heap[b]? = w.heap[b]? ∧ g'.col b = some (s, p ++ r)) →
   (∀ r, g'.H s (p ++ r) = g.H s (p ++ r)) → (isCell t = true → ∀ r, r ≠ [] → g'.A s (p ++ r) = g.A s (p ++ r)) → (isCell t = false → ∀ n r, r ≠ [] → g'.A s (p ++ .fld n :: r) = g.A s (p ++ .fld n :: r)) →
   (isCell t = false → ∀ n, k ≤ n → n < k + sz t → g'.A s (p ++ [.fld n]) = (B, O + n)) → (∀ j, j < sz t → rdS w' (.mem B O) (k + j) = cs[k + j]?) → RR w' g' s t m p (.mem B O) k x := by
 intro t
 induction t with
 | unit => intros; trivial
 | pair a b _ ihb =>
  intro m p k x h hown hH _ hA hF hr
  simp only [RR] at h ⊢
  obtain ⟨hc, hcb, _, h1, h2⟩ := h
  have hsa := sz_cell hc
  have hsp : sz (.pair a b) = 1 + sz b := rfl
  refine ⟨hc, hcb, fun b' off hb' => ?_, ?_, ihb _ _ _ _ h2 hown hH (fun h => by rw [hcb] at h; cases h) (fun _ => hA rfl) (fun _ n h3 h4 => hF rfl n (by omega) (by omega)) fun j hj => ?_⟩
  ·cases hb'; exact hF rfl k (by omega) (by omega)
  ·have h3 := RR_moved hsz hsh a _ (p ++ [.fld k]) (p ++ [.fld k]) _ k x.1 h1 (fun b' r hb => by simpa using hown b' (.fld k :: r) (by simpa using hb))
    (fun r => by simpa using hH (.fld k :: r)) (fun r hr' => by simpa using hA rfl k r hr') (fun _ _ => rfl)
   exact RR_src_cell hc h3 (by have := hr 0 (by omega); simpa [rdS] using this)
  ·have := hr (j + 1) (by omega)
   rw [show k + 1 + j = k + (j + 1) by omega]; exact this
 | int kd => intro m p k x h _ _ _ _ _ hr; exact RR_src_cell rfl (t := .int kd) (w := w') (g := g') (src := .val cs) (k := k) h (by have := hr 0 (by simp [sz]); simpa [rdS] using this)
 | bool => intro m p k x h _ _ _ _ _ hr; exact RR_src_cell rfl (t := .bool) (w := w') (g := g') (src := .val cs) (k := k) h (by have := hr 0 (by simp [sz]); simpa [rdS] using this)
 | mp kt et _ _ =>
  intro m p k x h hown hH hA _ _ hr
  have h3 := RR_moved hsz hsh (.mp kt et) m p p _ k x h hown hH (fun r hr' => hA rfl r hr') (fun _ _ => rfl)
  exact RR_src_cell rfl h3 (by have := hr 0 (by show 0 < 1; omega); rw [Nat.add_zero] at this; exact this)
 | bx e _ =>
  intro m p k x h hown hH hA _ _ hr
  have h3 := RR_moved hsz hsh (.bx e) m p p _ k x h hown hH (fun r hr' => hA rfl r hr') (fun _ _ => rfl)
  exact RR_src_cell rfl h3 (by have := hr 0 (by show 0 < 1; omega); rw [Nat.add_zero] at this; exact this)
 | sl e _ =>
  intro m p k x h hown hH hA _ _ hr
  have h3 := RR_moved hsz hsh (.sl e) m p p _ k x h hown hH (fun r hr' => hA rfl r hr') (fun _ _ => rfl)
  exact RR_src_cell rfl h3 (by have := hr 0 (by show 0 < 1; omega); rw [Nat.add_zero] at this; exact this)

theorem alloc_old {o' : Obj} {b : Nat} (h : b < w.heap.size) : (w.alloc o').heap[b]? = w.heap[b]? := by
 simp only [World.alloc, Array.getElem?_push]
 rw [if_neg (by omega)]
theorem alloc_new {o' : Obj} : (w.alloc o').heap[w.heap.size]? = some o' := by simp only [World.alloc, Array.getElem?_push, if_true]
theorem Fr_alloc (h : Fr w0 mu w) (o' : Obj) : Fr w0 mu (w.alloc o') where
 os := h.os
 tape := h.tape
 output := h.output
 size := by have := h.size; simp only [World.size_alloc]; omega
 old b hb hm := by rw [alloc_old (by have := h.size; omega)]; exact h.old b hb hm
theorem Fr_drew (h : Fr w0 mu w) : Fr w0 mu w.drew := ⟨h.os, h.tape, h.output, h.size, h.old⟩

/-- a box of slot d, block b -/
def Gh.boxed (g : Gh) (d b : Nat) (cell : Bool) : Gh where
 col b' := if b' = b then some (d, []) else g.col b'
 H := g.H
 A s q := if s = d then (match q, cell with
  | [.dr], _ => (b, 0)
  | [.dr, .fld j], false => (b, j)
  | _, _ => g.A s q) else g.A s q

/-- a loose value into a new box -/
theorem Loose.box {st1 : St} {g2 : Gh} {s0 d : Nat} {t : Ty} {m : Md} {x : den t} {v : Value} (h : Loose w0 mu w st st1 g g2 s0 d [.dr] t m x v) (hU : New U st1.c) (hI : Inv w0 mu st.get val U w g) (hd : ¬ mu.far d) (el : TypeId) (hlen : v.cells.size = sz t) :
  Inv w0 mu (fun u => if u = d then .box st1.c (st1.c + 1) t m x else st1.get u) (fun u => if u = d then .pointer (some ⟨w.heap.size, 0, none⟩) else val u) (Nw U st1.c) (w.alloc (.cells v.cells el)) (g2.boxed d w.heap.size (isCell t)) := by
 have hne : ∀ b k, g2.col b = some k → b ≠ w.heap.size := fun b k hb => Nat.ne_of_lt (h.cols b k hb).1
 have hsh2 : ∀ b l0, b < w.heap.size → shared g2.col l0 b → (w.alloc (.cells v.cells el)).heap[b]? = w.heap[b]? ∧ shared (g2.boxed d w.heap.size (isCell t)).col l0 b := by
  intro b l0 hb hs
  refine ⟨alloc_old hb, ?_⟩
  have : b ≠ w.heap.size := Nat.ne_of_lt hb
  simp only [shared, Gh.boxed, this, if_false]; exact hs
 have := Inv_put hI s0 d (.box st1.c (st1.c + 1) t m x) (.pointer (some ⟨w.heap.size, 0, none⟩)) (U' := Nw U st1.c) (w' := w.alloc (.cells v.cells el)) (g' := g2.boxed d w.heap.size (isCell t))
  (fun _ => Nw_old) (by simp) (fun b l0 hb hs => hsh2 b l0 hb (h.sh b l0 hs)) ?_ ?_ ?_ ?_ ⟨Nw_0, Nw_1⟩ ?_ ?_ ?_ (Fr_alloc hI.fr _) hd (fun b hb => by
   have := hne b _ (h.lk b hb)
   simp only [Gh.boxed, this, if_false]; exact h.lk b hb)
 ·refine Inv_congr this (fun u => ?_) (fun _ => rfl)
  rw [h.get hI]
 ·intro b s r hb _ h2
  have hb' := (hI.cols b _ hb).1
  refine ⟨alloc_old hb', ?_⟩
  have : b ≠ w.heap.size := Nat.ne_of_lt hb'
  simp only [Gh.boxed, this, if_false]
  exact h.un b s r hb h2
 ·intro s h1 h2 p; exact h.H s h2 p (fun h => absurd h h1)
 ·intro s h1 h2 p
  simp only [Gh.boxed, h1, if_false]
  exact h.A s h2 p (fun h => absurd h h1)
 ·refine ⟨w.heap.size, v.cells, el, rfl, by simp [Gh.boxed], alloc_new, by omega, by simp [Gh.boxed], ?_⟩
  refine RR_tomem (by simp) hsh2 t m [.dr] 0 x h.rr ?_ (fun _ => rfl) ?_ ?_ ?_ ?_
  ·intro b r hb
   have hb' := (h.cols b _ hb).1
   refine ⟨alloc_old hb', ?_⟩
   have : b ≠ w.heap.size := Nat.ne_of_lt hb'
   simp only [Gh.boxed, this, if_false]; exact hb
  ·intro hc r hr
   simp only [Gh.boxed, if_true, hc]
   cases r with
   | nil => exact absurd rfl hr
   | cons c r => cases c <;> cases r <;> rfl
  ·intro hc n r hr
   simp only [Gh.boxed, if_true, hc]
   cases r with
   | nil => exact absurd rfl hr
   | cons c r => rfl
  ·intro hc n _ _
   simp [Gh.boxed, hc]
  ·intro j hj
   simp only [rdS, World.cell?, alloc_new, Nat.zero_add]
   simp
 ·intro n hn
  simp only [own?]
  cases hb : Nat.beq n (st1.c + 1) with
  | true => have := Nat.eq_of_beq_eq_true hb; subst this; exact absurd hn hU.2
  | false => rfl
 ·intro n p hn
  have h1 : Nat.beq n st1.c = false := by
   cases hb : Nat.beq n st1.c with
   | true => have := Nat.eq_of_beq_eq_true hb; subst this; exact absurd hn hU.1
   | false => rfl
  have h2 : Nat.beq n (st1.c + 1) = false := by
   cases hb : Nat.beq n (st1.c + 1) with
   | true => have := Nat.eq_of_beq_eq_true hb; subst this; exact absurd hn hU.2
   | false => rfl
  simp [ownP?, h1, h2]
 ·intro b k hk
  simp only [Gh.boxed] at hk
  split at hk
  ·rename_i hb; subst hb
   exact ⟨by simp, .inr (.inl hI.fr.size)⟩
  ·obtain ⟨h1, h2⟩ := h.cols b k hk
   exact ⟨by simp only [World.size_alloc]; omega, h2⟩

theorem shape_size {t : Ty} {v : Value} (h : shapeV t v) : v.cells.size = sz t := by
 unfold shapeV at h
 cases hc : isCell t with
 | true => rw [hc] at h; rw [h, sz_cell hc]; rfl
 | false => rw [hc] at h; obtain ⟨cs, rfl, h⟩ := h; exact h

theorem Inv_alloc {av : Nat → AV} (hI : Inv w0 mu av val U w g) (ob : Obj) : Inv w0 mu av val U (w.alloc ob) g := by
 have hsz : (w.alloc ob).heap.size = w.heap.size + 1 := World.size_alloc w ob
 have hold : ∀ b, b < w.heap.size → (w.alloc ob).heap[b]? = w.heap[b]? := fun b hb => by
  show (w.heap.push ob)[b]? = _
  rw [Array.getElem?_push_lt hb, Array.getElem?_eq_getElem hb]
 refine Inv_upd hI (fun _ => False) (fun _ h => h) (by omega) (fun b l0 hb hs => ⟨hold b hb, hs⟩) (fun s _ => ⟨rfl, rfl, fun b r hb => ⟨hold b (hI.cols b _ hb).1, rfl⟩, fun _ => rfl, fun _ => rfl⟩) (fun s h => h.elim) (fun s h => h.elim) (fun s h => h.elim)
  (fun b k hk => ⟨by have := (hI.cols b k hk).1; omega, (hI.cols b k hk).2⟩) ⟨hI.fr.os, hI.fr.tape, hI.fr.output, by have := hI.fr.size; omega, fun b hb hm => (hold b (Nat.lt_of_lt_of_le hb hI.fr.size)).trans (hI.fr.old b hb hm)⟩ hI.far (fun _ h => h) (.inl fun _ h => h.elim)

theorem isCel_some {ty : Ty} {av : AV} {s n : Nat} (h : isCel st ty av = some (s, n)) : ∃ e u t m x, ty = .bx e ∧ av = .pl s n [.dr] ∧ st.get s = .box n u t m x := by
 unfold isCel at h
 split at h
 ·rename_i e s' n' p
  split at h
  ·rename_i n1 u t m x hq
   split at h
   ·rename_i hb
    simp only [Bool.and_eq_true] at hb
    have h1 := Nat.eq_of_beq_eq_true hb.1
    have h2 := eqP_ok hb.2
    simp only [Option.some.injEq, Prod.mk.injEq] at h
    obtain ⟨rfl, rfl⟩ := h
    subst h1 h2
    exact ⟨e, u, t, m, x, rfl, rfl, hq⟩
   ·cases h
  ·cases h
 ·cases h
theorem step_box (hU : New U st.c) (hI : Inv w0 mu st.get (Vals a) U w g) (hd : DstOK mu o a) {t : TypeId} {x : Operand} (ho : o.op = .box t x) (h : step T Φ o st K = some r) : StepOK P w0 mu (Nw U st.c) o a w K r := by
 unfold step at h; rw [ho] at h; simp only at h
 split at h
 ·rename_i ty ht
  split at h
  ·-- a struct that a slot owns
   rename_i s t' m y how
   split at h
   ·rename_i hty; subst hty
    have hx : ∃ n, x = .tmp s ∧ st.get s = .ow n t' m y := by
     unfold owS at how
     split at how
     ·rename_i s'
      split at how
      ·rename_i n t1 m1 x1 hq
       split at how
       ·simp only [Option.some.injEq, Prod.mk.injEq, TV.mk.injEq] at how
        obtain ⟨rfl, rfl, rfl, e1⟩ := how
        have e1 := eq_of_heq e1
        subst e1
        exact ⟨n, rfl, hq⟩
       ·cases how
      ·cases how
     ·cases how
    obtain ⟨n, rfl, hq⟩ := hx
    have hs := hI.slots s
    rw [hq] at hs
    have hns : ¬ mu.far s := fun hf => by have := hI.far s hf; rw [hq] at this; cases this
    obtain ⟨d, hdst, hK⟩ := ownK_some h
    obtain ⟨h1, h2⟩ := hd d hdst
    have hL := loose_moveA hI d [.dr] (p0 := []) (g1 := g) hns rfl (fun _ _ => rfl) (fun _ _ => rfl) hs.1 hs.2
    have hb := hL.box (hL.c ▸ hU) hI h2 t (shape_size hL.shape)
    rw [show (st.set s .dead).c = st.c from rfl] at hb
    refine ⟨_, _, hK, fun next Q hn => M_done hdst h1 (v := .pointer (some ⟨w.heap.size, 0, none⟩)) (w' := w.alloc (.cells (Vals a s).cells t)) ?_ hb hn⟩
    have hev : a.eval (.tmp s) = Vals a s := rfl
    simp [execOp, ho, Instr.box, newVar, newRow, hev]
   ·cases h
  obtain ⟨av, h, hv, _, _⟩ := opd_sound hI h
  cases hcel : isCel st ty av with
  | some sn =>
   obtain ⟨s, n⟩ := sn
   rw [hcel] at h
   obtain ⟨e, u1, t1, m1, x1, rfl, rfl, hq⟩ := isCel_some hcel
   have hI2 := Inv_alloc hI (.cells (a.eval x).cells t)
   have hcol : g.col w.heap.size = none := by
    cases hgc : g.col w.heap.size with
    | none => rfl
    | some k => have := (hI.cols _ k hgc).1; omega
   have hv0 := hv ⟨true, t1, m1, x1⟩ (by rw [hq]; simp [ownP?, shallowD, shallow])
   have hnew : (w.alloc (.cells (a.eval x).cells t)).heap[w.heap.size]? = some (.cells (a.eval x).cells t (0, 0)) := by
    show (w.heap.push _)[w.heap.size]? = _
    rw [Array.getElem?_push_size]
   have hVR : VR (w.alloc (.cells (a.eval x).cells t)) g st.get (.cel s n) (.pointer (some ⟨w.heap.size, 0, none⟩)) :=
    ⟨w.heap.size, _, t, a.eval x, rfl, by rw [World.size_alloc]; omega, .inl hcol, hnew, by rw [hv0.1]; rfl, hv⟩
   have hU1 : U n := by have := hI.stamps s; rw [hq] at this; exact this.1
   refine ⟨_, _, h, fun next Q hn => ?_⟩
   have hrun : (execOp a.eval o).run P w = .ok (.value (.pointer (some ⟨w.heap.size, 0, none⟩))) (w.alloc (.cells (a.eval x).cells t)) := by simp [execOp, ho, Instr.box, newVar, newRow]
   unfold Oper.wp
   rw [hrun, Oper.upon_value]
   cases hdst : o.dst with
   | none => exact hn _ _ g (by rw [hdst]; exact hI2.monoU fun _ => Nw_old) rfl rfl (fun s _ => rfl)
   | some d =>
    obtain ⟨d1, d2⟩ := hd d hdst
    exact hn _ _ g (by rw [hdst]; exact (put_free hI2 d1 d2 hVR hU1 rfl).monoU fun _ => Nw_old) (by simp [Act.put]) rfl (fun s hs => by rw [← hdst]; exact put_same s hs)
  | none =>
  rw [hcel] at h
  cases hdst : o.dst with
  | none =>
   obtain ⟨m, y, st1, g2, s0, hk, _⟩ := takeAny_loose h hI hv 0 []
   obtain ⟨d, hd', _⟩ := ownK_some hk
   rw [hdst] at hd'; cases hd'
  | some d =>
   obtain ⟨h1, h2⟩ := hd d hdst
   obtain ⟨m, y, st1, g2, s0, hk, hL⟩ := takeAny_loose h hI hv d [.dr]
   obtain ⟨_, _, hK⟩ := ownK_some hk
   refine ⟨_, _, hK, fun next Q hn => M_done hdst h1 (v := .pointer (some ⟨w.heap.size, 0, none⟩)) (w' := w.alloc (.cells (a.eval x).cells t)) (by simp [execOp, ho, Instr.box, newVar, newRow]) (g' := g2.boxed d w.heap.size (isCell ty)) (by have := hL.box (hL.c ▸ hU) hI h2 t (shape_size hL.shape); rw [show Nw U st1.c = Nw U st.c from by rw [hL.c]] at this; exact this) hn⟩
 ·cases h

/-- nil slices everywhere -/
def Gh.nils (g : Gh) (d : Nat) (p : List Stp) : Gh where
 col := g.col
 H s q := if s = d ∧ (strip p q).isSome then .slice none 0 0 else g.H s q
 A := g.A

theorem RR_zero_cell {s : Nat} {cs : Array Value} {t : Ty} {tt : TypeId} (hT : TM P t tt) (hc : isCell t = true) {p : List Stp} {k : Nat} {c : Value} (hz : zeros t = [c]) (hr : cs[k]? = some c) (hH : g.H s p = .slice none 0 0) : RR w g s t (topM t) p (.val cs) k (dflt t) := by
 cases t with
 | int kd => simp only [zeros, List.cons.injEq] at hz; simp only [RR, rdS, dflt]; rw [hr, ← hz.1]
 | bool => simp only [zeros, List.cons.injEq] at hz; simp only [RR, rdS, dflt]; rw [hr, ← hz.1]
 | sl e =>
  simp only [zeros, List.cons.injEq] at hz
  simp only [RR, topM, Md.isOwn, dflt]
  exact ⟨none, 0, by rw [hH]; simp only [rdS]; rw [hr, ← hz.1], by rw [hH]; rfl, Nat.le_refl _, fun _ _ => rfl, by simp⟩
 | mp kt et =>
  simp only [zeros, List.cons.injEq] at hz
  simp only [RR, topM, Md.isOwn, Md.nz?, dflt]
  exact ⟨none, by simp only [rdS]; rw [hr, ← hz.1], (fun h => by cases h), trivial⟩
 | bx e =>
  simp only [zeros, List.cons.injEq] at hz
  simp only [RR, topM, Md.isOwn, dflt]
  exact ⟨none, by simp only [rdS]; rw [hr, ← hz.1], trivial⟩
 | _ => cases hc

theorem zeros_cell {t : Ty} (hc : isCell t = true) : ∃ c, zeros t = [c] := by
 cases t <;> first | exact ⟨_, rfl⟩ | cases hc

theorem zeros_len : ∀ (t : Ty) (fld : Nat → Option TypeId) (k : Nat), (TM2 P t).2 fld k → (zeros t).length = sz t := by
 intro t
 induction t with
 | pair a b _ ihb =>
  intro fld k hT
  obtain ⟨hc, hcb, ta, h1, h2, h3⟩ := hT
  obtain ⟨c, hz⟩ := zeros_cell hc
  have := ihb _ _ h3
  simp [zeros, hz, sz, this]; omega
 | unit => intros; rfl
 | _ => intro fld k hT; exact hT.elim

theorem RR_zero2 {s : Nat} {cs : Array Value} {p : List Stp} (hH : ∀ r, g.H s (p ++ r) = .slice none 0 0) : ∀ (t : Ty) (fld : Nat → Option TypeId) (m : Md) (k : Nat), (TM2 P t).2 fld k → (∀ j, fldMd m (k + j) = fldMd (topM t) j) →
  (∀ j, j < sz t → cs[k + j]? = (zeros t)[j]?) → RR w g s t m p (.val cs) k (dflt t) := by
 intro t
 induction t with
 | unit => intros; trivial
 | pair a b _ ihb =>
  intro fld m k hT hm hr
  obtain ⟨hc, hcb, ta, h1, h2, h3⟩ := hT
  obtain ⟨c, hz⟩ := zeros_cell hc
  have hr' : ∀ j, j < 1 + sz b → cs[k + j]? = (c :: zeros b)[j]? := by
   intro j hj
   have := hr j hj
   simpa [zeros, hz] using this
  simp only [RR]
  refine ⟨hc, hcb, (fun _ _ h => by cases h), ?_, ihb fld m (k + 1) h3 (fun j => ?_) fun j hj => ?_⟩
  ·have := hm 0
   simp only [Nat.add_zero, topM, fldMd, Md.fst] at this
   rw [this]
   exact RR_zero_cell h2 hc hz (by simpa using hr' 0 (by omega)) (hH _)
  ·have := hm (j + 1)
   rw [show k + 1 + j = k + (j + 1) by omega, this]
   rfl
  ·have := hr' (j + 1) (by omega)
   rw [show k + 1 + j = k + (j + 1) by omega, this]; rfl
 | _ => intro fld m k hT; exact hT.elim

theorem RR_zero_cell' {s : Nat} {cs : Array Value} {t : Ty} {tt : TypeId} (hT : TM P t tt) (hc : isCell t = true) {m : Md} {p : List Stp} {k : Nat} {c : Value} (hn : noMp t = true) (hz : zeros t = [c]) (hr : cs[k]? = some c) (hH : g.H s p = .slice none 0 0) : RR w g s t m p (.val cs) k (dflt t) := by
 cases t with
 | int kd => simp only [zeros, List.cons.injEq] at hz; simp only [RR, rdS, dflt]; rw [hr, ← hz.1]
 | bool => simp only [zeros, List.cons.injEq] at hz; simp only [RR, rdS, dflt]; rw [hr, ← hz.1]
 | sl e =>
  simp only [zeros, List.cons.injEq] at hz
  cases hm : m.isOwn with
  | true =>
   simp only [RR, hm, dflt]
   exact ⟨none, 0, by rw [hH]; simp only [rdS]; rw [hr, ← hz.1], by rw [hH]; rfl, Nat.le_refl _, fun _ _ => rfl, by simp⟩
  | false =>
   simp only [RR, hm, RO, dflt, rdS]
   rw [hr, ← hz.1]
   exact ⟨⟨none, 0, rfl, Nat.le_refl _, by simp⟩, fun _ _ => ⟨0, 0, rfl⟩⟩
 | mp kt et => cases hn
 | bx e =>
  simp only [zeros, List.cons.injEq] at hz
  cases hm : m.isOwn with
  | true => simp only [RR, hm, dflt]; exact ⟨none, by simp only [rdS]; rw [hr, ← hz.1], trivial⟩
  | false => simp only [RR, hm, RO, dflt, rdS]; exact ⟨none, by rw [hr, ← hz.1], trivial⟩
 | _ => cases hc
theorem RR_zero_any {s : Nat} {cs : Array Value} {p : List Stp} {m : Md} (hH : ∀ r, g.H s (p ++ r) = .slice none 0 0) : ∀ (t : Ty) (fld : Nat → Option TypeId) (k : Nat), noMp t = true → (TM2 P t).2 fld k →
  (∀ j, j < sz t → cs[k + j]? = (zeros t)[j]?) → RR w g s t m p (.val cs) k (dflt t) := by
 intro t
 induction t with
 | unit => intros; trivial
 | pair a b _ ihb =>
  intro fld k hn hT hr
  simp only [noMp, Bool.and_eq_true] at hn
  obtain ⟨hc, hcb, ta, h1, h2, h3⟩ := hT
  obtain ⟨c, hz⟩ := zeros_cell hc
  have hr' : ∀ j, j < 1 + sz b → cs[k + j]? = (c :: zeros b)[j]? := by
   intro j hj
   have := hr j hj
   simpa [zeros, hz] using this
  simp only [RR]
  refine ⟨hc, hcb, (fun _ _ h => by cases h), RR_zero_cell' h2 hc hn.1 hz (by simpa using hr' 0 (by omega)) (hH _), ihb fld (k + 1) hn.2 h3 fun j hj => ?_⟩
  have := hr' (j + 1) (by omega)
  rw [show k + 1 + j = k + (j + 1) by omega, this]; rfl
 | _ => intro fld k _ hT; exact hT.elim
theorem RR_zero_top {s : Nat} {cs : Array Value} {p : List Stp} {m : Md} {t : Ty} {tt : TypeId} (hn : noMp t = true) (hT : TM P t tt) (hH : ∀ r, g.H s (p ++ r) = .slice none 0 0) (hr : ∀ j, j < sz t → cs[j]? = (zeros t)[j]?) : RR w g s t m p (.val cs) 0 (dflt t) := by
 cases hc : isCell t with
 | true =>
  obtain ⟨c, hz'⟩ := zeros_cell hc
  exact RR_zero_cell' hT hc hn hz' (by rw [hr 0 (by rw [sz_cell hc]; omega), hz']; rfl) (by simpa using hH [])
 | false =>
  cases t with
  | pair a b =>
   obtain ⟨fld, i, zs, h0, hc, hcb, ⟨ta, h1, h2, h3⟩, _⟩ := hT
   exact RR_zero_any hH (.pair a b) fld 0 hn ⟨hc, hcb, ta, h1, h2, h3⟩ (fun j hj => by rw [Nat.zero_add]; exact hr j hj)
  | unit => trivial
  | _ => cases hc

/-- the zero value -/
theorem loose_zero (hI : Inv w0 mu st.get val U w g) (d : Nat) (p : List Stp) {t : Ty} {tt : TypeId} (hT : TM P t tt) {z : Value} (hz : z.cells.toList = zeros t) (hs : shapeV t z) : Loose w0 mu w st st g (g.nils d p) lentC.1 d p t (topM t) (dflt t) z where
 sh _ _ h := h
 un _ _ _ _ _ := rfl
 H s _ q h := by
  simp only [Gh.nils]
  by_cases hsd : s = d
  ·simp [h hsd]
  ·simp [hsd]
 A _ _ _ _ := rfl
 cols := hI.cols
 lk _ h := h
 shape := hs
 rr := by
  have hH : ∀ r, (g.nils d p).H d (p ++ r) = .slice none 0 0 := fun r => by simp [Gh.nils, strip_app]
  have hr : ∀ j : Nat, z.cells[j]? = (zeros t)[j]? := fun j => by rw [← hz]; simp
  cases hc : isCell t with
  | true =>
   obtain ⟨c, hz'⟩ := zeros_cell hc
   exact RR_zero_cell hT hc hz' (by rw [hr, hz']; rfl) (by simpa using hH [])
  | false =>
   cases t with
   | pair a b =>
    obtain ⟨fld, i, zs, h0, hc, hcb, ⟨ta, h1, h2, h3⟩, _⟩ := hT
    exact RR_zero2 hH (.pair a b) fld _ 0 ⟨hc, hcb, ta, h1, h2, h3⟩ (fun j => by rw [Nat.zero_add]) (fun j _ => by rw [Nat.zero_add]; exact hr j)
   | unit => trivial
   | _ => cases hc
 dead := .inl ⟨rfl, rfl⟩

theorem TM_zero {ty : Ty} {t : TypeId} (hT : TM P ty t) : ∃ i z, P.info? t = some i ∧ i.zero = some z ∧ i.size = sz ty ∧ i.bytes ≤ 256 ∧ z.cells.toList = zeros ty ∧ shapeV ty z := by
 cases ty with
 | int k => obtain ⟨_, i, h1, h2, h3, h4⟩ := hT; exact ⟨i, _, h1, h3, h2, h4, rfl, rfl⟩
 | bool => obtain ⟨_, i, h1, h2, h3, h4⟩ := hT; exact ⟨i, _, h1, h3, h2, h4, rfl, rfl⟩
 | sl e => obtain ⟨te, _, _, i, h1, h2, h3, h4⟩ := hT; exact ⟨i, _, h1, h3, h2, h4, rfl, rfl⟩
 | pair a b =>
  obtain ⟨fld, i, zs, _, hc, hcb, ⟨ta, _, _, h7⟩, h1, h2, h3, h4, _, h5⟩ := hT
  refine ⟨i, _, h1, h3, h2, h5, h4, zs, rfl, ?_⟩
  have h8 := congrArg List.length h4
  have := zeros_len (P := P) (.pair a b) fld 0 ⟨hc, hcb, ta, by assumption, by assumption, h7⟩
  rw [this] at h8
  simpa using h8
 | unit => exact hT.elim
 | mp kt et => obtain ⟨tk, te, _, _, _, i, h1, h2, h3, h4⟩ := hT; exact ⟨i, _, h1, h3, h2, h4, rfl, rfl⟩
 | bx e => obtain ⟨te, _, _, i, h1, h2, h3, h4⟩ := hT; exact ⟨i, _, h1, h3, h2, h4, rfl, rfl⟩

theorem loose_alloc (hI : Inv w0 mu st.get val U w g) (d : Nat) (p : List Stp) {t : Ty} {tt : TypeId} (hT : TM P t tt) {z : Value} (hz : z.cells.toList = zeros t) (hs : shapeV t z) : Loose w0 mu w st st g (g.nils d p) lentC.1 d p t (allocM T tt t) (dflt t) z := by
 have hL := loose_zero hI d p hT hz hs
 cases t with
 | sl e =>
  simp only [allocM]
  split
  ·rename_i nz me _
   split
   ·rename_i hme
    have hme := of_decide_eq_true hme
    subst hme
    have hrr := hL.rr
    refine { hL with rr := ?_ }
    simp only [topM, RR, Md.isOwn] at hrr ⊢
    obtain ⟨a, cap, h1, h2, h3, h4, h5⟩ := hrr
    exact ⟨a, cap, h1, h2, h3, fun _ hx => h4 rfl hx, h5⟩
   ·exact hL
  ·exact hL
 | _ => exact hL

theorem step_alloc (hT : TabOK P T) (hU : New U st.c) (hI : Inv w0 mu st.get (Vals a) U w g) (hd : DstOK mu o a) {t : TypeId} (ho : o.op = .alloc t) (h : step T Φ o st K = some r) : StepOK P w0 mu (Nw U st.c) o a w K r := by
 unfold step at h; rw [ho] at h; simp only at h
 split at h
 ·rename_i ty ht
  obtain ⟨d, hdst, hK⟩ := ownK_some h
  obtain ⟨h1, h2⟩ := hd d hdst
  have hTM := ((hT _).1 _ ht).1
  obtain ⟨i, z, h3, h4, h5, _, h6, h7⟩ := TM_zero hTM
  have hL := loose_alloc (T := T) hI d [.dr] hTM h6 h7
  refine ⟨_, _, hK, fun next Q hn => M_done hdst h1 (v := .pointer (some ⟨w.heap.size, 0, none⟩)) (w' := w.alloc (.cells z.cells t)) (by simp [execOp, ho, Instr.alloc, zeroValue, typeInfo, h3, h4, newVar, newRow]) (hL.box hU hI h2 t (shape_size h7)) hn⟩
 ·cases h
end
end Go.Ab
