/- What is no cells may change: the invariant does not look at it. -/
import Derived.Test.YtokjogplnoeicaaAbCode
import Derived.Test.YtokjogplnoeicaaAbGen
import Derived.RangeFuncOwn
namespace Go.Ab

/-- all cells and all maps are as they were -/
structure NonC (w w' : World) : Prop where
 size : w'.heap.size = w.heap.size
 cells : ∀ (b : Nat) (c : Array Value) (el : TypeId) (fr : Nat × Nat), w.heap[b]? = some (Obj.cells c el fr) → w'.heap[b]? = some (Obj.cells c el fr)
 cell : ∀ a : Addr, w'.cell? a = w.cell? a
 maps : ∀ (b : Nat) (es : Array MapEntry) (c : Nat), w.heap[b]? = some (Obj.map es c) → w'.heap[b]? = some (Obj.map es c)
 iters : ∀ (b : Nat) (m : Option Nat) (since : Nat) (seen : Array Nat) (c : Nat), w.heap[b]? = some (Obj.mapIter m since seen c) → w'.heap[b]? = some (Obj.mapIter m since seen c)

theorem NonC.putObj {W : World} {l : Nat} {o o' : Obj} (h : W.heap[l]? = some o) (ho : o.isCells = false) (ho' : o'.isCells = false) (hm : ∀ es c, o ≠ .map es c) (hi : ∀ m since seen c, o ≠ .mapIter m since seen c) : NonC W (W.putObj l o') := by
 have hl : l < W.heap.size := (Array.getElem?_eq_some_iff.1 h).1
 refine ⟨by simp, fun b c el fr hb => ?_, fun a => ?_, fun b es c hb => ?_, fun b m si se c hb => ?_⟩
 ·by_cases hbl : b = l
  ·subst hbl; rw [h] at hb; cases hb; cases ho
  ·rw [World.putObj_heap_other hbl]; exact hb
 ·unfold World.cell?
  by_cases hbl : a.block = l
  ·rw [hbl, World.putObj_heap_same hl, h]
   cases o <;> first | (cases ho; done) | (cases o' <;> first | (cases ho'; done) | rfl)
  ·rw [World.putObj_heap_other hbl]
 ·by_cases hbl : b = l
  ·subst hbl; rw [h] at hb; cases hb; exact absurd rfl (hm _ _)
  ·rw [World.putObj_heap_other hbl]; exact hb
 ·by_cases hbl : b = l
  ·subst hbl; rw [h] at hb; cases hb; exact absurd rfl (hi _ _ _ _)
  ·rw [World.putObj_heap_other hbl]; exact hb

section
variable {w w' : World} {g : Gh} {av : Nat → AV}

theorem RO_non (hn : NonC w w') {col : Nat → Option (Nat × List Stp)} {l : Bool} : ∀ (t : Ty) (rd rd' : Nat → Option Value) (k : Nat) (x : den t), (∀ j, rd' j = rd j) → RO w col l t rd k x → RO w' col l t rd' k x := by
 intro t
 induction t with
 | int kd => intro rd rd' k x hr h; simp only [RO] at *; rw [hr]; exact h
 | bool => intro rd rd' k x hr h; simp only [RO] at *; rw [hr]; exact h
 | unit => intros; trivial
 | mp kt et _ _ =>
  intro rd rd' k x hr h
  simp only [RO] at *
  obtain ⟨r, h1, h2⟩ := h
  refine ⟨r, by rw [hr]; exact h1, ?_⟩
  cases r with
  | none => exact h2
  | some b =>
   obtain ⟨h3, h4, es, c, h5, h6⟩ := h2
   exact ⟨by rw [hn.size]; exact h3, h4, es, c, hn.maps _ _ _ h5, h6⟩
 | bx e ih =>
  intro rd rd' k x hr h
  simp only [RO] at *
  obtain ⟨r, h1, h2⟩ := h
  refine ⟨r, by rw [hr]; exact h1, ?_⟩
  match r, x, h2 with
  | none, none, _ => trivial
  | some ad, some y, h2 => exact ⟨h2.1, by rw [hn.size]; exact h2.2.1, h2.2.2.1, ih _ _ _ _ (fun j => hn.cell _) h2.2.2.2⟩
 | pair a b iha ihb =>
  intro rd rd' k x hr h
  simp only [RO] at *
  exact ⟨h.1, h.2.1, iha _ _ _ _ hr h.2.2.1, ihb _ _ _ _ hr h.2.2.2⟩
 | sl e ih =>
  intro rd rd' k x hr h
  simp only [RO] at *
  obtain ⟨a, cap, h1, h2, h3⟩ := h
  refine ⟨a, cap, by rw [hr]; exact h1, h2, ?_⟩
  cases a with
  | none => exact h3
  | some ad =>
   rcases h3 with h3 | ⟨h4, h5, h6, h7⟩
   ·exact .inl h3
   ·exact .inr ⟨h4, by rw [hn.size]; exact h5, h6, fun i hi => ih _ _ _ _ (fun j => hn.cell _) (h7 i hi)⟩

theorem rdS_non (hn : NonC w w') (src : Src) (j : Nat) : rdS w' src j = rdS w src j := by
 cases src with
 | mem b off => exact hn.cell _
 | val cs => rfl

theorem RR_non (hn : NonC w w') (s : Nat) : ∀ (t : Ty) (m : Md) (p : List Stp) (src : Src) (k : Nat) (x : den t), RR w g s t m p src k x → RR w' g s t m p src k x := by
 intro t
 induction t with
 | int kd => intro m p src k x h; simp only [RR] at *; rw [rdS_non hn]; exact h
 | bool => intro m p src k x h; simp only [RR] at *; rw [rdS_non hn]; exact h
 | unit => intros; trivial
 | mp kt et _ _ =>
  intro m p src k x h
  cases hm : m.isOwn with
  | true =>
   simp only [RR, hm] at *
   obtain ⟨r, h1, h2, h3⟩ := h
   refine ⟨r, by rw [rdS_non hn]; exact h1, h2, ?_⟩
   cases r with
   | none => exact h3
   | some b =>
    obtain ⟨h4, h5, es, c, h6, h7⟩ := h3
    exact ⟨h4, h5, es, c, hn.maps _ _ _ h6, h7⟩
  | false =>
   simp only [RR, hm] at *
   exact RO_non hn _ _ _ _ _ (rdS_non hn src) h
 | bx e ih =>
  intro m p src k x h
  cases hm : m.isOwn with
  | true =>
   simp only [RR, hm] at *
   obtain ⟨r, h1, h3⟩ := h
   refine ⟨r, by rw [rdS_non hn]; exact h1, ?_⟩
   match r, x, h3 with
   | none, none, _ => trivial
   | some ad, some y, h3 =>
    obtain ⟨h4, h5, h6, ⟨c, el, h7, h8⟩, h9, h10⟩ := h3
    exact ⟨h4, h5, h6, ⟨c, el, hn.cells _ _ _ _ h7, h8⟩, h9, ih _ _ _ _ _ h10⟩
  | false =>
   simp only [RR, hm] at *
   exact RO_non hn _ _ _ _ _ (rdS_non hn src) h
 | pair a b iha ihb =>
  intro m p src k x h
  simp only [RR] at *
  exact ⟨h.1, h.2.1, h.2.2.1, iha _ _ _ _ _ h.2.2.2.1, ihb _ _ _ _ _ h.2.2.2.2⟩
 | sl e ih =>
  intro m p src k x h
  cases hm : m.isOwn with
  | true =>
   simp only [RR, hm] at *
   obtain ⟨a, cap, h1, h2, h3, h4, h5⟩ := h
   refine ⟨a, cap, by rw [rdS_non hn]; exact h1, h2, h3, h4, ?_⟩
   cases a with
   | none => exact h5
   | some ad =>
    obtain ⟨h6, h7, ⟨c, el, h8, h9⟩, h10⟩ := h5
    exact ⟨h6, h7, ⟨c, el, hn.cells _ _ _ _ h8, h9⟩, fun i hi => ⟨(h10 i hi).1, ih _ _ _ _ _ (h10 i hi).2⟩⟩
  | false =>
   simp only [RR, hm] at *
   exact ⟨RO_non hn _ _ _ _ _ (rdS_non hn src) h.1, fun hz hx => by obtain ⟨l, c, h1⟩ := h.2 hz hx; exact ⟨l, c, by rw [rdS_non hn]; exact h1⟩⟩

theorem nzP_non {t : Ty} {rd rd' : Nat → Option Value} {x : den t} (hr : ∀ j, rd' j = rd j) (h : nzP t rd x) : nzP t rd' x := by
 cases t with
 | sl e => intro hx; obtain ⟨l, c, h1⟩ := h hx; exact ⟨l, c, by rw [hr]; exact h1⟩
 | _ => trivial

theorem VR0_non (hn : NonC w w') {a : AV} {v : Value} (h : VR0 w g av a v) : VR0 w' g av a v := by
 cases a with
 | v t m x => exact ⟨h.1, h.2.1, RR_non hn 0 _ _ _ _ _ _ h.2.2⟩
 | rop t m x =>
  obtain ⟨l, nz, h1, ad, h2, h3, h4, h5, h6, h7⟩ := h
  exact ⟨l, nz, h1, ad, h2, h3, by rw [hn.size]; exact h4, h5, RO_non hn _ _ _ _ _ (fun j => hn.cell _) h6, fun hz => nzP_non (fun j => hn.cell _) (h7 hz)⟩
 | _ => exact h
theorem VR_non (hn : NonC w w') {a : AV} {v : Value} (h : VR w g av a v) : VR w' g av a v := by
 cases a with
 | clo f caps =>
  obtain ⟨vs, h1, h2, h3⟩ := h
  exact ⟨vs, h1, h2, fun i hi => VR0_non hn (h3 i hi)⟩
 | cel s n =>
  obtain ⟨b, c, el, u, h1, h2, h3, h4, h5, h6⟩ := h
  exact ⟨b, c, el, u, h1, by rw [hn.size]; exact h2, h3, hn.cells _ _ _ _ h4, h5, h6⟩
 | _ => simp only [VR] at h ⊢; exact VR0_non hn h
theorem SlotR_non (hn : NonC w w') (s : Nat) {a : AV} {v : Value} (h : SlotR w g av s a v) : SlotR w' g av s a v := by
 cases a with
 | ow n t m x => exact ⟨h.1, RR_non hn s _ _ _ _ _ _ h.2⟩
 | box n u t m x =>
  obtain ⟨b, c, el, h1, h2, h3, h4, h5, h6⟩ := h
  exact ⟨b, c, el, h1, h2, hn.cells _ _ _ _ h3, h4, h5, RR_non hn s _ _ _ _ _ _ h6⟩
 | tup l =>
  obtain ⟨vs, h1, h2, h3⟩ := h
  refine ⟨vs, h1, h2, fun i hi => ?_⟩
  have h4 := h3 i hi
  cases ha : l.getD i .dead with
  | v t m x => rw [ha] at h4; exact ⟨h4.1, h4.2.1, RR_non hn 0 _ _ _ _ _ _ h4.2.2⟩
  | ow n t m x => rw [ha] at h4; exact ⟨h4.1, RR_non hn s _ _ _ _ _ _ h4.2⟩
  | _ => rw [ha] at h4; exact h4
 | app s' n p e nz me zs =>
  intro o ho
  obtain ⟨h1, h2, xs, h3, h4⟩ := h o ho
  refine ⟨h1, h2, xs, h3, ?_⟩
  rcases h4 with ⟨h5, h6⟩ | ⟨ad, cap, q1, q2, q3, q4, q5, q6, ⟨c, el, q7, q8⟩, q9⟩
  ·exact .inl ⟨h5, RR_non hn s _ _ _ _ _ _ h6⟩
  ·exact .inr ⟨ad, cap, q1, q2, q3, q4, q5, q6, ⟨c, el, hn.cells _ _ _ _ q7, q8⟩, fun i hi => by
    obtain ⟨cs, r1, r2⟩ := q9 i hi
    exact ⟨cs, fun j hj => by rw [hn.cell]; exact r1 j hj, RR_non hn 0 _ _ _ _ _ _ r2⟩⟩
 | ent s' n p k y b =>
  obtain ⟨born, v2, h1, h2⟩ := h
  refine ⟨born, v2, h1, fun o ho => ?_⟩
  obtain ⟨q1, e, m, x, B, c, j, es, en, v1, q2, q3, q4, q5, q6⟩ := h2 o ho
  exact ⟨q1, e, m, x, B, c, j, es, en, v1, q2, q3, q4, hn.maps _ _ _ q5, q6⟩
 | it s' n p k e l z =>
  obtain ⟨r, B, c, seen, h1, h2, h3, h4, h5⟩ := h
  refine ⟨r, B, c, seen, h1, h2, hn.iters _ _ _ _ _ h3, h4, fun o ho => ?_⟩
  obtain ⟨q1, m, x, es, q2, q3, q4, q5, q6⟩ := h5 o ho
  exact ⟨q1, m, x, es, q2, q3, q4, hn.maps _ _ _ q5, q6⟩
 | _ => simp only [SlotR] at h ⊢; exact VR_non hn h

theorem Inv_non {w0 w1 : World} {mu mu1 : Mu} {val : Nat → Value} {U : Nat → Prop} (h : Inv w0 mu av val U w g) (hn : NonC w w') (hc : ∀ b k, g.col b = some k → k = lentC ∨ w1.heap.size ≤ b ∨ mu1 b) (hf : Fr w1 mu1 w') (hfar : ∀ s, mu1.far s → mu.far s) (hl : ∀ b, mu1.L b → g.col b = some lentC) : Inv w1 mu1 av val U w' g :=
 ⟨fun s => SlotR_non hn s (h.slots s), h.stamps, fun b k hb => ⟨by rw [hn.size]; exact (h.cols b k hb).1, hc b k hb⟩, hf, fun s hs => h.far s (hfar s hs), hl⟩
theorem NonC.refl (w : World) : NonC w w := ⟨rfl, fun _ _ _ _ h => h, fun _ => rfl, fun _ _ _ h => h, fun _ _ _ _ _ h => h⟩
theorem NonC.trans {w w' w'' : World} (h : NonC w w') (k : NonC w' w'') : NonC w w'' := ⟨k.size.trans h.size, fun b c el fr hb => k.cells b c el fr (h.cells b c el fr hb), fun a => (k.cell a).trans (h.cell a), fun b es c hb => k.maps b es c (h.maps b es c hb), fun b m si se c hb => k.iters b m si se c (h.iters b m si se c hb)⟩
end
end Go.Ab

/-! A function's text, with walks backwards. -/
namespace Go.Ab

section
variable {P : Program} {T : Tab} {Φ : Nat → Option Contract} {st : St} {a : Act} {R : Type} {r : R}

def coll (D : Nat) : Deferred := { target := .collected D, args := #[] }

/-- what stands later: another base; blocks for calls that are put off -/
structure Later (w0 : World) (mu : Mu) (w1 : World) (mu1 : Mu) (Ds : List Nat) : Prop where
 fr : Fr w0 mu w1
 own : ∀ b, mu1 b → w0.heap.size ≤ b ∨ mu b
 lk : ∀ b, mu.L b → mu1.L b
 far : ∀ s, mu1.far s ↔ mu.far s
 pin : mu1.pin = mu.pin
 ds : ∀ D ∈ Ds, w0.heap.size ≤ D ∧ D < w1.heap.size ∧ ¬ mu1 D ∧ w1.heap[D]? = some (.deferred (some []))
 nd : Ds.Nodup
theorem Fr.refl (w : World) (mu : Mu) : Fr w mu w := ⟨rfl, rfl, rfl, Nat.le_refl _, fun _ _ _ => rfl⟩
theorem Fr.step {w0 w1 w : World} {mu mu1 : Mu} (h : Fr w0 mu w1) (ho : ∀ b, mu1 b → w0.heap.size ≤ b ∨ mu b) (k : Fr w1 mu1 w) : Fr w0 mu w :=
 ⟨k.os.trans h.os, k.tape.trans h.tape, k.output.trans h.output, Nat.le_trans h.size k.size, fun b hb hm => (k.old b (Nat.lt_of_lt_of_le hb h.size) fun h1 => (ho b h1).elim (fun h2 => by omega) hm).trans (h.old b hb hm)⟩
theorem Later.refl (w0 : World) (mu : Mu) : Later w0 mu w0 mu [] := ⟨Fr.refl _ _, fun _ h => .inr h, fun _ h => h, fun _ => Iff.rfl, rfl, fun _ h => (by cases h), List.nodup_nil⟩
theorem Later.frw {w0 w1 w : World} {mu mu1 : Mu} {Ds : List Nat} (h : Later w0 mu w1 mu1 Ds) (k : Fr w1 mu1 w) : Fr w0 mu w := h.fr.step h.own k
theorem Later.trans {w0 w1 w2 : World} {mu mu1 mu2 : Mu} {Ds Ds2 : List Nat} (h : Later w0 mu w1 mu1 Ds) (k : Later w1 mu1 w2 mu2 Ds2) : Later w0 mu w2 mu2 (Ds2 ++ Ds) := by
 refine ⟨h.frw k.fr, fun b hb => ?_, fun b hb => k.lk b (h.lk b hb), fun s => (k.far s).trans (h.far s), k.pin.trans h.pin, fun D hD => ?_, List.nodup_append.2 ⟨k.nd, h.nd, fun x hx y hy => by
  have h1 := (k.ds x hx).1
  have h2 := (h.ds y hy).2.1
  omega⟩⟩
 ·rcases k.own b hb with h1 | h1
  ·exact .inl (Nat.le_trans h.fr.size h1)
  ·exact h.own b h1
 ·rcases List.mem_append.1 hD with hD | hD
  ·obtain ⟨a1, a2, a3, a4⟩ := k.ds D hD
   exact ⟨Nat.le_trans h.fr.size a1, a2, a3, a4⟩
  ·obtain ⟨a1, a2, a3, a4⟩ := h.ds D hD
   refine ⟨a1, Nat.lt_of_lt_of_le a2 k.fr.size, fun h1 => (k.own D h1).elim (fun h2 => by omega) a3, (k.fr.old D a2 a3).trans a4⟩

theorem clrL_c : ∀ (l : List Nat) (st : St), (clrL l st).c = st.c
 | [], _ => rfl
 | s :: l, st => by rw [clrL, clrL_c l]; rfl
theorem clrL_dead : ∀ (l : List Nat) (st : St) (s : Nat), st.get s = .dead → (clrL l st).get s = .dead
 | [], _, _, h => h
 | u :: l, st, s, h => by
  rw [clrL]
  refine clrL_dead l _ s ?_
  rw [get_set]
  split
  ·rfl
  ·exact h
theorem clrL_get : ∀ (l : List Nat) (st : St) (s : Nat), (clrL l st).get s = if s ∈ l then .dead else st.get s
 | [], st, s => by simp [clrL]
 | u :: l, st, s => by
  rw [clrL]
  by_cases hs : s = u
  ·subst hs
   rw [clrL_dead l _ s (by rw [get_set, if_pos rfl]), if_pos (by simp)]
  ·rw [clrL_get l, get_set, if_neg hs]
   simp [hs]
theorem memB_iff {s : Nat} {l : List Nat} : memB s l = true ↔ s ∈ l := by
 unfold memB
 rw [List.any_eq_true]
 constructor
 ·rintro ⟨x, hx, h⟩
  have := Nat.eq_of_beq_eq_true h
  subst this; exact hx
 ·intro h; exact ⟨s, h, Nat.beq_refl s⟩
theorem memB_false {s : Nat} {l : List Nat} (h : (!memB s l) = true) : s ∉ l := fun hs => by rw [memB_iff.2 hs] at h; cases h

/-- slots are forgotten -/
theorem clr_inv {w0 w : World} {mu : Mu} {val val' : Nat → Value} {U : Nat → Prop} {g : Gh} (hI : Inv w0 mu st.get val U w g) (l : List Nat) (hv : ∀ s, s ∉ l → val' s = val s) : Inv w0 mu (clrL l st).get val' U w g := by
 refine Inv_upd hI (fun s => s ∈ l) (fun _ h => h) (Nat.le_refl _) (fun b l0 _ hb => ⟨rfl, hb⟩) (fun s hs => ⟨by rw [clrL_get, if_neg hs], hv s hs, fun b r _ => ⟨rfl, rfl⟩, fun _ => rfl, fun _ => rfl⟩) (fun s hs n _ o' ho' => ?_) (fun s hs n p _ o' ho' => ?_) (fun s hs => ?_) hI.cols hI.fr (fun s hs => clrL_dead _ _ _ (hI.far s hs)) (fun _ h => h) (.inl fun s hs n _ => ?_)
 ·rw [clrL_get, if_pos hs] at ho'; cases ho'
 ·rw [clrL_get, if_pos hs] at ho'; cases ho'
 ·rw [clrL_get, if_pos hs]; exact ⟨trivial, trivial⟩
 ·rw [clrL_get, if_pos hs]; rfl

/-- what owns something now may change; what is lent stays lent -/
def muR (g : Gh) (mu : Mu) (pin : Nat → Option Value) : Mu := { h := fun b => ∃ k, g.col b = some k ∧ k ≠ lentC, L := fun b => g.col b = some lentC, far := mu.far, hfar := mu.hfar, pin := pin }
theorem rebase {w0 w : World} {mu mu' : Mu} {av : Nat → AV} {val : Nat → Value} {U : Nat → Prop} {g : Gh} (h : Inv w0 mu av val U w g) {w' : World} (hn : NonC w w') (hfar : ∀ s, mu'.far s → mu.far s) (pin : Nat → Option Value) : Inv w' (muR g mu' pin) av val U w' g :=
 Inv_non h hn (fun b k hk => by
  by_cases hl : k = lentC
  ·exact .inl hl
  ·exact .inr (.inr ⟨k, hk, hl⟩)) (Fr.refl _ _) hfar (fun b hb => hb)

theorem unique_v {e : Ty} {v v' : Value} (h : shapeV e v) (h' : shapeV e v') (hc : v.cells.toList = v'.cells.toList) : v = v' := by
 have hc : v.cells = v'.cells := Array.toList_inj.1 hc
 unfold shapeV at h h'
 split at h
 ·rename_i he
  rw [he] at h'
  simp only at h'
  rw [h, h'] at hc
  simpa using hc
 ·rename_i he
  rw [he] at h'
  obtain ⟨cs, rfl, _⟩ := h
  obtain ⟨cs', rfl, _⟩ := h'
  have : cs = cs' := hc
  rw [this]

/-- reading what is only read, wherever that block is as it was -/
theorem read_of {w : World} {col : Nat → Option (Nat × List Stp)} {l : Bool} {e : Ty} {E : TypeId} (hT : TM P e E) {blk o : Nat} {x : den e} (h : RO w col l e (fun j => w.cell? ⟨blk, o + j, none⟩) 0 x) :
  ∃ v, shapeV e v ∧ (∀ W : World, W.heap[blk]? = w.heap[blk]? → (Instr.loadAt E (.pointer (some ⟨blk, o, none⟩))).run P W = .ok v W) ∧ ∀ j, j < sz e → v.cells[0 + j]? = w.cell? ⟨blk, o + j, none⟩ := by
 obtain ⟨cs, h7, h8, h9⟩ := RO_cells _ _ _ _ h
 simp only [Nat.zero_add] at h8
 obtain ⟨v, h10, h11, h12⟩ := load_run (w := w) hT (b := blk) (o := o) h7 h8 h9
 refine ⟨v, h11, fun W hW => ?_, fun j hj => ?_⟩
 ·obtain ⟨v', k10, k11, k12⟩ := load_run (w := W) hT (b := blk) (o := o) h7 (fun j c hc => by rw [cell?_congr hW]; exact h8 j c hc) h9
  rw [k10, unique_v h11 k11 (h12.trans k12.symm)]
 ·have : j < cs.length := by rw [h7]; exact hj
  have h13 := h8 j cs[j] (by simp [this])
  simp only [Nat.zero_add]
  rw [h13, ← Array.getElem?_toList, h12]; simp [this]

theorem backArg_some {st : St} {t : Nat} {k : (e : Ty) → Bool → List (den e) → Option R} (h : backArg T st t k = some r) : ∃ g e m x S, st.get t = .clo g [.rop (.sl e) m x] ∧ T.bk g = some (.gen S) ∧ T.ty S = some (.sl e) ∧ k e m.lent? x = some r := by
 unfold backArg at h
 split at h
 ·rename_i g e m x hg
  split at h
  ·rename_i S hS
   split at h
   ·rename_i ty hty
    obtain ⟨rfl, h'⟩ := sameTy_some h
    exact ⟨g, e, m, x, S, hg, hS, hty, h'⟩
   ·cases h
  ·cases h
 ·cases h

theorem enter_run {g : FuncId} (h : FnOK P g) (args us : Array Value) (w : World) : (invoke (.fn (.func g) us) args).run P w = .ok (.enter g (args ++ us)) w := by
 obtain ⟨F, b, h1, h2, h3⟩ := h
 have h4 : F.name ≠ "runtime.NumGoroutine" := by simpa using h2
 simp [invoke, callFunc, h1, h4, h3]

/-- the slots of a function that is over -/
theorem Vals_out {a : Act} {N s : Nat} (h : a.tmps.size = N) (hs : N ≤ s) : Vals a s = undef := by
 simp [Vals, Array.getD_eq_getD_getElem?, Array.getElem?_eq_none (by omega : a.tmps.size ≤ s)]

/-- where a walk's list lies -/
structure Walks (P : Program) (w : World) (col : Nat → Option (Nat × List Stp)) (S : TypeId) (e : Ty) (pv : Value) (x : List (den e)) (l : Bool) : Prop where
 at' : ∃ (ad0 : Addr) (ad : Option Addr) (cap : Nat), pv = .pointer (some ad0) ∧ ad0.spot = none ∧ ad0.block < w.heap.size ∧ shared col l ad0.block ∧ w.cell? ⟨ad0.block, ad0.off, none⟩ = some (.slice ad (List.length x) cap) ∧ List.length x ≤ cap ∧
  match ad with
  | none => x = [] ∧ cap = 0
  | some ad => cap = 0 ∨ (ad.spot = none ∧ ad.block < w.heap.size ∧ shared col l ad.block ∧ ∀ i, i < List.length x → RO w col l e (fun j => w.cell? ⟨ad.block, ad.off + i * sz e + j, none⟩) 0 (List.getD x i (dflt e)))

theorem walks_of {w : World} {g : Gh} {av : Nat → AV} {g0 : Nat} {e : Ty} {m : Md} {x : List (den e)} {v : Value} (S : TypeId) (h : VR w g av (.clo g0 [.rop (.sl e) m x]) v) : ∃ pv, v = .func (.func g0) #[] #[pv] ∧ Walks P w g.col S e pv x m.lent? := by
 obtain ⟨vs, h1, h2, h3⟩ := h
 have h4 := h3 0 (by simp)
 obtain ⟨l, nz, hm, ad0, k2, k3, k4, k5, k6, _⟩ := h4
 subst hm
 have hvs : vs = #[vs.getD 0 undef] := by
  apply Array.ext
  ·simpa using h2
  ·intro i hi hi2
   have : i = 0 := by simp at hi2; omega
   subst this
   simp [Array.getD, hi]
 refine ⟨vs.getD 0 undef, by rw [h1, ← hvs], ⟨ad0, ?_⟩⟩
 simp only [RO] at k6
 obtain ⟨ad, cap, q1, q2, q3⟩ := k6
 refine ⟨ad, cap, k2, k3, k4, k5, by simpa using q1, q2, ?_⟩
 cases ad with
 | none => exact q3
 | some ad => exact q3
end
end Go.Ab
