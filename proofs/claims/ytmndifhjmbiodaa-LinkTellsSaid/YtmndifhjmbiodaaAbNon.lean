/- What is no cells may change: the invariant does not look at it. -/
import Derived.Test.YtmndifhjmbiodaaAbCode
import Derived.Test.YtmndifhjmbiodaaAbGen
import Derived.RangeFuncOwn
namespace Go.Ab

/-- all cells and all maps are as they were -/
structure NonC (w w' : World) : Prop where
  size : w'.heap.size = w.heap.size
  cells : ∀ (b : Nat) (c : Array Value) (el : TypeId) (fr : Nat × Nat), w.heap[b]? = some (Obj.cells c el fr) → w'.heap[b]? = some (Obj.cells c el fr)
  cell : ∀ a : Addr, w'.cell? a = w.cell? a
  maps : ∀ (b : Nat) (es : Array MapEntry) (c : Nat), w.heap[b]? = some (Obj.map es c) → w'.heap[b]? = some (Obj.map es c)

theorem NonC.putObj {W : World} {l : Nat} {o o' : Obj} (h : W.heap[l]? = some o) (ho : o.isCells = false) (ho' : o'.isCells = false) (hm : ∀ es c, o ≠ .map es c) : NonC W (W.putObj l o') := by
  have hl : l < W.heap.size := (Array.getElem?_eq_some_iff.1 h).1
  refine ⟨by simp, fun b c el fr hb => ?_, fun a => ?_, fun b es c hb => ?_⟩
  · by_cases hbl : b = l
    · subst hbl; rw [h] at hb; cases hb; cases ho
    · rw [World.putObj_heap_other hbl]; exact hb
  · unfold World.cell?
    by_cases hbl : a.block = l
    · rw [hbl, World.putObj_heap_same hl, h]
      cases o <;> first | (cases ho; done) | (cases o' <;> first | (cases ho'; done) | rfl)
    · rw [World.putObj_heap_other hbl]
  · by_cases hbl : b = l
    · subst hbl; rw [h] at hb; cases hb; exact absurd rfl (hm _ _)
    · rw [World.putObj_heap_other hbl]; exact hb

section
variable {w w' : World} {g : Gh} {av : Nat → AV}

theorem RO_non (hn : NonC w w') {col : Nat → Option (Nat × List Stp)} {l : Bool} : ∀ (t : Ty) (rd rd' : Nat → Option Value) (k : Nat) (x : den t), (∀ j, rd' j = rd j) → RO w col l t rd k x → RO w' col l t rd' k x := by
  intro t
  induction t with
  | int kd => intro rd rd' k x hr h; simp only [RO] at *; rw [hr]; exact h
  | bool => intro rd rd' k x hr h; simp only [RO] at *; rw [hr]; exact h
  | unit => intros; trivial
  | mp kt et _ _ =>
    intro rd rd' k x hr h
    simp only [RO] at *
    obtain ⟨r, h1, h2⟩ := h
    refine ⟨r, by rw [hr]; exact h1, ?_⟩
    cases r with
    | none => exact h2
    | some b =>
      obtain ⟨h3, h4, es, c, h5, h6⟩ := h2
      exact ⟨by rw [hn.size]; exact h3, h4, es, c, hn.maps _ _ _ h5, h6⟩
  | bx e ih =>
    intro rd rd' k x hr h
    simp only [RO] at *
    obtain ⟨r, h1, h2⟩ := h
    refine ⟨r, by rw [hr]; exact h1, ?_⟩
    match r, x, h2 with
    | none, none, _ => trivial
    | some ad, some y, h2 => exact ⟨h2.1, by rw [hn.size]; exact h2.2.1, h2.2.2.1, ih _ _ _ _ (fun j => hn.cell _) h2.2.2.2⟩
  | pair a b iha ihb =>
    intro rd rd' k x hr h
    simp only [RO] at *
    exact ⟨h.1, h.2.1, iha _ _ _ _ hr h.2.2.1, ihb _ _ _ _ hr h.2.2.2⟩
  | sl e ih =>
    intro rd rd' k x hr h
    simp only [RO] at *
    obtain ⟨a, cap, h1, h2, h3⟩ := h
    refine ⟨a, cap, by rw [hr]; exact h1, h2, ?_⟩
    cases a with
    | none => exact h3
    | some ad =>
      rcases h3 with h3 | ⟨h4, h5, h6, h7⟩
      · exact .inl h3
      · exact .inr ⟨h4, by rw [hn.size]; exact h5, h6, fun i hi => ih _ _ _ _ (fun j => hn.cell _) (h7 i hi)⟩

theorem rdS_non (hn : NonC w w') (src : Src) (j : Nat) : rdS w' src j = rdS w src j := by
  cases src with
  | mem b off => exact hn.cell _
  | val cs => rfl

theorem RR_non (hn : NonC w w') (s : Nat) : ∀ (t : Ty) (m : Md) (p : List Stp) (src : Src) (k : Nat) (x : den t), RR w g s t m p src k x → RR w' g s t m p src k x := by
  intro t
  induction t with
  | int kd => intro m p src k x h; simp only [RR] at *; rw [rdS_non hn]; exact h
  | bool => intro m p src k x h; simp only [RR] at *; rw [rdS_non hn]; exact h
  | unit => intros; trivial
  | mp kt et _ _ =>
    intro m p src k x h
    cases hm : m.isOwn with
    | true =>
      simp only [RR, hm] at *
      obtain ⟨r, h1, h2, h3⟩ := h
      refine ⟨r, by rw [rdS_non hn]; exact h1, h2, ?_⟩
      cases r with
      | none => exact h3
      | some b =>
        obtain ⟨h4, h5, es, c, h6, h7⟩ := h3
        exact ⟨h4, h5, es, c, hn.maps _ _ _ h6, h7⟩
    | false =>
      simp only [RR, hm] at *
      exact RO_non hn _ _ _ _ _ (rdS_non hn src) h
  | bx e ih =>
    intro m p src k x h
    cases hm : m.isOwn with
    | true =>
      simp only [RR, hm] at *
      obtain ⟨r, h1, h3⟩ := h
      refine ⟨r, by rw [rdS_non hn]; exact h1, ?_⟩
      match r, x, h3 with
      | none, none, _ => trivial
      | some ad, some y, h3 =>
        obtain ⟨h4, h5, h6, ⟨c, el, h7, h8⟩, h9, h10⟩ := h3
        exact ⟨h4, h5, h6, ⟨c, el, hn.cells _ _ _ _ h7, h8⟩, h9, ih _ _ _ _ _ h10⟩
    | false =>
      simp only [RR, hm] at *
      exact RO_non hn _ _ _ _ _ (rdS_non hn src) h
  | pair a b iha ihb =>
    intro m p src k x h
    simp only [RR] at *
    exact ⟨h.1, h.2.1, h.2.2.1, iha _ _ _ _ _ h.2.2.2.1, ihb _ _ _ _ _ h.2.2.2.2⟩
  | sl e ih =>
    intro m p src k x h
    cases hm : m.isOwn with
    | true =>
      simp only [RR, hm] at *
      obtain ⟨a, cap, h1, h2, h3, h4, h5⟩ := h
      refine ⟨a, cap, by rw [rdS_non hn]; exact h1, h2, h3, h4, ?_⟩
      cases a with
      | none => exact h5
      | some ad =>
        obtain ⟨h6, h7, ⟨c, el, h8, h9⟩, h10⟩ := h5
        exact ⟨h6, h7, ⟨c, el, hn.cells _ _ _ _ h8, h9⟩, fun i hi => ⟨(h10 i hi).1, ih _ _ _ _ _ (h10 i hi).2⟩⟩
    | false =>
      simp only [RR, hm] at *
      exact ⟨RO_non hn _ _ _ _ _ (rdS_non hn src) h.1, fun hz hx => by obtain ⟨l, c, h1⟩ := h.2 hz hx; exact ⟨l, c, by rw [rdS_non hn]; exact h1⟩⟩

theorem nzP_non {t : Ty} {rd rd' : Nat → Option Value} {x : den t} (hr : ∀ j, rd' j = rd j) (h : nzP t rd x) : nzP t rd' x := by
  cases t with
  | sl e => intro hx; obtain ⟨l, c, h1⟩ := h hx; exact ⟨l, c, by rw [hr]; exact h1⟩
  | _ => trivial

theorem VR0_non (hn : NonC w w') {a : AV} {v : Value} (h : VR0 w g av a v) : VR0 w' g av a v := by
  cases a with
  | v t m x => exact ⟨h.1, h.2.1, RR_non hn 0 _ _ _ _ _ _ h.2.2⟩
  | rop t m x =>
    obtain ⟨l, nz, h1, ad, h2, h3, h4, h5, h6, h7⟩ := h
    exact ⟨l, nz, h1, ad, h2, h3, by rw [hn.size]; exact h4, h5, RO_non hn _ _ _ _ _ (fun j => hn.cell _) h6, fun hz => nzP_non (fun j => hn.cell _) (h7 hz)⟩
  | _ => exact h
theorem VR_non (hn : NonC w w') {a : AV} {v : Value} (h : VR w g av a v) : VR w' g av a v := by
  cases a with
  | clo f caps =>
    obtain ⟨vs, h1, h2, h3⟩ := h
    exact ⟨vs, h1, h2, fun i hi => VR0_non hn (h3 i hi)⟩
  | _ => simp only [VR] at h ⊢; exact VR0_non hn h
theorem SlotR_non (hn : NonC w w') (s : Nat) {a : AV} {v : Value} (h : SlotR w g av s a v) : SlotR w' g av s a v := by
  cases a with
  | ow n t m x => exact ⟨h.1, RR_non hn s _ _ _ _ _ _ h.2⟩
  | box n u t m x =>
    obtain ⟨b, c, el, h1, h2, h3, h4, h5, h6⟩ := h
    exact ⟨b, c, el, h1, h2, hn.cells _ _ _ _ h3, h4, h5, RR_non hn s _ _ _ _ _ _ h6⟩
  | tup l =>
    obtain ⟨vs, h1, h2, h3⟩ := h
    refine ⟨vs, h1, h2, fun i hi => ?_⟩
    have h4 := h3 i hi
    cases ha : l.getD i .dead with
    | v t m x => rw [ha] at h4; exact ⟨h4.1, h4.2.1, RR_non hn 0 _ _ _ _ _ _ h4.2.2⟩
    | ow n t m x => rw [ha] at h4; exact ⟨h4.1, RR_non hn s _ _ _ _ _ _ h4.2⟩
    | _ => rw [ha] at h4; exact h4
  | app s' n p e nz me zs =>
    intro o ho
    obtain ⟨h1, h2, xs, h3, h4⟩ := h o ho
    refine ⟨h1, h2, xs, h3, ?_⟩
    rcases h4 with ⟨h5, h6⟩ | ⟨ad, cap, q1, q2, q3, q4, q5, q6, ⟨c, el, q7, q8⟩, q9⟩
    · exact .inl ⟨h5, RR_non hn s _ _ _ _ _ _ h6⟩
    · exact .inr ⟨ad, cap, q1, q2, q3, q4, q5, q6, ⟨c, el, hn.cells _ _ _ _ q7, q8⟩, fun i hi => by
        obtain ⟨cs, r1, r2⟩ := q9 i hi
        exact ⟨cs, fun j hj => by rw [hn.cell]; exact r1 j hj, RR_non hn 0 _ _ _ _ _ _ r2⟩⟩
  | ent s' n p k y b =>
    obtain ⟨born, v2, h1, h2⟩ := h
    refine ⟨born, v2, h1, fun o ho => ?_⟩
    obtain ⟨q1, e, m, x, B, c, j, es, en, v1, q2, q3, q4, q5, q6⟩ := h2 o ho
    exact ⟨q1, e, m, x, B, c, j, es, en, v1, q2, q3, q4, hn.maps _ _ _ q5, q6⟩
  | _ => simp only [SlotR] at h ⊢; exact VR_non hn h

theorem Inv_non {w0 w1 : World} {mu mu1 : Mu} {val : Nat → Value} {U : Nat → Prop} (h : Inv w0 mu av val U w g) (hn : NonC w w') (hc : ∀ b k, g.col b = some k → k = lentC ∨ w1.heap.size ≤ b ∨ mu1 b) (hf : Fr w1 mu1 w') (hfar : ∀ s, mu1.far s → mu.far s) (hl : ∀ b, mu1.L b → g.col b = some lentC) : Inv w1 mu1 av val U w' g :=
  ⟨fun s => SlotR_non hn s (h.slots s), h.stamps, fun b k hb => ⟨by rw [hn.size]; exact (h.cols b k hb).1, hc b k hb⟩, hf, fun s hs => h.far s (hfar s hs), hl⟩
theorem NonC.refl (w : World) : NonC w w := ⟨rfl, fun _ _ _ _ h => h, fun _ => rfl, fun _ _ _ h => h⟩
theorem NonC.trans {w w' w'' : World} (h : NonC w w') (k : NonC w' w'') : NonC w w'' := ⟨k.size.trans h.size, fun b c el fr hb => k.cells b c el fr (h.cells b c el fr hb), fun a => (k.cell a).trans (h.cell a), fun b es c hb => k.maps b es c (h.maps b es c hb)⟩
end
end Go.Ab
