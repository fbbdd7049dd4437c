/- A function's text, with walks backwards. -/
import Derived.Test.YtmndifhjmbiodaaAbNon
namespace Go.Ab

section
variable {P : Program} {T : Tab} {Φ : Nat → Option Contract} {st : St} {a : Act} {R : Type} {r : R}

def coll (D : Nat) : Deferred := { target := .collected D, args := #[] }

/-- what stands later: another base; blocks for calls that are put off -/
structure Later (w0 : World) (mu : Mu) (w1 : World) (mu1 : Mu) (Ds : List Nat) : Prop where
  fr : Fr w0 mu w1
  own : ∀ b, mu1 b → w0.heap.size ≤ b ∨ mu b
  lk : ∀ b, mu.L b → mu1.L b
  far : ∀ s, mu1.far s ↔ mu.far s
  pin : mu1.pin = mu.pin
  ds : ∀ D ∈ Ds, w0.heap.size ≤ D ∧ D < w1.heap.size ∧ ¬ mu1 D ∧ w1.heap[D]? = some (.deferred (some []))
  nd : Ds.Nodup
theorem Fr.refl (w : World) (mu : Mu) : Fr w mu w := ⟨rfl, rfl, rfl, Nat.le_refl _, fun _ _ _ => rfl⟩
theorem Fr.step {w0 w1 w : World} {mu mu1 : Mu} (h : Fr w0 mu w1) (ho : ∀ b, mu1 b → w0.heap.size ≤ b ∨ mu b) (k : Fr w1 mu1 w) : Fr w0 mu w :=
  ⟨k.os.trans h.os, k.tape.trans h.tape, k.output.trans h.output, Nat.le_trans h.size k.size, fun b hb hm => (k.old b (Nat.lt_of_lt_of_le hb h.size) fun h1 => (ho b h1).elim (fun h2 => by omega) hm).trans (h.old b hb hm)⟩
theorem Later.refl (w0 : World) (mu : Mu) : Later w0 mu w0 mu [] := ⟨Fr.refl _ _, fun _ h => .inr h, fun _ h => h, fun _ => Iff.rfl, rfl, fun _ h => (by cases h), List.nodup_nil⟩
theorem Later.frw {w0 w1 w : World} {mu mu1 : Mu} {Ds : List Nat} (h : Later w0 mu w1 mu1 Ds) (k : Fr w1 mu1 w) : Fr w0 mu w := h.fr.step h.own k
theorem Later.trans {w0 w1 w2 : World} {mu mu1 mu2 : Mu} {Ds Ds2 : List Nat} (h : Later w0 mu w1 mu1 Ds) (k : Later w1 mu1 w2 mu2 Ds2) : Later w0 mu w2 mu2 (Ds2 ++ Ds) := by
  refine ⟨h.frw k.fr, fun b hb => ?_, fun b hb => k.lk b (h.lk b hb), fun s => (k.far s).trans (h.far s), k.pin.trans h.pin, fun D hD => ?_, List.nodup_append.2 ⟨k.nd, h.nd, fun x hx y hy => by
    have h1 := (k.ds x hx).1
    have h2 := (h.ds y hy).2.1
    omega⟩⟩
  · rcases k.own b hb with h1 | h1
    · exact .inl (Nat.le_trans h.fr.size h1)
    · exact h.own b h1
  · rcases List.mem_append.1 hD with hD | hD
    · obtain ⟨a1, a2, a3, a4⟩ := k.ds D hD
      exact ⟨Nat.le_trans h.fr.size a1, a2, a3, a4⟩
    · obtain ⟨a1, a2, a3, a4⟩ := h.ds D hD
      refine ⟨a1, Nat.lt_of_lt_of_le a2 k.fr.size, fun h1 => (k.own D h1).elim (fun h2 => by omega) a3, (k.fr.old D a2 a3).trans a4⟩

theorem clrL_c : ∀ (l : List Nat) (st : St), (clrL l st).c = st.c
  | [], _ => rfl
  | s :: l, st => by rw [clrL, clrL_c l]; rfl
theorem clrL_dead : ∀ (l : List Nat) (st : St) (s : Nat), st.get s = .dead → (clrL l st).get s = .dead
  | [], _, _, h => h
  | u :: l, st, s, h => by
    rw [clrL]
    refine clrL_dead l _ s ?_
    rw [get_set]
    split
    · rfl
    · exact h
theorem clrL_get : ∀ (l : List Nat) (st : St) (s : Nat), (clrL l st).get s = if s ∈ l then .dead else st.get s
  | [], st, s => by simp [clrL]
  | u :: l, st, s => by
    rw [clrL]
    by_cases hs : s = u
    · subst hs
      rw [clrL_dead l _ s (by rw [get_set, if_pos rfl]), if_pos (by simp)]
    · rw [clrL_get l, get_set, if_neg hs]
      simp [hs]
theorem memB_iff {s : Nat} {l : List Nat} : memB s l = true ↔ s ∈ l := by
  unfold memB
  rw [List.any_eq_true]
  constructor
  · rintro ⟨x, hx, h⟩
    have := Nat.eq_of_beq_eq_true h
    subst this; exact hx
  · intro h; exact ⟨s, h, Nat.beq_refl s⟩
theorem memB_false {s : Nat} {l : List Nat} (h : (!memB s l) = true) : s ∉ l := fun hs => by rw [memB_iff.2 hs] at h; cases h

/-- slots are forgotten -/
theorem clr_inv {w0 w : World} {mu : Mu} {val val' : Nat → Value} {U : Nat → Prop} {g : Gh} (hI : Inv w0 mu st.get val U w g) (l : List Nat) (hv : ∀ s, s ∉ l → val' s = val s) : Inv w0 mu (clrL l st).get val' U w g := by
  refine Inv_upd hI (fun s => s ∈ l) (fun _ h => h) (Nat.le_refl _) (fun b l0 _ hb => ⟨rfl, hb⟩) (fun s hs => ⟨by rw [clrL_get, if_neg hs], hv s hs, fun b r _ => ⟨rfl, rfl⟩, fun _ => rfl, fun _ => rfl⟩) (fun s hs n _ o' ho' => ?_) (fun s hs n p _ o' ho' => ?_) (fun s hs => ?_) hI.cols hI.fr (fun s hs => clrL_dead _ _ _ (hI.far s hs)) (fun _ h => h) (.inl fun s hs n _ => ?_)
  · rw [clrL_get, if_pos hs] at ho'; cases ho'
  · rw [clrL_get, if_pos hs] at ho'; cases ho'
  · rw [clrL_get, if_pos hs]; exact ⟨trivial, trivial⟩
  · rw [clrL_get, if_pos hs]; rfl

/-- what owns something now may change; what is lent stays lent -/
def muR (g : Gh) (mu : Mu) (pin : Nat → Option Value) : Mu := { h := fun b => ∃ k, g.col b = some k ∧ k ≠ lentC, L := fun b => g.col b = some lentC, far := mu.far, hfar := mu.hfar, pin := pin }
theorem rebase {w0 w : World} {mu mu' : Mu} {av : Nat → AV} {val : Nat → Value} {U : Nat → Prop} {g : Gh} (h : Inv w0 mu av val U w g) {w' : World} (hn : NonC w w') (hfar : ∀ s, mu'.far s → mu.far s) (pin : Nat → Option Value) : Inv w' (muR g mu' pin) av val U w' g :=
  Inv_non h hn (fun b k hk => by
    by_cases hl : k = lentC
    · exact .inl hl
    · exact .inr (.inr ⟨k, hk, hl⟩)) (Fr.refl _ _) hfar (fun b hb => hb)

theorem unique_v {e : Ty} {v v' : Value} (h : shapeV e v) (h' : shapeV e v') (hc : v.cells.toList = v'.cells.toList) : v = v' := by
  have hc : v.cells = v'.cells := Array.toList_inj.1 hc
  unfold shapeV at h h'
  split at h
  · rename_i he
    rw [he] at h'
    simp only at h'
    rw [h, h'] at hc
    simpa using hc
  · rename_i he
    rw [he] at h'
    obtain ⟨cs, rfl, _⟩ := h
    obtain ⟨cs', rfl, _⟩ := h'
    have : cs = cs' := hc
    rw [this]

/-- reading what is only read, wherever that block is as it was -/
theorem read_of {w : World} {col : Nat → Option (Nat × List Stp)} {l : Bool} {e : Ty} {E : TypeId} (hT : TM P e E) {blk o : Nat} {x : den e} (h : RO w col l e (fun j => w.cell? ⟨blk, o + j, none⟩) 0 x) :
    ∃ v, shapeV e v ∧ (∀ W : World, W.heap[blk]? = w.heap[blk]? → (Instr.loadAt E (.pointer (some ⟨blk, o, none⟩))).run P W = .ok v W) ∧ ∀ j, j < sz e → v.cells[0 + j]? = w.cell? ⟨blk, o + j, none⟩ := by
  obtain ⟨cs, h7, h8, h9⟩ := RO_cells _ _ _ _ h
  simp only [Nat.zero_add] at h8
  obtain ⟨v, h10, h11, h12⟩ := load_run (w := w) hT (b := blk) (o := o) h7 h8 h9
  refine ⟨v, h11, fun W hW => ?_, fun j hj => ?_⟩
  · obtain ⟨v', k10, k11, k12⟩ := load_run (w := W) hT (b := blk) (o := o) h7 (fun j c hc => by rw [cell?_congr hW]; exact h8 j c hc) h9
    rw [k10, unique_v h11 k11 (h12.trans k12.symm)]
  · have : j < cs.length := by rw [h7]; exact hj
    have h13 := h8 j cs[j] (by simp [this])
    simp only [Nat.zero_add]
    rw [h13, ← Array.getElem?_toList, h12]; simp [this]

theorem backArg_some {st : St} {t : Nat} {k : (e : Ty) → Bool → List (den e) → Option R} (h : backArg T st t k = some r) : ∃ g e m x S, st.get t = .clo g [.rop (.sl e) m x] ∧ T.bk g = some (.gen S) ∧ T.ty S = some (.sl e) ∧ k e m.lent? x = some r := by
  unfold backArg at h
  split at h
  · rename_i g e m x hg
    split at h
    · rename_i S hS
      split at h
      · rename_i ty hty
        obtain ⟨rfl, h'⟩ := sameTy_some h
        exact ⟨g, e, m, x, S, hg, hS, hty, h'⟩
      · cases h
    · cases h
  · cases h

theorem enter_run {g : FuncId} (h : FnOK P g) (args us : Array Value) (w : World) : (invoke (.fn (.func g) us) args).run P w = .ok (.enter g (args ++ us)) w := by
  obtain ⟨F, b, h1, h2, h3⟩ := h
  have h4 : F.name ≠ "runtime.NumGoroutine" := by simpa using h2
  simp [invoke, callFunc, h1, h4, h3]

/-- the slots of a function that is over -/
theorem Vals_out {a : Act} {N s : Nat} (h : a.tmps.size = N) (hs : N ≤ s) : Vals a s = undef := by
  simp [Vals, Array.getD_eq_getD_getElem?, Array.getElem?_eq_none (by omega : a.tmps.size ≤ s)]

/-- where a walk's list lies -/
structure Walks (P : Program) (w : World) (col : Nat → Option (Nat × List Stp)) (S : TypeId) (e : Ty) (pv : Value) (x : List (den e)) (l : Bool) : Prop where
  at' : ∃ (ad0 : Addr) (ad : Option Addr) (cap : Nat), pv = .pointer (some ad0) ∧ ad0.spot = none ∧ ad0.block < w.heap.size ∧ shared col l ad0.block ∧ w.cell? ⟨ad0.block, ad0.off, none⟩ = some (.slice ad (List.length x) cap) ∧ List.length x ≤ cap ∧
    match ad with
    | none => x = [] ∧ cap = 0
    | some ad => cap = 0 ∨ (ad.spot = none ∧ ad.block < w.heap.size ∧ shared col l ad.block ∧ ∀ i, i < List.length x → RO w col l e (fun j => w.cell? ⟨ad.block, ad.off + i * sz e + j, none⟩) 0 (List.getD x i (dflt e)))

theorem walks_of {w : World} {g : Gh} {av : Nat → AV} {g0 : Nat} {e : Ty} {m : Md} {x : List (den e)} {v : Value} (S : TypeId) (h : VR w g av (.clo g0 [.rop (.sl e) m x]) v) : ∃ pv, v = .func (.func g0) #[] #[pv] ∧ Walks P w g.col S e pv x m.lent? := by
  obtain ⟨vs, h1, h2, h3⟩ := h
  have h4 := h3 0 (by simp)
  obtain ⟨l, nz, hm, ad0, k2, k3, k4, k5, k6, _⟩ := h4
  subst hm
  have hvs : vs = #[vs.getD 0 undef] := by
    apply Array.ext
    · simpa using h2
    · intro i hi hi2
      have : i = 0 := by simp at hi2; omega
      subst this
      simp [Array.getD, hi]
  refine ⟨vs.getD 0 undef, by rw [h1, ← hvs], ⟨ad0, ?_⟩⟩
  simp only [RO] at k6
  obtain ⟨ad, cap, q1, q2, q3⟩ := k6
  refine ⟨ad, cap, k2, k3, k4, k5, by simpa using q1, q2, ?_⟩
  cases ad with
  | none => exact q3
  | some ad => exact q3
end
end Go.Ab
