/- Owned parts move from slot to slot; a slot gets a new value. -/
import Derived.Test.YtmndifhjmbiodaaAbInv
namespace Go.Ab

def strip : List Stp → List Stp → Option (List Stp)
  | [], q => some q
  | a :: p, b :: q => if a = b then strip p q else none
  | _ :: _, [] => none
theorem strip_app (p r : List Stp) : strip p (p ++ r) = some r := by
  induction p with
  | nil => rfl
  | cons a p ih => simp [strip, ih]
theorem strip_some : ∀ {p q r : List Stp}, strip p q = some r → q = p ++ r
  | [], q, r, h => by simp [strip] at h; simp [h]
  | a :: p, b :: q, r, h => by
    simp only [strip] at h
    split at h
    · rename_i hab; subst hab; simp [strip_some h]
    · cases h
  | _ :: _, [], r, h => by simp [strip] at h

def newCol (m : Md) (c : Nat × List Stp) : Option (Nat × List Stp) := match m with
  | .own _ _ => some c
  | .bor true _ => some lentC
  | _ => none
theorem newCol_newc {col : Nat → Option (Nat × List Stp)} {m : Md} {c : Nat × List Stp} {b : Nat} (h : col b = newCol m c) : newc col m c b := by
  cases m with
  | own => exact h
  | bor l nz => cases l with
    | true => exact .inr ⟨rfl, h⟩
    | false => exact .inl h
  | pair => exact .inl h

/-- what lies at (s0, p0) now lies at (d, p'), in mode m -/
def Gh.move (g : Gh) (s0 : Nat) (p0 : List Stp) (d : Nat) (p' : List Stp) (m : Md) : Gh where
  col b := match g.col b with
    | some (s, q) => if s = s0 then (match strip p0 q with | some r => newCol (mdAt m r) (d, p' ++ r) | none => none) else some (s, q)
    | none => none
  H s q := if s = d then (match strip p' q with | some r => g.H s0 (p0 ++ r) | none => g.H s q) else g.H s q
  A s q := if s = d then (match strip p' q with | some r => if r = [] then g.A s q else g.A s0 (p0 ++ r) | none => g.A s q) else g.A s q

theorem move_shared {g : Gh} {s0 d : Nat} {p0 p' : List Stp} {m : Md} (hs : s0 ≠ lentC.1) {b : Nat} {l : Bool} (h : shared g.col l b) : shared (g.move s0 p0 d p' m).col l b := by
  rcases h with h | ⟨h, h'⟩
  · left; simp [Gh.move, h]
  · right; refine ⟨h, ?_⟩
    simp only [Gh.move, h']
    rw [if_neg (fun h => hs h.symm)]

theorem RR_move {w w' : World} {g : Gh} {s0 d : Nat} {p0 p' : List Stp} {t : Ty} {m0 m : Md} {src src' : Src} {k : Nat} {x : den t} (hs : s0 ≠ lentC.1)
    (hsz : w.heap.size ≤ w'.heap.size) (hw : ∀ b, b < w.heap.size → w'.heap[b]? = w.heap[b]?) (hlt : ∀ b k, g.col b = some k → b < w.heap.size)
    (h : RR w g s0 t m0 p0 src k x) (hle : leM t k m0 m = true) (hsrc : ∀ b off, src' = .mem b off → src = .mem b off) (hrd : ∀ j, j < sz t → rdS w' src' (k + j) = rdS w src (k + j)) :
    RR w' (g.move s0 p0 d p' m) d t m p' src' k x := by
  refine RR_conv hsz (fun b l0 hb h => ⟨hw b hb, move_shared hs h⟩) t m0 m p0 p' src src' k x h hle ?_ ?_ ?_ hsrc hrd
  · intro b r hb
    refine ⟨hw b (hlt _ _ hb), newCol_newc ?_⟩
    simp only [Gh.move, hb, if_true, strip_app]
  · intro r; simp only [Gh.move, if_true, strip_app]
  · intro r hr; simp only [Gh.move, if_true, strip_app, hr, if_false]

/-- Slot d gets a new value; slot s0 is dead then (what it owned has gone elsewhere). -/
theorem Inv_put {w0 w w' : World} {mu : Mu} {av : Nat → AV} {val : Nat → Value} {U U' : Nat → Prop} {g g' : Gh} (h : Inv w0 mu av val U w g) (s0 d : Nat) (a : AV) (v : Value)
    (hc : ∀ n, U n → U' n) (hsz : w.heap.size ≤ w'.heap.size)
    (hsh : ∀ b l0, b < w.heap.size → shared g.col l0 b → w'.heap[b]? = w.heap[b]? ∧ shared g'.col l0 b)
    (hun : ∀ b s r, g.col b = some (s, r) → s ≠ d → s ≠ s0 → w'.heap[b]? = w.heap[b]? ∧ g'.col b = g.col b)
    (hH : ∀ s, s ≠ d → s ≠ s0 → ∀ p, g'.H s p = g.H s p) (hA : ∀ s, s ≠ d → s ≠ s0 → ∀ p, g'.A s p = g.A s p)
    (hnew : SlotR w' g' (fun t => if t = d then a else if t = s0 then .dead else av t) d a v) (hst : stampOK U' a)
    (hf : ∀ n, U n → own? a n = none) (hf' : ∀ n p, U n → ownP? a n p = none)
    (hcols : ∀ b k, g'.col b = some k → b < w'.heap.size ∧ (k = lentC ∨ w0.heap.size ≤ b ∨ mu b)) (hfr : Fr w0 mu w') (hd : ¬ mu.far d) (hlk : ∀ b, g.col b = some lentC → g'.col b = some lentC) :
    Inv w0 mu (fun t => if t = d then a else if t = s0 then .dead else av t) (fun t => if t = d then v else val t) U' w' g' := by
  refine Inv_upd h (fun s => s = d ∨ s = s0) hc hsz hsh ?_ ?_ ?_ ?_ hcols hfr (fun s hs => ?_) hlk (.inl fun s hs n hn => by
    by_cases h1 : s = d
    · subst h1; simpa using hf n hn
    · have h2 := hs.resolve_left h1
      subst h2; simp [h1, own?])
  case refine_5 =>
    have h1 : s ≠ d := fun h => hd (h ▸ hs)
    simp only [h1, if_false, h.far s hs]
    split <;> rfl
  · intro s hs
    have hs1 : s ≠ d := fun h => hs (.inl h)
    have hs2 : s ≠ s0 := fun h => hs (.inr h)
    exact ⟨by simp [hs1, hs2], by simp [hs1], fun b r hb => hun b s r hb hs1 hs2, hH s hs1 hs2, hA s hs1 hs2⟩
  · intro s hs n hn o' ho'
    by_cases h1 : s = d
    · subst h1; simp only [if_true] at ho'; rw [hf n hn] at ho'; cases ho'
    · have h2 : s = s0 := hs.resolve_left h1
      subst h2
      simp only [h1, if_false, if_true, own?] at ho'
      cases ho'
  · intro s hs n p hn o' ho'
    by_cases h1 : s = d
    · subst h1; simp only [if_true] at ho'; rw [hf' n p hn] at ho'; cases ho'
    · have h2 : s = s0 := hs.resolve_left h1
      subst h2
      simp only [h1, if_false, if_true, ownP?] at ho'
      cases ho'
  · intro s hs
    by_cases h1 : s = d
    · subst h1; simpa using ⟨hnew, hst⟩
    · have h2 : s = s0 := hs.resolve_left h1
      subst h2
      simp only [h1, if_false, if_true]
      exact ⟨trivial, trivial⟩

theorem move_cols {g : Gh} {s0 d : Nat} {p0 p' : List Stp} {m : Md} {Q R : Nat → Prop} (hs : s0 ≠ lentC.1) (h : ∀ b k, g.col b = some k → Q b ∧ (k = lentC ∨ R b)) :
    ∀ b k, (g.move s0 p0 d p' m).col b = some k → Q b ∧ (k = lentC ∨ R b) := by
  intro b k hk
  simp only [Gh.move] at hk
  cases hb : g.col b with
  | none => rw [hb] at hk; cases hk
  | some c =>
    obtain ⟨s, q⟩ := c
    rw [hb] at hk
    simp only at hk
    split at hk
    · rename_i hs0
      subst hs0
      obtain ⟨h1, h2⟩ := h b _ hb
      exact ⟨h1, .inr (h2.resolve_left fun h => hs (by rw [← h]))⟩
    · simp only [Option.some.injEq] at hk; subst hk; exact h b _ hb

theorem move_lk {g : Gh} {s0 d : Nat} {p0 p' : List Stp} {m : Md} (hs : s0 ≠ lentC.1) {b : Nat} (h : g.col b = some lentC) : (g.move s0 p0 d p' m).col b = some lentC := by
  simp only [Gh.move, h]
  rw [if_neg (fun h => hs h.symm)]
end Go.Ab
