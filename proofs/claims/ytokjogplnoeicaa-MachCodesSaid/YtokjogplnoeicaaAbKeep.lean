/- Values that are at hand stay what they are while slots change. -/
import Derived.Test.YtokjogplnoeicaaAbStore
namespace Go.Ab

section
variable {P : Program} {w0 w : World} {mu : Mu} {st : St} {a : Act} {g : Gh} {R : Type} {r : R} {val : Nat → Value} {U : Nat → Prop}

def Keeps (U : Nat → Prop) (w : World) (g : Gh) (av : Nat → AV) (w' : World) (g' : Gh) (av' : Nat → AV) : Prop := ∀ a v, stampOK U a → VR w g av a v → VR w' g' av' a v
theorem Keeps.refl {av : Nat → AV} : Keeps U w g av w g av := fun _ _ _ h => h
theorem Keeps.trans {w1 w2 : World} {g1 g2 : Gh} {av av1 av2 : Nat → AV} (h : Keeps U w g av w1 g1 av1) (h' : Keeps U w1 g1 av1 w2 g2 av2) : Keeps U w g av w2 g2 av2 := fun a v hs hv => h' a v hs (h a v hs hv)

/-- only slots that own nothing under an old stamp are other than they were -/
theorem keeps_of {w w' : World} {g g' : Gh} {av av' : Nat → AV} (hsz : w.heap.size ≤ w'.heap.size)
  (hsh : ∀ b l0, b < w.heap.size → shared g.col l0 b → w'.heap[b]? = w.heap[b]? ∧ shared g'.col l0 b) (X : Nat → Prop)
  (hun : ∀ s, ¬ X s → av' s = av s ∧ (∀ p, g'.H s p = g.H s p) ∧ (∀ p, g'.A s p = g.A s p))
  (hX : ∀ s, X s → (∀ n, U n → own? (av' s) n = none) ∧ ∀ n p, U n → ownP? (av' s) n p = none) : Keeps U w g av w' g' av' := by
 intro a v hs hv
 refine VR_mono hsz hsh ?_ ?_ a v hs hv
 ·intro s n hn o' ho'
  by_cases hs : X s
  ·rw [(hX s hs).1 n hn] at ho'; cases ho'
  ·obtain ⟨h1, h2, _⟩ := hun s hs
   rw [h1] at ho'
   exact ⟨o', ho', fun p hp => ⟨hp, h2 p, fun e m x hx => ⟨m, x, hx, rfl⟩⟩⟩
 ·intro s n p hn o' ho'
  by_cases hs : X s
  ·rw [(hX s hs).2 n p hn] at ho'; cases ho'
  ·obtain ⟨h1, _, h3⟩ := hun s hs
   rw [h1] at ho'
   exact ⟨o', ho', fun hp hm => ⟨hp, hm, h3 p⟩⟩

theorem keeps_dead {g' : Gh} {s0 : Nat} (hk : Kept w g g') (hH : ∀ s, s ≠ s0 → ∀ p, g'.H s p = g.H s p) (hA : ∀ s, s ≠ s0 → ∀ p, g'.A s p = g.A s p) : Keeps U w g st.get w g' (st.set s0 .dead).get := by
 refine keeps_of (Nat.le_refl _) (fun b l0 hb hs => ⟨rfl, hk b l0 hb hs⟩) (fun s => s = s0) (fun s hs => ⟨?_, hH s hs, hA s hs⟩) (fun s hs => ?_)
 ·rw [get_set, if_neg hs]
 ·rw [get_set, if_pos hs]; exact ⟨fun _ _ => rfl, fun _ _ _ => rfl⟩

/-- A value that is taken to be shared: other values stay. -/
theorem take_roK {av : AV} {t : Ty} {m : Md} {k : den t → St → Option R} {r : R} {v : Value} (h : take st av t m k = some r) (hm : m.hasOwn = false) (hI : Inv w0 mu st.get val U w g) (hv : VR w g st.get av v) :
  ∃ y st1 g1, k y st1 = some r ∧ st1.c = st.c ∧ Inv w0 mu st1.get val U w g1 ∧ VR w g1 st1.get (.v t m y) v ∧ Kept w g g1 ∧ Keeps U w g st.get w g1 st1.get := by
 obtain ⟨y, st1, hk, h1⟩ := take_sound h hI hv
 rcases h1 with ⟨rfl, h1⟩ | ⟨s0, g1, m0, p0, hs', rfl, hcol, hH, hA, hsv, hr, hle⟩
 ·refine ⟨y, st1, g, hk, rfl, hI, ?_, Kept.refl, Keeps.refl⟩
  rcases h1 with ⟨m', rfl, hle⟩ | ⟨e, rfl, rfl, rfl, rfl⟩ | ⟨e, rfl, rfl, rfl, rfl⟩
  ·exact ⟨hm, hv.2.1, RR_weak _ _ _ _ _ _ _ hv.2.2 hle hv.1 hm⟩
  ·exact VR_nil hm
  ·exact VR_nilP hm
 ·have hs := Mu.ne hs'
  have hlt : ∀ b k, g1.col b = some k → b < w.heap.size := fun b k hb => (hI.cols b k (by rw [← hcol]; exact hb)).1
  have hkept : Kept w g (g1.move s0 p0 s0 [] m) := fun b l0 _ hb => move_shared hs (by rw [hcol]; exact hb)
  have hH' : ∀ s, s ≠ s0 → ∀ p, (g1.move s0 p0 s0 [] m).H s p = g.H s p := fun s hs0 p => by simp only [Gh.move, hs0, if_false, hH s hs0]
  have hA' : ∀ s, s ≠ s0 → ∀ p, (g1.move s0 p0 s0 [] m).A s p = g.A s p := fun s hs0 p => by simp only [Gh.move, hs0, if_false, hA s hs0]
  refine ⟨y, _, g1.move s0 p0 s0 [] m, hk, rfl, ?_, ?_, hkept, keeps_dead hkept hH' hA'⟩
  ·refine Inv_dead hI hs hkept ?_ hH' hA' ?_
   ·intro b s r hb hs0; simp only [Gh.move, hcol, hb, hs0, if_false]
   ·exact move_cols (Q := fun b => b < w.heap.size) (R := fun b => w0.heap.size ≤ b ∨ mu b) hs fun b k hb => hI.cols b k (by rw [← hcol]; exact hb)
  ·have := RR_move (d := s0) (p' := []) (m := m) hs (Nat.le_refl _) (fun _ _ => rfl) hlt hr hle (fun _ _ h => h) (fun _ _ => rfl)
   exact ⟨hm, hsv, RR_free (Nat.le_refl _) (fun b l0 _ hb => ⟨rfl, hb⟩) t m [] [] _ _ 0 0 y this hm (fun _ => rfl) (fun _ _ => rfl)⟩
end
end Go.Ab
