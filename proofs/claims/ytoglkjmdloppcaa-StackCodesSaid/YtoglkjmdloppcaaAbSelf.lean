/- A function that calls itself by a variable that it shares: its boxes are handed over and back. -/
import Derived.Test.YtoglkjmdloppcaaAbFn
namespace Go.Ab

section
variable {P : Program} {T : Tab} {Φ : Nat → Option Contract} {w0 w : World} {mu : Mu} {st : St} {a : Act} {g : Gh} {R : Type} {r : R} {val : Nat → Value} {U : Nat → Prop}

/-- what is shared, as the function finds it -/
def boxL : (l : List (Nat × Ty × Md)) → denL (l.map (·.2)) → List (Nat × AV)
 | [], _ => []
 | (s, t, m) :: r, x => (s, .box s (form + s) t m x.1) :: boxL r x.2
def roL : (l : List (Nat × Ty × Md)) → denL (l.map (·.2)) → List (Nat × AV)
 | [], _ => []
 | (s, t, m) :: r, x => (s, .rop t m x.1) :: roL r x.2
def avB (bxs ros : List (Nat × Ty × Md)) (xs : denL (bxs.map (·.2))) (zs : denL (ros.map (·.2))) : Nat → AV := look (boxL bxs xs ++ roL ros zs)

/-- the variable that holds the function itself -/
def MeOK (f k0 np me : Nat) (w : World) (mu : Mu) (args : Array Value) : Prop :=
 ∃ bv c el, args.getD me undef = .pointer (some ⟨bv, 0, none⟩) ∧ w.heap[bv]? = some (.cells c el (0, 0)) ∧ c[0]? = some (.func (.func f) #[] (args.extract k0 np)) ∧ mu.L bv ∧ ¬ mu bv

def SelfHolds (P : Program) (f k0 np me : Nat) (bxs ros : List (Nat × Ty × Md)) (fn : List Int → denL (bxs.map (·.2)) → denL (ros.map (·.2)) → Option (denL (bxs.map (·.2)))) : Prop :=
 ∀ (as : List Int) (xs ys : denL (bxs.map (·.2))) (zs : denL (ros.map (·.2))), fn as xs zs = some ys → ∀ (args : Array Value) (w : World) (mu : Mu) (g : Gh), args.size = np → as.length = k0 →
  (∀ i, i < k0 → args.getD i undef = .int .i64 (as.getD i 0)) → (∀ s, mu.far s ↔ lentC.1 ≤ s) → (∀ s, mu.pin s ≠ none → k0 ≤ s ∧ s < np) → (∀ s, k0 ≤ s → s < np → mu.pin s = some (args.getD s undef)) →
  MeOK f k0 np me w mu args → Inv w mu (avB bxs ros xs zs) (fun i => args.getD i undef) (· < fresh) w g →
  Calls P f args w fun e w' => e = .returned (.tuple #[]) ∧ ∃ g' zs', Inv w mu (avB bxs ros ys zs') (fun i => args.getD i undef) (· < fresh) w' g'

theorem look_app : ∀ (l r : List (Nat × AV)) (s : Nat), (∀ x ∈ l, x.1 ≠ s) → look (l ++ r) s = look r s
 | [], _, _, _ => rfl
 | (d, v) :: l, r, s, h => by
  rw [List.cons_append, look_cons, if_neg (fun e => h (d, v) (by simp) e.symm)]
  exact look_app l r s fun x hx => h x (by simp [hx])
theorem look_mem_app : ∀ (l r : List (Nat × AV)) (s : Nat), (∃ x ∈ l, x.1 = s) → look (l ++ r) s = look l s
 | [], _, _, h => by obtain ⟨x, hx, _⟩ := h; cases hx
 | (d, v) :: l, r, s, h => by
  rw [List.cons_append, look_cons, look_cons]
  by_cases hs : s = d
  ·rw [if_pos hs, if_pos hs]
  ·rw [if_neg hs, if_neg hs]
   refine look_mem_app l r s ?_
   obtain ⟨x, hx, he⟩ := h
   rcases List.mem_cons.1 hx with rfl | hx
   ·exact absurd he.symm hs
   ·exact ⟨x, hx, he⟩

/-- the boxes' slots -/
def slotsB (l : List (Nat × Ty × Md)) : List Nat := l.map (·.1)
theorem boxL_slots : ∀ (l : List (Nat × Ty × Md)) (x : denL (l.map (·.2))), (boxL l x).map (·.1) = slotsB l
 | [], _ => rfl
 | (s, t, m) :: r, x => by simp only [boxL, List.map_cons, slotsB]; rw [boxL_slots r x.2]; rfl
theorem selfPut_get (c : Nat) : ∀ (l : List (Nat × Ty × Md)) (x : denL (l.map (·.2))) (r : List (Nat × AV)) (s : Nat), (s ∉ slotsB l → look (selfPut c l x r) s = look r s) ∧
  (s ∈ slotsB l → ∃ t m y, (s, t, m) ∈ l ∧ look (selfPut c l x r) s = .box c (c + 1) t m y ∧ look (boxL l x) s = .box s (form + s) t m y)
 | [], _, r, s => ⟨fun _ => rfl, fun h => by cases h⟩
 | (d, t, m) :: l, x, r, s => by
  obtain ⟨h1, h2⟩ := selfPut_get c l x.2 r s
  simp only [selfPut, boxL, look_cons, slotsB, List.map_cons, List.mem_cons]
  by_cases hs : s = d
  ·subst hs
   exact ⟨fun h => absurd (.inl rfl) h, fun _ => ⟨t, m, x.1, .inl rfl, by rw [if_pos rfl], by rw [if_pos rfl]⟩⟩
  ·rw [if_neg hs, if_neg hs]
   refine ⟨fun h => h1 fun hm => h (.inr hm), fun h => ?_⟩
   obtain ⟨t', m', y, g1, g2, g3⟩ := h2 (h.resolve_left hs)
   exact ⟨t', m', y, .inr g1, g2, g3⟩

theorem selfArgs_sound (hI : Inv w0 mu st.get (Vals a) U w g) : ∀ (l : List Nat) {k : List Int → Option R} {r : R}, selfArgs st l k = some r → ∃ as, k as = some r ∧ as.length = l.length ∧ ∀ i, i < l.length → Vals a (l.getD i 0) = .int .i64 (as.getD i 0)
 | [], k, r, h => ⟨[], h, rfl, fun i hi => absurd hi (Nat.not_lt_zero i)⟩
 | s :: l, k, r, h => by
  simp only [selfArgs] at h
  split at h
  ·rename_i m n hq
   obtain ⟨as, h1, h2, h3⟩ := selfArgs_sound hI l h
   have hs := hI.slots s
   rw [hq] at hs
   refine ⟨n :: as, h1, by simp [h2], fun i hi => ?_⟩
   cases i with
   | zero =>
    have h5 : (Vals a s).cells = #[Vals a s] := hs.2.1
    have h6 := hs.2.2
    rw [h5] at h6
    simp only [RR, rdS] at h6
    simpa using h6
   | succ i => simpa using h3 i (by simpa using hi)
  ·cases h
theorem selfBx_sound : ∀ (l : List (Nat × Ty × Md)) {k : denL (l.map (·.2)) → Option R} {r : R}, selfBx st l k = some r → ∃ xs, k xs = some r ∧ ∀ s, s ∈ slotsB l → ∃ n u t m x, st.get s = .box n u t m x ∧ (s, t, m) ∈ l ∧ look (boxL l xs) s = .box s (form + s) t m x
 | [], k, r, h => ⟨(), h, fun s hs => by cases hs⟩
 | (s, t, m) :: l, k, r, h => by
  simp only [selfBx] at h
  split at h
  ·rename_i n u t' m' x hq
   split at h
   ·rename_i ht
    subst ht
    split at h
    ·rename_i hm
     have hm := of_decide_eq_true hm
     subst hm
     obtain ⟨xs, h1, h2⟩ := selfBx_sound l h
     refine ⟨(x, xs), h1, fun s' hs' => ?_⟩
     simp only [boxL, look_cons]
     by_cases he : s' = s
     ·subst he; exact ⟨n, u, t', m', x, hq, by simp, by rw [if_pos rfl]⟩
     ·rw [if_neg he]
      simp only [slotsB, List.map_cons, List.mem_cons] at hs'
      obtain ⟨n', u', t2, m2, x2, g1, g2, g3⟩ := h2 s' (hs'.resolve_left he)
      exact ⟨n', u', t2, m2, x2, g1, by simp [g2], g3⟩
    ·cases h
   ·cases h
  ·cases h
theorem selfRo_sound : ∀ (l : List (Nat × Ty × Md)) {k : denL (l.map (·.2)) → Option R} {r : R}, selfRo st l k = some r → ∃ zs, k zs = some r ∧ ∀ s, (s ∈ slotsB l → ∃ t m x, st.get s = .rop t m x ∧ look (roL l zs) s = .rop t m x) ∧ (s ∉ slotsB l → look (roL l zs) s = .dead)
 | [], k, r, h => ⟨(), h, fun s => ⟨fun hs => (by cases hs), fun _ => rfl⟩⟩
 | (s, t, m) :: l, k, r, h => by
  simp only [selfRo] at h
  split at h
  ·rename_i t' m' x hq
   split at h
   ·rename_i ht
    subst ht
    split at h
    ·rename_i hm
     have hm := of_decide_eq_true hm
     subst hm
     obtain ⟨xs, h1, h2⟩ := selfRo_sound l h
     refine ⟨(x, xs), h1, fun s' => ?_⟩
     simp only [roL, look_cons, slotsB, List.map_cons, List.mem_cons]
     by_cases he : s' = s
     ·subst he; exact ⟨fun _ => ⟨t', m', x, hq, by rw [if_pos rfl]⟩, fun hn => absurd (.inl rfl) hn⟩
     ·rw [if_neg he]
      exact ⟨fun hs' => (h2 s').1 (hs'.resolve_left he), fun hs' => (h2 s').2 fun hm => hs' (.inr hm)⟩
    ·cases h
   ·cases h
  ·cases h

/-- operations in between -/
theorem mid_sound (hE : EnvOK P T Φ) (hfar : ∀ s, mu.far s ↔ lentC.1 ≤ s) {N : Nat} (hN : N ≤ lentC.1) {d1 : Nat} {all : Array Oper} {all' : List Oper} {K : St → Option R} {Q : Exit → Act → World → Prop} {tail : List Oper} {r : R} :
  ∀ (rest : List Oper) (st : St) (a : Act) (w : World), (∀ o ∈ rest, o.guard = none ∧ ∀ d, o.dst = some d → d < N ∧ mu.pin d = none ∧ d ≠ d1) → ops T Φ all' K rest st = some r → At w0 mu N st a w →
   (∀ st a' w', K st = some r → At w0 mu N st a' w' → Vals a' d1 = Vals a d1 → wpList P all Q tail a' w') → wpList P all Q (rest ++ tail) a w
 | [], st, a, w, _, h, hA, hK => hK st a w h hA rfl
 | o :: rest, st, a, w, hr, h, ⟨⟨g, hI⟩, hs, hdf, hpin⟩, hK => by
  simp only [ops] at h
  obtain ⟨hgn, hdst⟩ := hr o (by simp)
  rw [List.cons_append]
  unfold wpList
  rw [if_pos (by simp [Region.wanted, hgn])]
  have go : ∀ av st', ops T Φ all' K rest ((st'.put o.dst av).tick st.c) = some r → NextOK w0 mu o a (Nw (· < st.c) st.c) st' av (wpList P all Q (rest ++ tail)) := by
   intro av st' hk a' w' g' hI' hs' hdf' hv'
   refine mid_sound hE hfar hN rest _ a' w' (fun o ho => hr o (List.mem_cons_of_mem _ ho)) hk ⟨⟨g', hI'.monoU fun n h => Nw_lt h⟩, by rw [hs', hs], by rw [hdf', hdf], pin_put hpin hv' fun d hd => (hdst d hd).2.1⟩ ?_
   intro st2 a2 w2 h1 h2 h3
   exact hK st2 a2 w2 h1 h2 (by rw [h3]; exact hv' d1 fun hd => (hdst d1 hd).2.2 rfl)
  split at h
  ·rename_i x hx
   refine .inl (next_sound (new_lt st.c) hI (dst_ok hfar hN hs fun d hd => (hdst d hd).1) hx h Q fun av st' hk hc => ?_)
   simp only [AV.force_eq] at hk
   exact go _ _ hk
  ·split at h
   ·rename_i t x y hx
    have hgo : o.op = .store t x y := by
     unfold isStore at hx
     split at hx
     ·rename_i hg ho
      cases hx
      exact ho
     ·cases hx
    obtain ⟨av, st', hk, hn⟩ := storeS_sound hE.tab (new_lt st.c) hI (dst_ok hfar hN hs fun d hd => (hdst d hd).1) hgo h
    simp only [AV.force_eq] at hk
    exact .inl (hn _ Q (go _ _ hk))
   ·simp only [gstep, hgn] at h
    obtain ⟨av, st', hk, hn⟩ := step_sound hE hfar (new_lt st.c) hI (dst_ok hfar hN hs fun d hd => (hdst d hd).1) h
    simp only [AV.force_eq] at hk
    exact .inl (hn _ Q (go _ _ hk))

/-- what a call of itself begins with -/
def selfMu (B : List Nat) (g : Gh) (pin : Nat → Option Value) : Mu := { pin := pin, h := fun b => ∃ s q, g.col b = some (s, q) ∧ s ∈ B, L := fun b => g.col b ≠ none ∧ ¬ ∃ s q, g.col b = some (s, q) ∧ s ∈ B, far := fun s => lentC.1 ≤ s, hfar := Nat.le_refl _ }
def Gh.mine (g : Gh) (B : List Nat) : Gh where
 col b := match g.col b with
  | none => none
  | some (s, q) => if s ∈ B then some (s, q) else some lentC
 H := g.H
 A := g.A
open Classical in
noncomputable def Gh.back (g g' : Gh) (B : List Nat) (old : Nat → Prop) : Gh where
 col b := if old b then g.col b else (match g'.col b with
  | none => none
  | some (s, q) => if s ∈ B then some (s, q) else some lentC)
 H s q := if s ∈ B then g'.H s q else g.H s q
 A s q := if s ∈ B then g'.A s q else g.A s q

theorem self_back (hI : Inv w0 mu st.get (Vals a) (· < st.c) w g) (hfar : ∀ s, mu.far s ↔ lentC.1 ≤ s) {bxs ros : List (Nat × Ty × Md)} {xs ys : denL (bxs.map (·.2))} {zs : denL (ros.map (·.2))} {args : Array Value} {w' : World} {g' : Gh} {pin : Nat → Option Value}
  (hb : ∀ s, s ∈ slotsB bxs → ∃ n u t m x, st.get s = .box n u t m x ∧ (s, t, m) ∈ bxs ∧ look (boxL bxs xs) s = .box s (form + s) t m x) (hnl : ∀ x ∈ bxs, noLent x.2.2 = true) (hva : ∀ s, s ∈ slotsB bxs → args.getD s undef = Vals a s)
  (hC : Inv w (selfMu (slotsB bxs) g pin) (avB bxs ros ys zs) (fun i => args.getD i undef) (· < fresh) w' g') {d : Nat} (hd : d < a.tmps.size) (hdf : ¬ mu.far d) (hdb : d ∉ slotsB bxs) (v : Value) :
  Inv w0 mu (look (selfPut st.c bxs ys ((d, .dead) :: st.l))) (Vals (a.put (some d) v)) (· < st.c + 2) w' (g.back g' (slotsB bxs) fun b => b < w.heap.size ∧ ¬ (selfMu (slotsB bxs) g pin) b) := by
 classical
 have hBl : ∀ s, s ∈ slotsB bxs → s < lentC.1 := fun s hs => by
  rcases Nat.lt_or_ge s lentC.1 with h | h
  ·exact h
  ·obtain ⟨n, u, t, m, x, h1, _⟩ := hb s hs
   have := hI.far s ((hfar s).2 h)
   rw [h1] at this; cases this
 generalize hB : slotsB bxs = B at *
 obtain ⟨muC, hmuC⟩ : ∃ muC, muC = selfMu B g pin := ⟨_, rfl⟩
 rw [← hmuC] at hC ⊢
 have hh : ∀ b, muC b ↔ ∃ s q, g.col b = some (s, q) ∧ s ∈ B := fun b => by rw [hmuC]; exact Iff.rfl
 have hL : ∀ b, g.col b ≠ none → ¬ muC b → muC.L b := fun b h1 h2 => by rw [hmuC] at h2 ⊢; exact ⟨h1, h2⟩
 have hFr := hC.fr
 have hold : ∀ b, b < w.heap.size → ¬ muC b → w'.heap[b]? = w.heap[b]? := hFr.old
 obtain ⟨gN, hgN⟩ : ∃ gN, gN = g.back g' B fun b => b < w.heap.size ∧ ¬ muC b := ⟨_, rfl⟩
 rw [← hgN]
 have hcO : ∀ b, b < w.heap.size → ¬ muC b → gN.col b = g.col b := fun b h1 h2 => by rw [hgN]; exact if_pos ⟨h1, h2⟩
 have hcN : ∀ b, ¬ (b < w.heap.size ∧ ¬ muC b) → gN.col b = (match g'.col b with | none => none | some (s, q) => if s ∈ B then some (s, q) else some lentC) := fun b h => by rw [hgN]; exact if_neg h
 have hshno : ∀ b l0, shared g.col l0 b → ¬ muC b := fun b l0 hs hm => by
  obtain ⟨s, q, h1, h2⟩ := (hh b).1 hm
  rcases hs with hs | ⟨_, hs⟩
  ·rw [hs] at h1; cases h1
  ·rw [hs] at h1
   simp only [Option.some.injEq] at h1
   have := congrArg Prod.fst h1
   simp only at this
   have := hBl s h2
   omega
 have hsh : ∀ b l0, b < w.heap.size → shared g.col l0 b → w'.heap[b]? = w.heap[b]? ∧ shared gN.col l0 b := fun b l0 hb hs => by
  have hm := hshno b l0 hs
  refine ⟨hold b hb hm, ?_⟩
  simp only [shared, hcO b hb hm]; exact hs
 -- a colour of a box, seen from both sides
 have hcB : ∀ b s q, g'.col b = some (s, q) → s ∈ B → gN.col b = some (s, q) := fun b s q h1 h2 => by
  have : ¬ (b < w.heap.size ∧ ¬ muC b) := by
   rintro ⟨h3, h4⟩
   rcases (hC.cols b _ h1).2 with h5 | h5 | h5
   ·have := congrArg Prod.fst h5
    simp only at this
    have := hBl s h2
    omega
   ·omega
   ·exact h4 h5
  rw [hcN b this, h1]
  exact if_pos h2
 have hcNone : ∀ b, b < w'.heap.size → g'.col b = none → gN.col b = none := fun b _ h1 => by
  by_cases h : b < w.heap.size ∧ ¬ muC b
  ·rw [hcO b h.1 h.2]
   cases hgc : g.col b with
   | none => rfl
   | some k =>
    have := hC.lk b (hL b (by rw [hgc]; simp) h.2)
    rw [h1] at this; cases this
  ·rw [hcN b h, h1]
 have hget : ∀ s, (s ∉ B → look (selfPut st.c bxs ys ((d, .dead) :: st.l)) s = if s = d then .dead else st.get s) ∧
   (s ∈ B → ∃ t m y, (s, t, m) ∈ bxs ∧ look (selfPut st.c bxs ys ((d, .dead) :: st.l)) s = .box st.c (st.c + 1) t m y ∧ avB bxs ros ys zs s = .box s (form + s) t m y) := fun s => by
  obtain ⟨h1, h2⟩ := selfPut_get st.c bxs ys ((d, .dead) :: st.l) s
  rw [hB] at h1 h2
  refine ⟨fun h => by rw [h1 h, look_cons]; rfl, fun h => ?_⟩
  obtain ⟨t, m, y, g1, g2, g3⟩ := h2 h
  refine ⟨t, m, y, g1, g2, ?_⟩
  rw [avB, look_mem_app]
  ·exact g3
  ·have : s ∈ (boxL bxs ys).map (·.1) := by rw [boxL_slots, hB]; exact h
   obtain ⟨x, hx, he⟩ := List.mem_map.1 this
   exact ⟨x, hx, he⟩
 have hval : ∀ s, s ≠ d → Vals (a.put (some d) v) s = Vals a s := fun s hs => by rw [Vals_put hd, if_neg hs]
 have hnew : ∀ s n t m y, s ∈ B → n < st.c → own? (.box st.c (st.c + 1) t m y) n = none := fun s n t m y _ hn => by
  simp only [own?]
  cases hq : Nat.beq n (st.c + 1) with
  | true => have := Nat.eq_of_beq_eq_true hq; omega
  | false => rfl
 have hnewP : ∀ s n p t m y, s ∈ B → n < st.c → ownP? (.box st.c (st.c + 1) t m y) n p = none := fun s n p t m y _ hn => by
  simp only [ownP?]
  have h1 : Nat.beq n st.c = false := by
   cases hq : Nat.beq n st.c with
   | true => have := Nat.eq_of_beq_eq_true hq; omega
   | false => rfl
  have h2 : Nat.beq n (st.c + 1) = false := by
   cases hq : Nat.beq n (st.c + 1) with
   | true => have := Nat.eq_of_beq_eq_true hq; omega
   | false => rfl
  rw [h1, h2]; rfl
 refine Inv_upd hI (fun u => u ∈ B ∨ u = d) (fun n hn => by omega) hFr.size hsh ?_ ?_ ?_ ?_ ?_ ?_ ?_ ?_ (.inl ?_)
 ·intro u hu
  have h1 : u ∉ B := fun h => hu (.inl h)
  have h2 : u ≠ d := fun h => hu (.inr h)
  refine ⟨by rw [(hget u).1 h1, if_neg h2], hval u h2, fun b r hcb => ?_, fun p => by rw [hgN]; exact if_neg h1, fun p => by rw [hgN]; exact if_neg h1⟩
  have hm : ¬ muC b := fun hm => by
   obtain ⟨s, q, h3, h4⟩ := (hh b).1 hm
   rw [hcb] at h3
   simp only [Option.some.injEq, Prod.mk.injEq] at h3
   exact h1 (h3.1 ▸ h4)
  have hlt := (hI.cols b _ hcb).1
  exact ⟨hold b hlt hm, hcO b hlt hm⟩
 ·intro u hu n hn o' ho'
  by_cases h1 : u ∈ B
  ·obtain ⟨t, m, y, _, g2, _⟩ := (hget u).2 h1
   rw [g2, hnew u n t m y h1 hn] at ho'; cases ho'
  ·rw [(hget u).1 h1, if_pos (hu.resolve_left h1)] at ho'; cases ho'
 ·intro u hu n p hn o' ho'
  by_cases h1 : u ∈ B
  ·obtain ⟨t, m, y, _, g2, _⟩ := (hget u).2 h1
   rw [g2, hnewP u n p t m y h1 hn] at ho'; cases ho'
  ·rw [(hget u).1 h1, if_pos (hu.resolve_left h1)] at ho'; cases ho'
 ·intro u hu
  by_cases h1 : u ∈ B
  ·obtain ⟨t, m, y, g1, g2, g3⟩ := (hget u).2 h1
   have hud : u ≠ d := fun h => hdb (h ▸ h1)
   rw [g2, hval u hud]
   have hs := hC.slots u
   rw [g3] at hs
   obtain ⟨b, c, el, k1, k2, k3, k4, k5, k6⟩ := hs
   have hAu : ∀ p, gN.A u p = g'.A u p := fun p => by rw [hgN]; exact if_pos h1
   have hHu : ∀ p, gN.H u p = g'.H u p := fun p => by rw [hgN]; exact if_pos h1
   refine ⟨⟨b, c, el, by rw [← hva u h1]; exact k1, hcB b u [] k2 h1, k3, k4, by rw [hAu]; exact k5, ?_⟩, ⟨by show st.c < st.c + 2; omega, by show st.c + 1 < st.c + 2; omega⟩⟩
   exact RR_movedN (Nat.le_refl _) (fun b hb hc => ⟨rfl, hcNone b hb hc⟩) t m [.dr] [.dr] _ 0 y (hnl _ g1) k6 (fun b q hq => ⟨rfl, hcB b u _ hq h1⟩) (fun q => hHu _) (fun q _ => hAu _) (fun _ _ => rfl)
  ·rw [(hget u).1 h1, if_pos (hu.resolve_left h1)]; exact ⟨trivial, trivial⟩
 ·intro b k hk
  by_cases h1 : b < w.heap.size ∧ ¬ muC b
  ·rw [hcO b h1.1 h1.2] at hk
   obtain ⟨h2, h3⟩ := hI.cols b k hk
   exact ⟨Nat.lt_of_lt_of_le h2 hFr.size, h3⟩
  ·rw [hcN b h1] at hk
   cases hgc : g'.col b with
   | none => rw [hgc] at hk; cases hk
   | some k' =>
    obtain ⟨s, q⟩ := k'
    rw [hgc] at hk
    simp only at hk
    obtain ⟨h3, h4⟩ := hC.cols b _ hgc
    refine ⟨h3, ?_⟩
    split at hk
    ·rename_i hs
     cases hk
     have h5 : w.heap.size ≤ b ∨ muC b := h4.resolve_left fun h => by
      have := congrArg Prod.fst h
      simp only at this
      have := hBl s hs
      omega
     rcases h5 with h5 | h5
     ·have := hI.fr.size; exact .inr (.inl (by omega))
     ·obtain ⟨s', q', h6, h7⟩ := (hh b).1 h5
      refine .inr ((hI.cols b _ h6).2.resolve_left fun h => ?_)
      have := congrArg Prod.fst h
      simp only at this
      have := hBl s' h7
      omega
    ·cases hk; exact .inl rfl
 ·refine ⟨by rw [hFr.os, hI.fr.os], by rw [hFr.tape, hI.fr.tape], by rw [hFr.output, hI.fr.output], Nat.le_trans hI.fr.size hFr.size, fun b hb hm => ?_⟩
  have hsz := hI.fr.size
  have hmc : ¬ muC b := fun hmc => by
   obtain ⟨s, q, h1, h2⟩ := (hh b).1 hmc
   rcases (hI.cols b _ h1).2 with h3 | h3 | h3
   ·have := congrArg Prod.fst h3
    simp only at this
    have := hBl s h2
    omega
   ·omega
   ·exact hm h3
  rw [hold b (by omega) hmc]
  exact hI.fr.old b hb hm
 ·intro s hs
  have h1 : s ∉ B := fun h => by have := hBl s h; have := (hfar s).1 hs; omega
  have h2 : s ≠ d := fun h => hdf (h ▸ hs)
  rw [(hget s).1 h1, if_neg h2]; exact hI.far s hs
 ·intro b hcb
  have hm := hshno b true (.inr ⟨rfl, hcb⟩)
  rw [hcO b (hI.cols b _ hcb).1 hm]; exact hcb
 ·intro u hu n hn
  by_cases h1 : u ∈ B
  ·obtain ⟨t, m, y, _, g2, _⟩ := (hget u).2 h1
   rw [g2]; exact hnew u n t m y h1 hn
  ·rw [(hget u).1 h1, if_pos (hu.resolve_left h1)]; rfl

/-- the text of such a region -/
structure SelfText (P : Program) (f k0 np me : Nat) (C : SelfC) (ol oc : Oper) (tl : TypeId) (c : Call) : Prop where
 fn : FnOK P f
 os : C.os.toList = ol :: (C.mid ++ [oc])
 l1 : ol.op = .load tl (.tmp me)
 l2 : ol.dst = some C.d1
 l3 : ol.guard = none
 c1 : oc.op = .call c
 c2 : c.callee = .value (.tmp C.d1)
 c3 : c.args = (C.args.map Operand.tmp).toArray
 c4 : oc.dst = some C.d3
 c5 : oc.guard = none
 mid : ∀ o ∈ C.mid, o.guard = none ∧ o.dst ≠ some C.d1
 agg : ∀ w, (isAgg tl).run P w = .ok false w
 k : C.args.length = k0
 knp : k0 ≤ np
 slots : ∀ s, s ∈ slotsB C.bxs ∨ s ∈ slotsB C.ros → k0 ≤ s ∧ s < np
 apart : ∀ s, s ∈ slotsB C.ros → s ∉ slotsB C.bxs
 nd : C.d3 ∉ slotsB C.bxs
 me1 : k0 ≤ me
 me2 : me < np
 nl : ∀ x ∈ C.bxs, noLent x.2.2 = true
 few : np ≤ 1000

theorem Fr_cell {w0 w : World} (h : Fr w0 mu w) {b : Nat} {o : Obj} (hb : w0.heap[b]? = some o) (hm : ¬ mu b) : w.heap[b]? = some o := by
 rw [h.old b (cell_lt hb) hm]; exact hb

theorem self_region (hE : EnvOK P T Φ) (hfar : ∀ s, mu.far s ↔ lentC.1 ≤ s) {N : Nat} (hN : N ≤ lentC.1) {io : List Nat} (hp : ∀ s, mu.pin s ≠ none → s ∈ io) {f k0 np me : Nat}
  (hall : ∀ id C', T.sc id = some C' → (∃ ol oc tl c, SelfText P f k0 np me C' ol oc tl c) ∧ SelfHolds P f k0 np me C'.bxs C'.ros C'.fn) {argv : Array Value} (hpins : ∀ s, k0 ≤ s → s < np → mu.pin s = some (argv.getD s undef)) (hav : argv.size = np) (hme : MeOK f k0 np me w0 mu argv) : SelfOK P T Φ w0 mu N io := by
 intro R id C' K r Q st a w hsc hcb h hA hK
 obtain ⟨⟨ol, oc, tl, c, hT⟩, IH⟩ := hall id C' hsc
 simp only [codeB, Bool.and_eq_true] at hcb
 have hos := dstB_ok (N := N) hp hcb.1.1
 refine wp_region_list ?_
 rw [hT.os] at hos ⊢
 obtain ⟨bv, cc, el, m1, m2, m3, m4, m5⟩ := hme
 have hvme : Vals a me = .pointer (some ⟨bv, 0, none⟩) := by rw [hA.pin me _ (hpins me hT.me1 hT.me2), m1]
 unfold wpList
 rw [if_pos (by simp [Region.wanted, hT.l3])]
 left
 -- the function's value
 have hheap : w.heap[bv]? = some (.cells cc el (0, 0)) := by
  obtain ⟨g, hI⟩ := hA.inv
  exact Fr_cell hI.fr m2 m5
 have hcell : w.cell? ⟨bv, 0, none⟩ = some (.func (.func f) #[] (argv.extract k0 np)) := by
  simp [World.cell?, hheap, m3]
 have hld : (execOp a.eval ol).run P w = .ok (.value (.func (.func f) #[] (argv.extract k0 np))) w := by
  have hv : a.eval (.tmp me) = .pointer (some ⟨bv, 0, none⟩) := hvme
  simp [execOp, hT.l1, hv, Instr.loadAt, Instr.sureAddr, loadVar, hT.agg, hcell]
 unfold Oper.wp
 rw [hld, Oper.upon_value, hT.l2]
 obtain ⟨hd1N, hd1p⟩ := hos ol (by simp) _ hT.l2
 have hd1s : C'.d1 < a.tmps.size := by rw [hA.size]; exact hd1N
 have hd1f : ¬ mu.far C'.d1 := fun hf => Nat.lt_irrefl _ (Nat.lt_of_lt_of_le hd1N (Nat.le_trans hN ((hfar _).1 hf)))
 have hA1 : At w0 mu N (st.set C'.d1 .dead) (a.put (some C'.d1) (.func (.func f) #[] (argv.extract k0 np))) w := by
  obtain ⟨⟨g, hI⟩, hs, hdf, hpin⟩ := hA
  refine ⟨⟨g, put_free hI hd1s hd1f (av := .dead) trivial trivial rfl⟩, by simp [Act.put, hs], hdf, fun s v hsv => ?_⟩
  rw [Vals_put hd1s, if_neg (fun h => by rw [h, hd1p] at hsv; cases hsv)]
  exact hpin s v hsv
 unfold selfReg at h
 refine mid_sound hE hfar hN (d1 := C'.d1) C'.mid _ _ w (fun o ho => ⟨(hT.mid o ho).1, fun d hd => ?_⟩) h hA1 ?_
 ·obtain ⟨h1, h2⟩ := hos o (by simp [ho]) d hd
  exact ⟨h1, h2, fun he => (hT.mid o ho).2 (by rw [hd, he])⟩
 intro st a1 w1 h hA2 hvd
 rw [Vals_put hd1s, if_pos rfl] at hvd
 clear hA1 hA hld hcell hheap hvme
 obtain ⟨⟨g, hI⟩, hs, hdf, hpin⟩ := hA2
 obtain ⟨as, h, ha1, ha2⟩ := selfArgs_sound hI _ h
 obtain ⟨xs, h, hx⟩ := selfBx_sound _ h
 obtain ⟨zs, h, hz⟩ := selfRo_sound _ h
 rw [Option.bind_eq_some_iff] at h
 obtain ⟨ys, hy, h⟩ := h
 unfold wpList
 rw [if_pos (by simp [Region.wanted, hT.c5])]
 left
 unfold Oper.wp
 rw [exec_call (fn := f) (us := argv.extract k0 np) hT.fn hT.c1 hT.c2 hvd, Oper.upon_enter, hT.c3]
 -- the callee
 obtain ⟨args, hargs⟩ : ∃ args, args = (C'.args.map Operand.tmp).toArray.map a1.eval ++ argv.extract k0 np := ⟨_, rfl⟩
 rw [← hargs]
 have hal : ((C'.args.map Operand.tmp).toArray.map a1.eval).size = k0 := by simp [hT.k]
 have hsz : args.size = np := by
  have := hT.knp
  rw [hargs, Array.size_append, hal, Array.size_extract]; omega
 have hlo : ∀ i, i < k0 → args.getD i undef = .int .i64 (as.getD i 0) := fun i hi => by
  rw [← ha2 i (by rw [hT.k]; exact hi), hargs]
  simp only [Array.getD_eq_getD_getElem?]
  rw [Array.getElem?_append_left (by rw [hal]; exact hi)]
  have : i < C'.args.length := by rw [hT.k]; exact hi
  simp [this, Act.eval, Vals]
 have hhi : ∀ s, k0 ≤ s → s < np → args.getD s undef = argv.getD s undef := fun s h1 h2 => by
  rw [hargs]
  simp only [Array.getD_eq_getD_getElem?]
  rw [Array.getElem?_append_right (by rw [hal]; exact h1), hal, Array.getElem?_extract]
  rw [if_pos (by omega), show k0 + (s - k0) = s by omega]
 have hvals : ∀ s, k0 ≤ s → s < np → args.getD s undef = Vals a1 s := fun s h1 h2 => by rw [hhi s h1 h2, hpin s _ (hpins s h1 h2)]
 have hBl : ∀ s, s ∈ slotsB C'.bxs → s < lentC.1 := fun s hs => by
  rcases Nat.lt_or_ge s lentC.1 with h | h
  ·exact h
  ·obtain ⟨n, u, t, m, x, h1, _⟩ := hx s hs
   have := hI.far s ((hfar s).2 h)
   rw [h1] at this; cases this
 have hpinC : ∃ pinC : Nat → Option Value, pinC = fun s => if k0 ≤ s ∧ s < np then some (args.getD s undef) else none := ⟨_, rfl⟩
 obtain ⟨pinC, hpinC⟩ := hpinC
 have hIC : Inv w1 (selfMu (slotsB C'.bxs) g pinC) (avB C'.bxs C'.ros xs zs) (fun i => args.getD i undef) (· < fresh) w1 (g.mine (slotsB C'.bxs)) := by
  have hsh : ∀ b l0, shared g.col l0 b → shared (g.mine (slotsB C'.bxs)).col l0 b := fun b l0 hs => by
   rcases hs with hs | ⟨hs, hs'⟩
   ·left; simp only [Gh.mine, hs]
   ·right
    refine ⟨hs, ?_⟩
    have : lentC.1 ∉ slotsB C'.bxs := fun h => Nat.lt_irrefl _ (hBl _ h)
    simp only [Gh.mine, hs']
    rw [if_neg this]
  have hslot : ∀ s, SlotR w1 (g.mine (slotsB C'.bxs)) (avB C'.bxs C'.ros xs zs) s (avB C'.bxs C'.ros xs zs s) (args.getD s undef) ∧ stampOK (· < fresh) (avB C'.bxs C'.ros xs zs s) ∧ (k0 ≤ s ∧ s < np ∨ avB C'.bxs C'.ros xs zs s = .dead) := fun s => by
   by_cases hb : s ∈ slotsB C'.bxs
   ·obtain ⟨n, u, t, m, x, g1, g2, g3⟩ := hx s hb
    have he : avB C'.bxs C'.ros xs zs s = .box s (form + s) t m x := by
     rw [avB, look_mem_app]
     ·exact g3
     ·have : s ∈ (boxL C'.bxs xs).map (·.1) := by rw [boxL_slots]; exact hb
      obtain ⟨y, hy, he⟩ := List.mem_map.1 this
      exact ⟨y, hy, he⟩
    obtain ⟨r1, r2⟩ := hT.slots s (.inl hb)
    have hs0 := hI.slots s
    rw [g1] at hs0
    obtain ⟨b, c2, el2, k1, k2, k3, k4, k5, k6⟩ := hs0
    rw [he, hvals s r1 r2]
    have hcol : ∀ b q, g.col b = some (s, q) → (g.mine (slotsB C'.bxs)).col b = some (s, q) := fun b q h => by
     simp only [Gh.mine, h]; rw [if_pos hb]
    refine ⟨⟨b, c2, el2, k1, hcol b [] k2, k3, k4, k5, RR_frame (Nat.le_refl _) (fun b l0 _ hs => ⟨rfl, hsh b l0 hs⟩) t m [.dr] _ 0 x k6 (fun b q hq => ⟨rfl, by rw [hcol b _ hq, hq]⟩) (fun _ => rfl) (fun _ _ => rfl) (fun _ _ => rfl)⟩, ?_, .inl ⟨r1, r2⟩⟩
    have h5 : form = 500000 := rfl
    have h6 : fresh = 1000000 := rfl
    have h7 := hT.few
    exact ⟨by show s < fresh; omega, by show form + s < fresh; omega⟩
   ·have he : avB C'.bxs C'.ros xs zs s = look (roL C'.ros zs) s := by
     rw [avB, look_app]
     intro y hy hys
     have : s ∈ (boxL C'.bxs xs).map (·.1) := List.mem_map.2 ⟨y, hy, hys⟩
     rw [boxL_slots] at this
     exact hb this
    rw [he]
    by_cases hr : s ∈ slotsB C'.ros
    ·obtain ⟨t, m, x, g1, g2⟩ := (hz s).1 hr
     obtain ⟨r1, r2⟩ := hT.slots s (.inr hr)
     have hs0 := hI.slots s
     rw [g1] at hs0
     rw [g2, hvals s r1 r2]
     have hs1 : VR w1 g st.get (.rop t m x) (Vals a1 s) := hs0
     have hs2 : VR w1 (g.mine (slotsB C'.bxs)) (avB C'.bxs C'.ros xs zs) (.rop t m x) (Vals a1 s) := VR_free_mono (Nat.le_refl _) (fun b l0 _ hs => ⟨rfl, hsh b l0 hs⟩) _ _ rfl hs1
     exact ⟨hs2, trivial, .inl ⟨r1, r2⟩⟩
    ·rw [(hz s).2 hr]; exact ⟨trivial, trivial, .inr rfl⟩
  refine ⟨fun s => (hslot s).1, fun s => (hslot s).2.1, fun b k hk => ?_, ⟨rfl, rfl, rfl, Nat.le_refl _, fun _ _ _ => rfl⟩, fun s hs => ?_, fun b hb => ?_⟩
  ·simp only [Gh.mine] at hk
   cases hgc : g.col b with
   | none => rw [hgc] at hk; cases hk
   | some k' =>
    obtain ⟨s, q⟩ := k'
    rw [hgc] at hk
    simp only at hk
    refine ⟨(hI.cols b _ hgc).1, ?_⟩
    split at hk
    ·rename_i hsB; exact .inr (.inr ⟨s, q, hgc, hsB⟩)
    ·cases hk; exact .inl rfl
  ·have h1 : lentC.1 ≤ s := hs
   rcases (hslot s).2.2 with h2 | h2
   ·have h7 := hT.few
    have h8 : lentC.1 = 4000000000 := rfl
    omega
   ·exact h2
  ·obtain ⟨hb1, hb2⟩ := hb
   simp only [Gh.mine]
   cases hgc : g.col b with
   | none => exact absurd hgc hb1
   | some k' =>
    obtain ⟨s, q⟩ := k'
    have : ¬ s ∈ slotsB C'.bxs := fun h => hb2 ⟨s, q, hgc, h⟩
    simp only [this, if_false]
 have hmeC : MeOK f k0 np me w1 (selfMu (slotsB C'.bxs) g pinC) args := by
  have hlk := hI.lk bv m4
  have hno : ¬ ∃ s q, g.col bv = some (s, q) ∧ s ∈ slotsB C'.bxs := fun ⟨s, q, h1, h2⟩ => by
   rw [hlk] at h1
   simp only [Option.some.injEq] at h1
   have := congrArg Prod.fst h1
   simp only at this
   have := hBl s h2
   omega
  refine ⟨bv, cc, el, by rw [hhi me hT.me1 hT.me2]; exact m1, Fr_cell hI.fr m2 m5, ?_, ⟨by rw [hlk]; simp, hno⟩, hno⟩
  rw [m3]
  congr 2
  refine Array.ext (by simp [hsz, hav]) fun i h1 h2 => ?_
  have h3 : i < np - k0 := by simp [hav] at h1; omega
  have := hhi (k0 + i) (by omega) (by omega)
  simp only [Array.getD_eq_getD_getElem?] at this
  simp only [Array.getElem_extract]
  rw [Array.getElem?_eq_getElem (by omega), Array.getElem?_eq_getElem (by omega)] at this
  exact this.symm
 have hcalls := IH as xs ys zs hy args w1 (selfMu (slotsB C'.bxs) g pinC) (g.mine (slotsB C'.bxs)) hsz (by rw [ha1, hT.k]) hlo (fun s => Iff.rfl) (fun s hs => by
   have : pinC s ≠ none := hs
   rw [hpinC] at this
   by_cases hc : k0 ≤ s ∧ s < np
   ·exact hc
   ·exact absurd (if_neg hc) this) (fun s h1 h2 => by show pinC s = _; rw [hpinC]; exact if_pos ⟨h1, h2⟩) hmeC hIC
 refine Calls.mono hcalls ?_
 rintro e w' ⟨rfl, g', zs', hIE⟩
 simp only
 obtain ⟨hd3N, hd3p⟩ := hos oc (by simp) _ hT.c4
 have hd3s : C'.d3 < a1.tmps.size := by rw [hs]; exact hd3N
 have hd3f : ¬ mu.far C'.d3 := fun hf => Nat.lt_irrefl _ (Nat.lt_of_lt_of_le hd3N (Nat.le_trans hN ((hfar _).1 hf)))
 rw [hT.c4]
 unfold wpList
 refine hK _ _ _ h ⟨⟨_, self_back hI hfar hx hT.nl (fun s hs => ?_) hIE hd3s hd3f hT.nd _⟩, by simp [Act.put, hs], hdf, fun s v hsv => ?_⟩
 ·obtain ⟨r1, r2⟩ := hT.slots s (.inl hs)
  exact hvals s r1 r2
 ·rw [Vals_put hd3s, if_neg (fun h => by rw [h, hd3p] at hsv; cases hsv)]
  exact hpin s v hsv

def argL : List Int → Nat → List (Nat × AV)
 | [], _ => []
 | n :: r, i => (i, .v (.int .i64) (.bor false true) n) :: argL r (i + 1)
theorem argL_look : ∀ (as : List Int) (i : Nat) (rest : List (Nat × AV)) (s : Nat), look (argL as i ++ rest) s = if i ≤ s ∧ s < i + as.length then .v (.int .i64) (.bor false true) (as.getD (s - i) 0) else look rest s
 | [], i, rest, s => by rw [if_neg (by simp only [List.length_nil]; omega)]; rfl
 | n :: r, i, rest, s => by
  rw [argL, List.cons_append, look_cons, argL_look r (i + 1) rest s]
  by_cases h : s = i
  ·subst h; simp
  ·rw [if_neg h]
   by_cases h2 : i + 1 ≤ s ∧ s < i + 1 + r.length
   ·rw [if_pos h2, if_pos (by simp; omega), show s - i = s - (i + 1) + 1 by omega]; rfl
   ·rw [if_neg h2, if_neg (by simp; omega)]

def pinsL (k0 np : Nat) : List Nat := (List.range (np - k0)).map (· + k0)
theorem mem_pinsL {k0 np s : Nat} (h1 : k0 ≤ s) (h2 : s < np) : s ∈ pinsL k0 np := List.mem_map.2 ⟨s - k0, by simp; omega, by omega⟩

theorem renew_box {keep : List Nat} {st : St} {s n u : Nat} {a : AV} {t : Ty} {m : Md} {x : den t} (h : renew keep st s a = .box n u t m x) : renew keep st s a = .box s (form + s) t m x := by
 cases a with
 | box a1 a2 t2 m2 x2 =>
  simp only [renew, AV.box.injEq] at h ⊢
  obtain ⟨_, _, rfl, rfl, e⟩ := h
  exact ⟨trivial, trivial, rfl, rfl, e⟩
 | v t2 m2 x2 => cases t2 <;> simp [renew] at h
 | al s' n' p =>
  simp only [renew] at h
  split at h <;> cases h
 | sub s' n' p lo len c =>
  simp only [renew] at h
  split at h <;> cases h
 | it s' n' p k e l z =>
  simp only [renew] at h
  split at h <;> cases h
 | pl s' n' p =>
  simp only [renew] at h
  exfalso
  split at h
  ·cases hb : Nat.beq n' _ with
   | true => rw [hb] at h; cases h
   | false => rw [hb] at h; cases h
  ·generalize (Nat.beq n' _ && shallowD p) = b1 at h
   cases b1 with
   | true => cases h
   | false =>
    generalize Nat.beq n' _ = b2 at h
    cases b2 <;> cases h
  ·cases h
 | clo f l =>
  simp only [renew] at h
  split at h <;> cases h
 | cel s' n' =>
  simp only [renew] at h
  exfalso
  split at h
  ·generalize Nat.beq n' _ = b1 at h
   cases b1 <;> cases h
  ·cases h
 | _ => simp [renew] at h

/-- what the boxes have at the end -/
def finS (bxs ros : List (Nat × Ty × Md)) (st : St) : Option (denL (bxs.map (·.2))) := normK (slotsB bxs ++ slotsB ros) st fun st => selfBx st bxs fun xs => selfRo st ros fun _ => some xs
/-- such a function's body, run -/
noncomputable def runS (T : Tab) (Φ : Nat → Option Contract) (keep : Nat → List Nat) (n : Nat) (bxs ros : List (Nat × Ty × Md)) (body : Code) (as : List Int) (xs : denL (bxs.map (·.2))) (zs : denL (ros.map (·.2))) : Option (denL (bxs.map (·.2))) :=
 code T Φ (fun _ F => iter n F) keep 0 body (finS bxs ros) (fun _ _ => none) (finS bxs ros) ⟨fresh, argL as 0 ++ (boxL bxs xs ++ roL ros zs)⟩

theorem self_holds (hE : EnvOK P T Φ) {f k0 np me : Nat} {fn : Func} {C : SelfC} {ol oc : Oper} {tl : TypeId} {c : Call} (hT : SelfText P f k0 np me C ol oc tl c) (h1 : P.funcs[f]? = some fn) (h3 : fn.body = some (codeOf fn)) (hres : fn.results.toList = [])
  (hsmall : (Nat.ble fn.ntmps 500000 && Nat.ble np fn.ntmps && codeB fn.ntmps (pinsL k0 np) (codeOf fn)) = true) (hcs : codeS T (codeOf fn)) (hall : ∀ id C', T.sc id = some C' → (∃ ol oc tl c, SelfText P f k0 np me C' ol oc tl c) ∧ SelfHolds P f k0 np me C'.bxs C'.ros C'.fn) {keep : Nat → List Nat} {n : Nat}
  {fn' : List Int → denL (C.bxs.map (·.2)) → denL (C.ros.map (·.2)) → Option (denL (C.bxs.map (·.2)))} (hrun : ∀ as xs zs ys, as.length = k0 → fn' as xs zs = some ys → runS T Φ keep n C.bxs C.ros (codeOf fn) as xs zs = some ys) (hng : ∀ g S, T.bk g = some (.gen S) → False := by intro _ _ h; cases h) : SelfHolds P f k0 np me C.bxs C.ros fn' := by
 intro as xs ys zs hy args w mu g hsize has hlo hfar hpin1 hpin2 hme hI
 simp only [Bool.and_eq_true] at hsmall
 have hN := Nat.le_of_ble_eq_true hsmall.1.1
 have hps := Nat.le_of_ble_eq_true hsmall.1.2
 have hl : lentC.1 = 4000000000 := rfl
 have hfew := hT.few
 have hknp := hT.knp
 have hsz : (args ++ Array.replicate (fn.ntmps - args.size) undef).size = fn.ntmps := by simp; omega
 have hx := hrun as xs zs ys has hy
 refine calls_of_wp h1 h3 ?_
 have hVals : ∀ s, (args ++ Array.replicate (fn.ntmps - args.size) undef).getD s undef = args.getD s undef := fun s => by
  simp only [Array.getD_eq_getD_getElem?]
  by_cases hs : s < args.size
  ·rw [Array.getElem?_append_left hs]
  ·rw [Array.getElem?_append_right (by omega), Array.getElem?_eq_none (by omega : args.size ≤ s)]
   simp only [Array.getElem?_replicate]
   split <;> rfl
 have havB : ∀ s, (∃ t m x, avB C.bxs C.ros xs zs s = .box s (form + s) t m x) ∨ (∃ t m x, avB C.bxs C.ros xs zs s = .rop t m x) ∨ avB C.bxs C.ros xs zs s = .dead := fun s => by
  have hr : ∀ (l : List (Nat × Ty × Md)) (z : denL (l.map (·.2))), (∃ t m x, look (roL l z) s = .rop t m x) ∨ look (roL l z) s = .dead := by
   intro l
   induction l with
   | nil => intro z; exact .inr rfl
   | cons d l ih =>
    obtain ⟨d, t, m⟩ := d
    intro z
    simp only [roL, look_cons]
    split
    ·exact .inl ⟨_, _, _, rfl⟩
    ·exact ih z.2
  have hb : ∀ (l : List (Nat × Ty × Md)) (x : denL (l.map (·.2))) (rest : List (Nat × AV)), (∃ t m y, look (boxL l x ++ rest) s = .box s (form + s) t m y) ∨ look (boxL l x ++ rest) s = look rest s := by
   intro l
   induction l with
   | nil => intro x rest; exact .inr rfl
   | cons d l ih =>
    obtain ⟨d, t, m⟩ := d
    intro x rest
    simp only [boxL, List.cons_append, look_cons]
    split
    ·rename_i h; subst h; exact .inl ⟨_, _, _, rfl⟩
    ·exact ih x.2 rest
  rcases hb C.bxs xs (roL C.ros zs) with h | h
  ·exact .inl h
  ·rw [avB, h]; exact .inr (hr _ _)
 have hA : At w mu fn.ntmps ⟨fresh, argL as 0 ++ (boxL C.bxs xs ++ roL C.ros zs)⟩ { tmps := args ++ Array.replicate (fn.ntmps - args.size) undef, defers := [] } w := by
  refine ⟨⟨g, ?_⟩, hsz, rfl, fun s v hs => ?_⟩
  ·have hget : ∀ s, St.get ⟨fresh, argL as 0 ++ (boxL C.bxs xs ++ roL C.ros zs)⟩ s = if s < k0 then .v (.int .i64) (.bor false true) (as.getD s 0) else avB C.bxs C.ros xs zs s := fun s => by
    show look _ s = _
    rw [argL_look]
    simp only [Nat.zero_le, true_and, Nat.zero_add, has, Nat.sub_zero]
    rfl
   have hval : ∀ s, Vals { tmps := args ++ Array.replicate (fn.ntmps - args.size) undef, defers := [] } s = args.getD s undef := fun s => hVals s
   refine ⟨fun s => ?_, fun s => ?_, hI.cols, hI.fr, fun s hs => ?_, hI.lk⟩
   ·rw [hget, hval]
    by_cases hs : s < k0
    ·rw [if_pos hs, hlo s hs]
     exact VR_of_int (av := fun _ => .dead) _ _
    ·rw [if_neg hs]
     have h0 := hI.slots s
     rcases havB s with ⟨t, m, x, h⟩ | ⟨t, m, x, h⟩ | h
     ·rw [h] at h0 ⊢; exact h0
     ·rw [h] at h0 ⊢; exact h0
     ·rw [h]; trivial
   ·rw [hget]
    by_cases hs : s < k0
    ·rw [if_pos hs]; trivial
    ·rw [if_neg hs]; exact hI.stamps s
   ·rw [hget]
    have h8 := (hfar s).1 hs
    rw [if_neg (by omega)]; exact hI.far s hs
  ·have h5 := hpin1 s (by rw [hs]; simp)
   have h6 := hpin2 s h5.1 h5.2
   rw [hs] at h6
   simp only [Option.some.injEq] at h6
   rw [h6]
   exact hVals s
 have hpin1' : ∀ s, mu.pin s ≠ none → s ∈ pinsL k0 np := fun s hs => by obtain ⟨a, b⟩ := hpin1 s hs; exact mem_pinsL a b
 have hfin : ∀ st a' w', finS C.bxs C.ros st = some ys → At w mu fn.ntmps st a' w' → a'.defers = [] ∧ ∃ v, (results fn a'.tmps).run P w' = .ok v w' ∧ (Ending.returned v = .returned (.tuple #[]) ∧ ∃ g' zs', Inv w mu (avB C.bxs C.ros ys zs') (fun i => args.getD i undef) (· < fresh) w' g') := by
  intro st a' w' h5 hA'
  obtain ⟨h6, hA2⟩ := normK_sound h5 hA'
  obtain ⟨xs', h7, hx'⟩ := selfBx_sound _ h6
  obtain ⟨zs', h8, hz'⟩ := selfRo_sound _ h7
  simp only [Option.some.injEq] at h8
  subst h8
  obtain ⟨g', hI'⟩ := hA2.inv
  have hr : (results fn a'.tmps).run P w' = .ok (retV []) w' := results_run (by rw [hres]; rfl)
  refine ⟨hA'.defers, _, hr, rfl, g', zs', ?_⟩
  have hslots : ∀ s, (s ∈ slotsB C.bxs ∨ s ∈ slotsB C.ros → k0 ≤ s ∧ s < np) := hT.slots
  have hpv : ∀ s, k0 ≤ s → s < np → Vals a' s = args.getD s undef := fun s h1 h2 => hA'.pin s _ (hpin2 s h1 h2)
  have hav : ∀ s, (s ∈ slotsB C.bxs ∨ s ∈ slotsB C.ros) ∧ avB C.bxs C.ros xs' zs' s = (normSt (slotsB C.bxs ++ slotsB C.ros) st).get s ∨ avB C.bxs C.ros xs' zs' s = .dead := fun s => by
   by_cases hb : s ∈ slotsB C.bxs
   ·obtain ⟨n', u', t, m, x, g1, g2, g3⟩ := hx' s hb
    refine .inl ⟨.inl hb, ?_⟩
    have he : avB C.bxs C.ros xs' zs' s = .box s (form + s) t m x := by
     rw [avB, look_mem_app]
     ·exact g3
     ·have : s ∈ (boxL C.bxs xs').map (·.1) := by rw [boxL_slots]; exact hb
      obtain ⟨y, hy, he⟩ := List.mem_map.1 this
      exact ⟨y, hy, he⟩
    rw [he]
    have g1' := g1
    rw [normSt_get, if_pos (by simp [hb])] at g1'
    rw [normSt_get, if_pos (by simp [hb])]
    exact (renew_box g1').symm
   ·have he : avB C.bxs C.ros xs' zs' s = look (roL C.ros zs') s := by
     rw [avB, look_app]
     intro y hy hys
     have : s ∈ (boxL C.bxs xs').map (·.1) := List.mem_map.2 ⟨y, hy, hys⟩
     rw [boxL_slots] at this
     exact hb this
    rw [he]
    by_cases hr : s ∈ slotsB C.ros
    ·obtain ⟨t, m, x, g1, g2⟩ := (hz' s).1 hr
     exact .inl ⟨.inr hr, by rw [g2, g1]⟩
    ·exact .inr ((hz' s).2 hr)
  have hav2 : ∀ s, (∃ t m x, avB C.bxs C.ros xs' zs' s = .box s (form + s) t m x) ∨ (∃ t m x, avB C.bxs C.ros xs' zs' s = .rop t m x) ∨ avB C.bxs C.ros xs' zs' s = .dead := fun s => by
   by_cases hb : s ∈ slotsB C.bxs
   ·obtain ⟨n', u', t, m, x, g1, g2, g3⟩ := hx' s hb
    refine .inl ⟨t, m, x, ?_⟩
    rw [avB, look_mem_app]
    ·exact g3
    ·have : s ∈ (boxL C.bxs xs').map (·.1) := by rw [boxL_slots]; exact hb
     obtain ⟨y, hy, he⟩ := List.mem_map.1 this
     exact ⟨y, hy, he⟩
   ·have he : avB C.bxs C.ros xs' zs' s = look (roL C.ros zs') s := by
     rw [avB, look_app]
     intro y hy hys
     have : s ∈ (boxL C.bxs xs').map (·.1) := List.mem_map.2 ⟨y, hy, hys⟩
     rw [boxL_slots] at this
     exact hb this
    rw [he]
    by_cases hr : s ∈ slotsB C.ros
    ·obtain ⟨t, m, x, g1, g2⟩ := (hz' s).1 hr
     exact .inr (.inl ⟨t, m, x, g2⟩)
    ·exact .inr (.inr ((hz' s).2 hr))
  refine ⟨fun s => ?_, fun s => ?_, hI'.cols, hI'.fr, fun s hs => ?_, hI'.lk⟩
  ·rcases hav s with ⟨hm, he⟩ | he
   ·obtain ⟨r1, r2⟩ := hslots s hm
    have h0 := hI'.slots s
    show SlotR _ _ _ s _ (args.getD s undef)
    rw [← he, hpv s r1 r2] at h0
    rcases hav2 s with ⟨t, m, x, h⟩ | ⟨t, m, x, h⟩ | h
    ·rw [h] at h0 ⊢; exact h0
    ·rw [h] at h0 ⊢; exact h0
    ·rw [h]; trivial
   ·rw [he]; trivial
  ·rcases hav s with ⟨_, he⟩ | he
   ·rw [he]
    have := hI'.stamps s
    exact this
   ·rw [he]; trivial
  ·rcases hav s with ⟨hm, he⟩ | he
   ·obtain ⟨r1, r2⟩ := hslots s hm
    have h8 := (hfar s).1 hs
    omega
   ·exact he
 refine code_sound hE hfar (N := fn.ntmps) (by omega) hpin1' (draw_ok hE hfar (by omega) hpin1') (self_region hE hfar (by omega) hpin1' hall hpin2 hsize hme) hng (codeOf fn) 0 (finS C.bxs C.ros) (fun _ _ => none) (finS C.bxs C.ros) ys _ _ _ _ hsmall.2 hcs hx hA ?_ (fun _ _ _ _ h => by cases h) ?_
 ·intro st a' w' h5 hA'; exact hfin st a' w' h5 hA'
 ·intro st a' w' h5 hA'; exact hfin st a' w' h5 hA'

/-- the boxes, in the slots of the function that made them -/
def boxT (σ : Nat → Nat) : (l : List (Nat × Ty × Md)) → denL (l.map (·.2)) → List (Nat × AV)
 | [], _ => []
 | (s, t, m) :: r, x => (σ s, .box (σ s) (form + σ s) t m x.1) :: boxT σ r x.2
theorem boxT_get (σ : Nat → Nat) : ∀ (l : List (Nat × Ty × Md)) (x : denL (l.map (·.2))) (u : Nat), look (boxT σ l x) u = .dead ∨ ∃ s ∈ slotsB l, u = σ s
 | [], _, _ => .inl rfl
 | (d, t, m) :: l, x, u => by
  simp only [boxT, look_cons]
  by_cases h : u = σ d
  ·exact .inr ⟨d, by simp [slotsB], h⟩
  ·rw [if_neg h]
   rcases boxT_get σ l x.2 u with h1 | ⟨s, h1, h2⟩
   ·exact .inl h1
   ·exact .inr ⟨s, by simp only [slotsB, List.map_cons, List.mem_cons] at h1 ⊢; exact .inr h1, h2⟩
theorem boxT_at (σ : Nat → Nat) : ∀ (l : List (Nat × Ty × Md)) (x : denL (l.map (·.2))) (s : Nat), s ∈ slotsB l → (∀ s' ∈ slotsB l, σ s' = σ s → s' = s) →
  ∃ t m y, (s, t, m) ∈ l ∧ look (boxT σ l x) (σ s) = .box (σ s) (form + σ s) t m y ∧ look (boxL l x) s = .box s (form + s) t m y
 | [], _, _, h, _ => by cases h
 | (d, t, m) :: l, x, s, h, hinj => by
  simp only [boxT, boxL, look_cons]
  simp only [slotsB, List.map_cons, List.mem_cons] at h
  by_cases hs : s = d
  ·subst hs
   exact ⟨t, m, x.1, by simp, by rw [if_pos rfl], by rw [if_pos rfl]⟩
  ·have h1 : ¬ σ s = σ d := fun e => hs (hinj d (by simp [slotsB]) e.symm).symm
   rw [if_neg h1, if_neg hs]
   obtain ⟨t', m', y, g1, g2, g3⟩ := boxT_at σ l x.2 s (h.resolve_left hs) fun s' hs' he => hinj s' (by simp only [slotsB, List.map_cons, List.mem_cons] at hs' ⊢; exact .inr hs') he
   exact ⟨t', m', y, by simp [g1], g2, g3⟩

/-- the colours as a function finds them that is called by a variable of another one's -/
def Gh.to (g : Gh) (bv : Nat) (σ : Nat → Nat) (τ : Nat → Option Nat) : Gh where
 col b := if b = bv then some lentC else match g.col b with
  | none => none
  | some (u, q) => match τ u with | some s => some (s, q) | none => some lentC
 H s q := g.H (σ s) q
 A s q := g.A (σ s) q
def Gh.fro (g : Gh) (B : List Nat) (σ : Nat → Nat) (τ : Nat → Option Nat) : Gh where
 col b := match g.col b with
  | none => none
  | some (s, q) => if s ∈ B then some (σ s, q) else some lentC
 H u q := match τ u with | some s => g.H s q | none => g.H u q
 A u q := match τ u with | some s => g.A s q | none => g.A u q

theorem self_start {av : Nat → AV} {w3 w5 : World} {g3 : Gh} (hI : Inv w0 mu av val U w3 g3) (hfar : ∀ s, mu.far s ↔ lentC.1 ≤ s) {f k0 np me : Nat} {bxs ros : List (Nat × Ty × Md)} {fn : List Int → denL (bxs.map (·.2)) → denL (ros.map (·.2)) → Option (denL (bxs.map (·.2)))} (IH : SelfHolds P f k0 np me bxs ros fn)
  {as : List Int} {xs ys : denL (bxs.map (·.2))} {zs : denL (ros.map (·.2))} (hy : fn as xs zs = some ys) {args : Array Value} {bv : Nat} {c : Array Value} {el : TypeId} {σ : Nat → Nat} {τ : Nat → Option Nat}
  (hsz : w3.heap.size ≤ bv) (hheap : ∀ b, b < w3.heap.size → w5.heap[b]? = w3.heap[b]?) (hs5 : w3.heap.size ≤ w5.heap.size) (hwo : w5.os = w3.os ∧ w5.tape = w3.tape ∧ w5.output = w3.output)
  (hbv : w5.heap[bv]? = some (.cells c el (0, 0))) (hc0 : c[0]? = some (.func (.func f) #[] (args.extract k0 np))) (hme : args.getD me undef = .pointer (some ⟨bv, 0, none⟩)) (hsize : args.size = np) (has : as.length = k0) (hlo : ∀ i, i < k0 → args.getD i undef = .int .i64 (as.getD i 0))
  (hnp : np ≤ 1000) (hτ : ∀ s, s ∈ slotsB bxs → τ (σ s) = some s) (hτ' : ∀ u s, τ u = some s → s ∈ slotsB bxs ∧ σ s = u) (hσ : ∀ s, s ∈ slotsB bxs → σ s < 1000) (hsl : ∀ s, s ∈ slotsB bxs ∨ s ∈ slotsB ros → k0 ≤ s ∧ s < np)
  (hb : ∀ s, s ∈ slotsB bxs → ∃ n u t m x, av (σ s) = .box n u t m x ∧ (s, t, m) ∈ bxs ∧ look (boxL bxs xs) s = .box s (form + s) t m x ∧ args.getD s undef = val (σ s))
  (hr : ∀ s, (s ∈ slotsB ros → ∃ n u t m' z, av (σ s) = .box n u t m' z ∧ τ (σ s) = none ∧ look (roL ros zs) s = .rop t (.bor true false) z ∧ args.getD s undef = val (σ s)) ∧ (s ∉ slotsB ros → look (roL ros zs) s = .dead))
  (hnl : ∀ x ∈ bxs, noLent x.2.2 = true) :
  Calls P f args w5 fun e w6 => e = .returned (.tuple #[]) ∧ ∃ gW, Inv w0 mu (look (boxT σ bxs ys)) val (· < fresh) w6 gW := by
 have hl : lentC.1 = 4000000000 := rfl
 have h5 : form = 500000 := rfl
 have h6 : fresh = 1000000 := rfl
 have hlB : lentC.1 ∉ slotsB bxs := fun h => by have := hsl _ (.inl h); omega
 have hτl : τ lentC.1 = none := by
  cases hq : τ lentC.1 with
  | none => rfl
  | some s => obtain ⟨h1, h2⟩ := hτ' _ _ hq; have := hσ s h1; omega
 obtain ⟨gV, hgV⟩ : ∃ gV, gV = g3.to bv σ τ := ⟨_, rfl⟩
 have hcV : ∀ b, b < w3.heap.size → gV.col b = (match g3.col b with | none => none | some (u, q) => match τ u with | some s => some (s, q) | none => some lentC) := fun b hb => by
  rw [hgV]; exact if_neg (by omega)
 have hcbv : gV.col bv = some lentC := by rw [hgV]; exact if_pos rfl
 have hcB : ∀ b s q, g3.col b = some (σ s, q) → s ∈ slotsB bxs → gV.col b = some (s, q) := fun b s q h hs => by
  rw [hcV b (hI.cols b _ h).1, h]; simp only [hτ s hs]
 have hshV : ∀ b l0, b < w3.heap.size → shared g3.col l0 b → w5.heap[b]? = w3.heap[b]? ∧ shared gV.col l0 b := fun b l0 hb hs => by
  refine ⟨hheap b hb, ?_⟩
  rcases hs with hs | ⟨h1, hs⟩
  ·left; rw [hcV b hb, hs]
  ·right
   refine ⟨h1, ?_⟩
   rw [hcV b hb, hs]
   show (match τ lentC.1 with | some s => some (s, lentC.2) | none => some lentC) = some lentC
   rw [hτl]
 obtain ⟨pinV, hpinV⟩ : ∃ pinV : Nat → Option Value, pinV = fun s => if k0 ≤ s ∧ s < np then some (args.getD s undef) else none := ⟨_, rfl⟩
 have hInit : Inv w5 (selfMu (slotsB bxs) gV pinV) (avB bxs ros xs zs) (fun i => args.getD i undef) (· < fresh) w5 gV := by
  have hslot : ∀ s, SlotR w5 gV (avB bxs ros xs zs) s (avB bxs ros xs zs s) (args.getD s undef) ∧ stampOK (· < fresh) (avB bxs ros xs zs s) ∧ (k0 ≤ s ∧ s < np ∨ avB bxs ros xs zs s = .dead) := fun s => by
   by_cases hbs : s ∈ slotsB bxs
   ·obtain ⟨n, u, t, m, x, g1, g2, g3', g4⟩ := hb s hbs
    have he : avB bxs ros xs zs s = .box s (form + s) t m x := by
     rw [avB, look_mem_app]
     ·exact g3'
     ·have : s ∈ (boxL bxs xs).map (·.1) := by rw [boxL_slots]; exact hbs
      obtain ⟨y, hy, he⟩ := List.mem_map.1 this
      exact ⟨y, hy, he⟩
    obtain ⟨r1, r2⟩ := hsl s (.inl hbs)
    have hs0 := hI.slots (σ s)
    rw [g1] at hs0
    obtain ⟨b, c2, el2, k1, k2, k3, k4, k5, k6⟩ := hs0
    have hAs : ∀ q, gV.A s q = g3.A (σ s) q := fun q => by rw [hgV]; rfl
    have hHs : ∀ q, gV.H s q = g3.H (σ s) q := fun q => by rw [hgV]; rfl
    rw [he, g4]
    have hblt := cell_lt k3
    refine ⟨⟨b, c2, el2, k1, hcB b s [] k2 hbs, by rw [hheap b hblt]; exact k3, k4, by rw [hAs]; exact k5, ?_⟩, ⟨by show s < fresh; omega, by show form + s < fresh; omega⟩, .inl ⟨r1, r2⟩⟩
    exact RR_moved hs5 hshV t m [.dr] [.dr] _ 0 x k6 (fun b q hq => ⟨hheap b (hI.cols b _ hq).1, hcB b s _ hq hbs⟩) (fun q => hHs _) (fun q _ => hAs _) (fun j _ => by simp only [rdS]; exact cell?_congr (hheap b hblt))
   ·have he : avB bxs ros xs zs s = look (roL ros zs) s := by
     rw [avB, look_app]
     intro y hy hys
     have : s ∈ (boxL bxs xs).map (·.1) := List.mem_map.2 ⟨y, hy, hys⟩
     rw [boxL_slots] at this
     exact hbs this
    rw [he]
    by_cases hrs : s ∈ slotsB ros
    ·obtain ⟨n, u, t, m', z, g1, gt, g2, g4⟩ := (hr s).1 hrs
     obtain ⟨r1, r2⟩ := hsl s (.inr hrs)
     have hs0 := hI.slots (σ s)
     rw [g1] at hs0
     obtain ⟨b, c2, el2, k1, k2, k3, k4, k5, k6⟩ := hs0
     have hblt := cell_lt k3
     have hlent : ∀ b q, g3.col b = some (σ s, q) → gV.col b = some lentC := fun b q h => by
      rw [hcV b (hI.cols b _ h).1, h]; simp only [gt]
     rw [g2, g4]
     refine ⟨?_, trivial, .inl ⟨r1, r2⟩⟩
     show VR w5 gV (fun _ => .dead) (.rop t (.bor true false) z) (val (σ s))
     refine ⟨true, false, rfl, ⟨b, 0, none⟩, k1, rfl, Nat.lt_of_lt_of_le hblt hs5, .inr ⟨rfl, hlent b [] k2⟩, ?_, fun h => by cases h⟩
     refine RR_toRO (l := true) hs5 (fun b l0 hb hs _ => ?_) t m' false [.dr] _ 0 z _ k6 (leM_lent t 0 m') (fun b q hq => ⟨hheap b (hI.cols b _ hq).1, .inr ⟨rfl, hlent b _ hq⟩⟩) (fun j _ => by simp only [rdS]; exact cell?_congr (hheap b hblt))
     obtain ⟨e1, e2⟩ := hshV b l0 hb hs
     exact ⟨e1, shared_imp e2 (by cases l0 <;> rfl)⟩
    ·rw [(hr s).2 hrs]; exact ⟨trivial, trivial, .inr rfl⟩
  refine ⟨fun s => (hslot s).1, fun s => (hslot s).2.1, fun b k hk => ?_, ⟨rfl, rfl, rfl, Nat.le_refl _, fun _ _ _ => rfl⟩, fun s hs => ?_, fun b hb => ?_⟩
  ·by_cases hbb : b = bv
   ·subst hbb
    rw [hcbv] at hk
    cases hk
    exact ⟨cell_lt hbv, .inl rfl⟩
   ·have hk' : (match g3.col b with | none => none | some (u, q) => match τ u with | some s => some (s, q) | none => some lentC) = some k := by
     rw [hgV] at hk
     have : (g3.to bv σ τ).col b = _ := if_neg hbb
     rw [this] at hk; exact hk
    cases hgc : g3.col b with
    | none => rw [hgc] at hk'; cases hk'
    | some k' =>
     obtain ⟨u, q⟩ := k'
     have hlt := (hI.cols b _ hgc).1
     refine ⟨Nat.lt_of_lt_of_le hlt hs5, ?_⟩
     rw [hgc] at hk'
     simp only at hk'
     cases ht : τ u with
     | none => rw [ht] at hk'; cases hk'; exact .inl rfl
     | some s =>
      rw [ht] at hk'
      cases hk'
      exact .inr (.inr ⟨s, q, hk, (hτ' u s ht).1⟩)
  ·have h8 : lentC.1 ≤ s := hs
   rcases (hslot s).2.2 with h2 | h2
   ·omega
   ·exact h2
  ·obtain ⟨hb1, hb2⟩ := hb
   by_cases hbb : b = bv
   ·subst hbb; exact hcbv
   ·have hk' : gV.col b = (match g3.col b with | none => none | some (u, q) => match τ u with | some s => some (s, q) | none => some lentC) := by rw [hgV]; exact if_neg hbb
    cases hgc : g3.col b with
    | none => rw [hk', hgc] at hb1; exact absurd rfl hb1
    | some k' =>
     obtain ⟨u, q⟩ := k'
     rw [hk', hgc]
     simp only
     cases ht : τ u with
     | none => rfl
     | some s => exact absurd ⟨s, q, by rw [hk', hgc]; simp only [ht], (hτ' u s ht).1⟩ hb2
 have hnoV : ¬ (selfMu (slotsB bxs) gV pinV) bv := fun ⟨s, q, h1, h2⟩ => by
  rw [hcbv] at h1
  simp only [Option.some.injEq] at h1
  have := congrArg Prod.fst h1
  simp only at this
  exact hlB (this ▸ h2)
 have hmeV : MeOK f k0 np me w5 (selfMu (slotsB bxs) gV pinV) args := ⟨bv, c, el, hme, hbv, hc0, ⟨by rw [hcbv]; simp, hnoV⟩, hnoV⟩
 refine Calls.mono (IH as xs ys zs hy args w5 (selfMu (slotsB bxs) gV pinV) gV hsize has hlo (fun s => Iff.rfl) (fun s hs => ?_) (fun s h1 h2 => ?_) hmeV hInit) ?_
 ·have : pinV s ≠ none := hs
  rw [hpinV] at this
  by_cases hc : k0 ≤ s ∧ s < np
  ·exact hc
  ·exact absurd (if_neg hc) this
 ·show pinV s = _
  rw [hpinV]; exact if_pos ⟨h1, h2⟩
 rintro e w6 ⟨rfl, g6, zs', hIE⟩
 refine ⟨rfl, g6.fro (slotsB bxs) σ τ, ?_⟩
 have hmu : ∀ b, (selfMu (slotsB bxs) gV pinV) b → w0.heap.size ≤ b ∨ mu b := fun b ⟨s, q, h1, h2⟩ => by
  have hbb : b ≠ bv := fun h => hnoV (h ▸ ⟨s, q, h1, h2⟩)
  have hk' : gV.col b = (match g3.col b with | none => none | some (u, q) => match τ u with | some s => some (s, q) | none => some lentC) := by rw [hgV]; exact if_neg hbb
  rw [hk'] at h1
  cases hgc : g3.col b with
  | none => rw [hgc] at h1; cases h1
  | some k' =>
   obtain ⟨u, q'⟩ := k'
   rw [hgc] at h1
   simp only at h1
   rcases (hI.cols b _ hgc).2 with h3 | h3
   ·exfalso
    have : u = lentC.1 := congrArg Prod.fst h3
    rw [this, hτl] at h1
    simp only [Option.some.injEq] at h1
    have := congrArg Prod.fst h1
    simp only at this
    exact hlB (this ▸ h2)
   ·exact h3
 have hFr := hIE.fr
 have hinj : ∀ s ∈ slotsB bxs, ∀ s' ∈ slotsB bxs, σ s' = σ s → s' = s := fun s h1 s' h2 he => by
  have e1 := hτ s h1
  have e2 := hτ s' h2
  rw [he, e1] at e2
  exact (Option.some.inj e2).symm
 have hslots : ∀ u, (look (boxT σ bxs ys) u = .dead) ∨ ∃ s t m y, s ∈ slotsB bxs ∧ u = σ s ∧ (s, t, m) ∈ bxs ∧ look (boxT σ bxs ys) u = .box u (form + u) t m y ∧ avB bxs ros ys zs' s = .box s (form + s) t m y := fun u => by
  rcases boxT_get σ bxs ys u with h | ⟨s, h1, rfl⟩
  ·exact .inl h
  ·obtain ⟨t, m, y, e1, e2, e3⟩ := boxT_at σ bxs ys s h1 fun s' h2 he => hinj s h1 s' h2 he
   refine .inr ⟨s, t, m, y, h1, rfl, e1, e2, ?_⟩
   rw [avB, look_mem_app]
   ·exact e3
   ·have : s ∈ (boxL bxs ys).map (·.1) := by rw [boxL_slots]; exact h1
    obtain ⟨x, hx, he⟩ := List.mem_map.1 this
    exact ⟨x, hx, he⟩
 refine ⟨fun u => ?_, fun u => ?_, fun b k hk => ?_, ?_, fun u hu => ?_, fun b hbl => ?_⟩
 ·rcases hslots u with h | ⟨s, t, m, y, h1, rfl, h2, h3, h4⟩
  ·rw [h]; trivial
  ·rw [h3]
   have hs0 := hIE.slots s
   rw [h4] at hs0
   obtain ⟨b, c2, el2, k1, k2, k3, k4, k5, k6⟩ := hs0
   obtain ⟨n, u', t', m', x', _, _, _, g4⟩ := hb s h1
   have hcF : ∀ b q, g6.col b = some (s, q) → (g6.fro (slotsB bxs) σ τ).col b = some (σ s, q) := fun b q h => by
    simp only [Gh.fro, h]; rw [if_pos h1]
   have hAF : ∀ q, (g6.fro (slotsB bxs) σ τ).A (σ s) q = g6.A s q := fun q => by simp only [Gh.fro, hτ s h1]
   have hHF : ∀ q, (g6.fro (slotsB bxs) σ τ).H (σ s) q = g6.H s q := fun q => by simp only [Gh.fro, hτ s h1]
   refine ⟨b, c2, el2, by rw [← g4]; exact k1, hcF b [] k2, k3, k4, by rw [hAF]; exact k5, ?_⟩
   exact RR_movedN (Nat.le_refl _) (fun b _ hc => ⟨rfl, by simp only [Gh.fro, hc]⟩) t m [.dr] [.dr] _ 0 y (hnl _ h2) k6 (fun b q hq => ⟨rfl, hcF b _ hq⟩) (fun q => hHF _) (fun q _ => hAF _) (fun _ _ => rfl)
 ·rcases hslots u with h | ⟨s, t, m, y, h1, rfl, h2, h3, h4⟩
  ·rw [h]; trivial
  ·rw [h3]
   have := hσ s h1
   exact ⟨by show σ s < fresh; omega, by show form + σ s < fresh; omega⟩
 ·simp only [Gh.fro] at hk
  cases hgc : g6.col b with
  | none => rw [hgc] at hk; cases hk
  | some k' =>
   obtain ⟨s, q⟩ := k'
   rw [hgc] at hk
   simp only at hk
   obtain ⟨h3, h4⟩ := hIE.cols b _ hgc
   refine ⟨h3, ?_⟩
   split at hk
   ·rename_i hsB
    cases hk
    have h7 : w5.heap.size ≤ b ∨ (selfMu (slotsB bxs) gV pinV) b := h4.resolve_left fun h => by
     have := congrArg Prod.fst h
     simp only at this
     exact hlB (this ▸ hsB)
    rcases h7 with h7 | h7
    ·have := hI.fr.size; exact .inr (.inl (by omega))
    ·exact .inr (hmu b h7)
   ·cases hk; exact .inl rfl
 ·have h0 := hI.fr
  refine ⟨by rw [hFr.os, hwo.1, h0.os], by rw [hFr.tape, hwo.2.1, h0.tape], by rw [hFr.output, hwo.2.2, h0.output], Nat.le_trans h0.size (Nat.le_trans hs5 hFr.size), fun b hb hm => ?_⟩
  have hsz0 := h0.size
  rw [hFr.old b (by omega) fun h => by rcases hmu b h with h | h; omega; exact hm h, hheap b (by omega)]
  exact h0.old b hb hm
 ·rcases hslots u with h | ⟨s, t, m, y, h1, rfl, _⟩
  ·exact h
  ·have h8 := (hfar _).1 hu
   have := hσ s h1
   omega
 ·have h1 := hI.lk b hbl
  have h2 : gV.col b = some lentC := by
   rw [hcV b (hI.cols b _ h1).1, h1]
   show (match τ lentC.1 with | some s => some (s, lentC.2) | none => some lentC) = some lentC
   rw [hτl]
  have h3 : ¬ ∃ s q, gV.col b = some (s, q) ∧ s ∈ slotsB bxs := fun ⟨s, q, e1, e2⟩ => by
   rw [h2] at e1
   simp only [Option.some.injEq] at e1
   have := congrArg Prod.fst e1
   simp only at this
   exact hlB (this ▸ e2)
  have h4 := hIE.lk b ⟨by rw [h2]; simp, h3⟩
  simp only [Gh.fro, h4]
  exact if_neg hlB
end
end Go.Ab
