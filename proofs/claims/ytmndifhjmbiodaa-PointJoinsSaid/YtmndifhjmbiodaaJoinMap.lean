/- Classes of variables: the document's answer. -/
import Derived.Test.YtmndifhjmbiodaaJoinLib
import Derived.Test.YtmndifhjmbiodaaMaps
namespace Go.Ab
open Go
abbrev K2 : Ty := (Ty.int .i64).pair ((Ty.int .i64).pair Ty.unit)
abbrev M2 := List ((Int × Int × Unit) × Bool)
/-- is there an entry? -/
def tm (t : M2) (a b : Int) : Bool := (getM K2 Ty.bool t (a, b, ())).getD false
theorem tm_ins (t : M2) (x y a b : Int) : tm (insM K2 Ty.bool t (x, y, ()) true) a b = if a = x ∧ b = y then true else tm t a b := by
  unfold tm
  rw [getM_ins (k := K2) rfl]
  cases h : eqD K2 (x, y, ()) (a, b, ()) with
  | true =>
    have := (eqD_iff (k := K2) rfl (x, y, ()) (a, b, ())).1 h
    injection this with h1 h2
    injection h2 with h2 _
    rw [if_pos ⟨h1.symm, h2.symm⟩]; rfl
  | false =>
    rw [if_neg]
    rintro ⟨rfl, rfl⟩
    rw [(eqD_iff (k := K2) rfl (a, b, ()) (a, b, ())).2 rfl] at h; cases h

theorem tm_cons (p : (Int × Int × Unit) × Bool) (t : M2) (a b : Int) : tm (p :: t) a b = if p.1 = (a, b, ()) then p.2 else tm t a b := by
  unfold tm
  simp only [getM]
  cases h : eqD K2 p.1 (a, b, ()) with
  | true => rw [if_pos ((eqD_iff (k := K2) rfl p.1 (a, b, ())).1 h)]; rfl
  | false => rw [if_neg (fun e => by rw [(eqD_iff (k := K2) rfl p.1 (a, b, ())).2 e] at h; cases h)]

/-- entries that are all true, of pairs below n, none twice -/
def OKt (n : Nat) (t : M2) : Prop := (t.map fun p => p.1.1 * 8 + p.1.2.1).Nodup ∧ ∀ p ∈ t, p.2 = true ∧ (0 ≤ p.1.1 ∧ p.1.1 < n) ∧ (0 ≤ p.1.2.1 ∧ p.1.2.1 < n)

theorem tm_mem : ∀ {t : M2} (_ : ∀ p ∈ t, p.2 = true) {a b : Int}, tm t a b = true ↔ ((a, b, ()), true) ∈ t
  | [], _, a, b => by simp [tm, getM]
  | p :: t, h, a, b => by
    rw [tm_cons, List.mem_cons]
    have hp := h p (by simp)
    have ih := tm_mem (t := t) (fun q hq => h q (by simp [hq])) (a := a) (b := b)
    by_cases he : p.1 = (a, b, ())
    · rw [if_pos he, hp]
      simp only [true_iff]
      left
      exact Prod.ext he.symm hp.symm
    · rw [if_neg he, ih]
      constructor
      · exact .inr
      · rintro (h1 | h1)
        · exact absurd (by rw [← h1]) he
        · exact h1

theorem ins_old : ∀ {t : M2} (_ : ∀ p ∈ t, p.2 = true) {a b : Int}, tm t a b = true → insM K2 Ty.bool t (a, b, ()) true = t
  | [], _, a, b, h => by simp [tm, getM] at h
  | p :: t, h, a, b, ht => by
    have hp := h p (by simp)
    rw [tm_cons] at ht
    simp only [insM]
    by_cases he : p.1 = (a, b, ())
    · rw [(eqD_iff (k := K2) rfl p.1 (a, b, ())).2 he]
      show (p.1, true) :: t = p :: t
      rw [show (p.1, true) = p from Prod.ext rfl hp.symm]
    · rw [if_neg he] at ht
      have : eqD K2 p.1 (a, b, ()) = false := by
        cases hq : eqD K2 p.1 (a, b, ()) with
        | false => rfl
        | true => exact absurd ((eqD_iff (k := K2) rfl p.1 (a, b, ())).1 hq) he
      rw [this]
      show p :: insM K2 Ty.bool t (a, b, ()) true = p :: t
      rw [ins_old (fun q hq => h q (by simp [hq])) ht]
theorem ins_new : ∀ {t : M2} (_ : ∀ p ∈ t, p.2 = true) {a b : Int}, tm t a b = false → insM K2 Ty.bool t (a, b, ()) true = t ++ [((a, b, ()), true)]
  | [], _, a, b, _ => rfl
  | p :: t, h, a, b, ht => by
    have hp := h p (by simp)
    rw [tm_cons] at ht
    simp only [insM]
    by_cases he : p.1 = (a, b, ())
    · rw [if_pos he, hp] at ht; cases ht
    · rw [if_neg he] at ht
      have : eqD K2 p.1 (a, b, ()) = false := by
        cases hq : eqD K2 p.1 (a, b, ()) with
        | false => rfl
        | true => exact absurd ((eqD_iff (k := K2) rfl p.1 (a, b, ())).1 hq) he
      rw [this]
      show p :: insM K2 Ty.bool t (a, b, ()) true = p :: (t ++ [((a, b, ()), true)])
      rw [ins_new (fun q hq => h q (by simp [hq])) ht]

theorem OKt.tr {n : Nat} {t : M2} (h : OKt n t) : ∀ p ∈ t, p.2 = true := fun p hp => (h.2 p hp).1
theorem OKt.in {n : Nat} {t : M2} (h : OKt n t) {a b : Int} (hab : tm t a b = true) : (0 ≤ a ∧ a < n) ∧ (0 ≤ b ∧ b < n) := (h.2 _ ((tm_mem h.tr).1 hab)).2
theorem OKt.few {n : Nat} (h8 : n ≤ 8) {t : M2} (h : OKt n t) : t.length ≤ 64 := by
  have := nodup_fit 64 _ h.1 fun x hx => by
    obtain ⟨p, hp, rfl⟩ := List.mem_map.1 hx
    obtain ⟨_, ⟨a, b⟩, c, d⟩ := h.2 p hp
    show 0 ≤ p.1.1 * 8 + p.1.2.1 ∧ p.1.1 * 8 + p.1.2.1 < ((64 : Nat) : Int)
    omega
  simpa using this
theorem OKt.ins {n : Nat} (h8 : n ≤ 8) {t : M2} (h : OKt n t) {a b : Int} (ha : 0 ≤ a ∧ a < n) (hb : 0 ≤ b ∧ b < n) : OKt n (insM K2 Ty.bool t (a, b, ()) true) := by
  cases hq : tm t a b with
  | true => rw [ins_old h.tr hq]; exact h
  | false =>
    rw [ins_new h.tr hq]
    refine ⟨?_, fun p hp => ?_⟩
    · rw [List.map_append, List.nodup_append]
      refine ⟨h.1, by simp, fun x hx y hy he => ?_⟩
      rw [List.map_cons, List.map_nil, List.mem_singleton] at hy
      obtain ⟨p, hp, hpx⟩ := List.mem_map.1 hx
      obtain ⟨p1, ⟨p2, p3⟩, p4, p5⟩ := h.2 p hp
      simp only at hpx hy
      have e1 : p.1.1 = a := by omega
      have e2 : p.1.2.1 = b := by omega
      have : p = ((a, b, ()), true) := Prod.ext (Prod.ext e1 (Prod.ext e2 rfl)) p1
      rw [this] at hp
      rw [(tm_mem h.tr).2 hp] at hq; cases hq
    · rcases List.mem_append.1 hp with h1 | h1
      · exact h.2 p h1
      · rw [List.mem_singleton] at h1
        subst h1
        exact ⟨rfl, ha, hb⟩

/-- the state: one, to -/
abbrev SM := M2 × M2
def rm (s : SM) : R2 := fun t a b => match t with | true => tm s.1 a b | false => tm s.2 a b
def many2 (s : SM) : Nat := s.1.length + s.2.length
/-- a step -/
structure SpJ (vars : Int) (l : List Stp4) (n : Nat) (C : R2 → Prop) (s s' : SM) : Prop where
  le : leJ (rm s) (rm s')
  snd : SndJ vars l (rm s')
  ok1 : OKt n s'.1
  ok2 : OKt n s'.2
  grow : s' = s ∨ many2 s < many2 s'
  cl : s' = s → C (rm s)

section
variable {vars : Int} {l : List Stp4} {n : Nat} {C D : R2 → Prop} {s s' s'' : SM}
theorem SpJ.trans (h1 : SpJ vars l n C s s') (h2 : SpJ vars l n D s' s'') : SpJ vars l n (fun R => C R ∧ D R) s s'' := by
  refine ⟨fun t i j h => h2.le t i j (h1.le t i j h), h2.snd, h2.ok1, h2.ok2, ?_, fun e => ?_⟩
  · rcases h1.grow with rfl | a
    · exact h2.grow
    · rcases h2.grow with rfl | b
      · exact .inr a
      · exact .inr (by omega)
  · have e1 : s' = s := by
      rcases h1.grow with a | a
      · exact a
      · rcases h2.grow with b | b
        · rw [← b, e]
        · rw [e] at b; omega
    subst e1
    exact ⟨h1.cl rfl, h2.cl e⟩
theorem SpJ.weak (h : SpJ vars l n C s s') (hd : C (rm s) → D (rm s)) : SpJ vars l n D s s' := ⟨h.le, h.snd, h.ok1, h.ok2, h.grow, fun e => hd (h.cl e)⟩
theorem SpJ.same (h1 : OKt n s.1) (h2 : OKt n s.2) (hs : SndJ vars l (rm s)) (hc : C (rm s)) : SpJ vars l n C s s := ⟨fun _ _ _ h => h, hs, h1, h2, .inl rfl, fun _ => hc⟩

/-- the state with one more entry -/
def addS (t : Bool) (s : SM) (a b : Int) : SM := match t with | true => (insM K2 Ty.bool s.1 (a, b, ()) true, s.2) | false => (s.1, insM K2 Ty.bool s.2 (a, b, ()) true)
theorem add_J (h8 : n ≤ 8) (h1 : OKt n s.1) (h2 : OKt n s.2) (hs : SndJ vars l (rm s)) (t : Bool) {a b : Int} (ha : 0 ≤ a ∧ a < n) (hb : 0 ≤ b ∧ b < n) (hj : Jn vars l t a b) : SpJ vars l n (fun R => R t a b = true) s (addS t s a b) := by
  cases t with
  | true =>
    refine ⟨fun t i j h => ?_, fun t i j h => ?_, h1.ins h8 ha hb, h2, ?_, fun e => ?_⟩
    · cases t with
      | true => show tm (insM K2 Ty.bool s.1 (a, b, ()) true) i j = true; rw [tm_ins]; split; rfl; exact h
      | false => exact h
    · cases t with
      | true =>
        have h : tm (insM K2 Ty.bool s.1 (a, b, ()) true) i j = true := h
        rw [tm_ins] at h
        split at h
        · rename_i he; rw [he.1, he.2]; exact hj
        · exact hs true i j h
      | false => exact hs false i j h
    · cases hq : tm s.1 a b with
      | true => left; show (insM K2 Ty.bool s.1 (a, b, ()) true, s.2) = s; rw [ins_old h1.tr hq]
      | false => right; show _ < (insM K2 Ty.bool s.1 (a, b, ()) true).length + s.2.length; rw [ins_new h1.tr hq]; unfold many2; simp
    · have : insM K2 Ty.bool s.1 (a, b, ()) true = s.1 := congrArg Prod.fst e
      show tm s.1 a b = true
      rw [← this, tm_ins, if_pos ⟨rfl, rfl⟩]
  | false =>
    refine ⟨fun t i j h => ?_, fun t i j h => ?_, h1, h2.ins h8 ha hb, ?_, fun e => ?_⟩
    · cases t with
      | false => show tm (insM K2 Ty.bool s.2 (a, b, ()) true) i j = true; rw [tm_ins]; split; rfl; exact h
      | true => exact h
    · cases t with
      | false =>
        have h : tm (insM K2 Ty.bool s.2 (a, b, ()) true) i j = true := h
        rw [tm_ins] at h
        split at h
        · rename_i he; rw [he.1, he.2]; exact hj
        · exact hs false i j h
      | true => exact hs true i j h
    · cases hq : tm s.2 a b with
      | true => left; show (s.1, insM K2 Ty.bool s.2 (a, b, ()) true) = s; rw [ins_old h2.tr hq]
      | false => right; show _ < s.1.length + (insM K2 Ty.bool s.2 (a, b, ()) true).length; rw [ins_new h2.tr hq]; unfold many2; simp
    · have : insM K2 Ty.bool s.2 (a, b, ()) true = s.2 := congrArg Prod.snd e
      show tm s.2 a b = true
      rw [← this, tm_ins, if_pos ⟨rfl, rfl⟩]
/-- an entry is added where something is so -/
theorem addIf_J (h8 : n ≤ 8) (h1 : OKt n s.1) (h2 : OKt n s.2) (hs : SndJ vars l (rm s)) (t : Bool) (c : Bool) {a b : Int} (hj : c = true → Jn vars l t a b ∧ (0 ≤ a ∧ a < n) ∧ (0 ≤ b ∧ b < n)) : SpJ vars l n (fun R => c = true → R t a b = true) s (bif c then addS t s a b else s) := by
  cases c with
  | true =>
    obtain ⟨a1, a2, a3⟩ := hj rfl
    exact (add_J h8 h1 h2 hs t a2 a3 a1).weak fun h _ => h
  | false => exact SpJ.same h1 h2 hs fun h => by cases h

/-- a loop of steps -/
theorem loop_sp {ρ : Type} {N : Int} {F : Nat → Int → SM → Option ρ} (C : Int → R2 → Prop) (h1 : OKt n s.1) (h2 : OKt n s.2) (hs : SndJ vars l (rm s))
    (h : ∀ (fu : Nat) (t : Int) (s : SM), 0 ≤ t → t < N → OKt n s.1 → OKt n s.2 → SndJ vars l (rm s) → ∃ s', F (fu + 1) t s = F fu (t + 1) s' ∧ SpJ vars l n (C t) s s') (fu : Nat) (hN : 0 ≤ N) (hfu : N < fu) :
    ∃ (fu' : Nat) (s' : SM), SpJ vars l n (fun R => ∀ t, 0 ≤ t → t < N → C t R) s s' ∧ F fu 0 s = F (fu' + 1) N s' := by
  obtain ⟨fu', s', q, e⟩ := loop_inv (n := N) (F := F) (fun t s' => SpJ vars l n (fun R => ∀ u, 0 ≤ u → u < t → C u R) s s') (fun fu t s1 h0 ht hI => by
    obtain ⟨s2, e1, e2⟩ := h fu t s1 h0 ht hI.ok1 hI.ok2 hI.snd
    refine ⟨s2, e1, ?_⟩
    have := hI.trans e2
    exact this.weak fun hc u u0 u1 => by
      by_cases hut : u = t
      · subst hut; exact hc.2
      · exact hc.1 u u0 (by omega)) fu 0 s (by omega) hN (by omega) (SpJ.same h1 h2 hs fun u a b => by omega)
  exact ⟨fu', s', q, e⟩
end
end Go.Ab
namespace Go.Proofs.Ytmndifhjmbiodaa
open Go Go.Ab S

/-- the word of a list -/
def wd (l : List Int) : Int := l.foldl (fun s x => or32 s (shlI .u32 1 x)) 0
theorem wd_snoc (l : List Int) (x : Int) : wd (l ++ [x]) = or32 (wd l) (shlI .u32 1 x) := by simp [wd, List.foldl_append]
theorem wd_ok_aux : ∀ (l : List Int) (s : Int), W32 s → (∀ x ∈ l, 0 ≤ x ∧ x < 32) → W32 (l.foldl (fun s x => or32 s (shlI .u32 1 x)) s) ∧ ∀ i : Nat, bt (l.foldl (fun s x => or32 s (shlI .u32 1 x)) s) i = (bt s i || decide ((i : Int) ∈ l))
  | [], s, hs, _ => ⟨hs, fun i => by simp⟩
  | x :: l, s, hs, h => by
    have hx := h x (by simp)
    obtain ⟨h1, h2⟩ := wd_ok_aux l (or32 s (shlI .u32 1 x)) (or32_w _ _) fun y hy => h y (by simp [hy])
    refine ⟨h1, fun i => ?_⟩
    rw [List.foldl_cons, h2, or32_bt hs (one_w hx.1 hx.2), one_bt hx.1 hx.2]
    by_cases hi : (i : Int) = x
    · have h3 : i = x.toNat := by omega
      have h4 : (i : Int) ∈ x :: l := by rw [hi]; simp
      rw [decide_eq_true h3, decide_eq_true h4]
      simp
    · have h3 : ¬ i = x.toNat := by omega
      simp [hi, h3]
theorem wd_w {l : List Int} (h : ∀ x ∈ l, 0 ≤ x ∧ x < 32) : W32 (wd l) := (wd_ok_aux l 0 W32_zero h).1
theorem wd_bt {l : List Int} (h : ∀ x ∈ l, 0 ≤ x ∧ x < 32) (i : Nat) : bt (wd l) i = decide ((i : Int) ∈ l) := by
  rw [wd, (wd_ok_aux l 0 W32_zero h).2, bt_zero, Bool.false_or]

theorem set_F {nf : Nat} (l : List Int) (hl : l.length ≤ maxLen) (hf : l.length < nf) (h : ∀ x ∈ l, 0 ≤ x ∧ x < 32) : ref_Set_f nf l = some (wd l, ()) := by
  have h9 := loop_all (l := l) (d := 0) (F := fun fu t (s : Int) => ref_Set_l0 nf l fu s t) (fin := fun s => some (s, ()))
    (step := fun x _ s k => bif decide (0 ≤ IntKind.u64.wrap x) then k (or32 s (shlI .u32 1 (IntKind.u64.wrap x))) else none) ?_ ?_ nf 0 hf
  · show ref_Set_l0 nf l nf 0 0 = _
    rw [show ref_Set_l0 nf l nf 0 0 = _ from h9]
    refine goL_fold (fun _ => True) l 0 0 trivial fun x hx t s k _ => ⟨?_, trivial⟩
    obtain ⟨h1, h2⟩ := h x hx
    rw [Go.IntWalk.u64_in x ⟨h1, by omega⟩]
    simp [h1]
  · intro fu t s a b
    simp only [ref_Set_l0, ref_Set_b0, inb_ok a b, wrap_step a b hl, b, decide_true, cond_true]
    rfl
  · intro fu t s a
    simp [ref_Set_l0, ref_Set_b0, a]
end Go.Proofs.Ytmndifhjmbiodaa
