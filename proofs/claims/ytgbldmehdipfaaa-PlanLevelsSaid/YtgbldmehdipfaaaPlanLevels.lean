/- plan.Levels tells of each task how many there are on the longest way from it on. -/
import Derived.Test.YtgbldmehdipfaaaPlan
import Derived.Test.YtgbldmehdipfaaaAbLaw
namespace Go.Proofs.Ytgbldmehdipfaaa
open Go Go.Ab S

variable {n : Int} {pairs : List Pr} {nf : Nat}

def mxL (f : Int → Int) (l : List Int) (m : Int) : Int := l.foldl (fun m j => if f j > m then f j else m) m
theorem mxL_ge (f : Int → Int) : ∀ (l : List Int) (m : Int), m ≤ mxL f l m ∧ ∀ j ∈ l, f j ≤ mxL f l m
  | [], m => ⟨Int.le_refl _, by simp⟩
  | x :: l, m => by
    obtain ⟨h1, h2⟩ := mxL_ge f l (if f x > m then f x else m)
    have e : mxL f (x :: l) m = mxL f l (if f x > m then f x else m) := rfl
    rw [e]
    refine ⟨?_, fun j hj => ?_⟩
    · split at h1 <;> split <;> first | omega | (rename_i a b; exact absurd a b) | (rename_i a b; exact absurd b a)
    · rcases List.mem_cons.1 hj with rfl | hj
      · split at h1 <;> split <;> first | omega | (rename_i a b; exact absurd a b) | (rename_i a b; exact absurd b a)
      · exact h2 j hj
theorem mxL_at (f : Int → Int) : ∀ (l : List Int) (m : Int), mxL f l m = m ∨ ∃ j ∈ l, mxL f l m = f j
  | [], m => .inl rfl
  | x :: l, m => by
    have e : mxL f (x :: l) m = mxL f l (if f x > m then f x else m) := rfl
    rw [e]
    rcases mxL_at f l (if f x > m then f x else m) with h | ⟨j, hj, h⟩
    · by_cases c : f x > m
      · rw [if_pos c] at h ⊢; exact .inr ⟨x, by simp, h⟩
      · rw [if_neg c] at h ⊢; exact .inl h
    · exact .inr ⟨j, by simp [hj], h⟩
theorem mxL_congr {f g : Int → Int} : ∀ {l : List Int} {m : Int}, (∀ j ∈ l, f j = g j) → mxL f l m = mxL g l m
  | [], _, _ => rfl
  | x :: l, m, h => by
    show mxL f l (if f x > m then f x else m) = mxL g l (if g x > m then g x else m)
    rw [h x (by simp)]
    exact mxL_congr fun j hj => h j (by simp [hj])

def lvN (next : List (List Int)) : Nat → Int → Int
  | 0, _ => 0
  | k + 1, i => mxL (lvN next k) (nexts next i) 0 + 1

open Classical in
noncomputable def dc (n : Int) (pairs : List Pr) (i : Int) : Nat := cnt (fun j => decide (Tr pairs i j)) n.toNat
theorem dc_lt (h : PairsOK n pairs) (ha : Acyc pairs) {i j : Int} (hp : pre pairs i j) : dc n pairs j < dc n pairs i := by
  classical
  have hr := h.pre hp
  refine cnt_lt (fun k _ hk => ?_) ⟨j.toNat, by omega, ?_, ?_⟩
  · simp only [decide_eq_true_eq] at hk ⊢
    exact Tr.trans (.one hp) hk
  · simp only [decide_eq_false_iff_not, show ((j.toNat : Nat) : Int) = j by omega]
    exact ha j
  · simp only [decide_eq_true_eq, show ((j.toNat : Nat) : Int) = j by omega]
    exact .one hp
theorem dc_few (h : PairsOK n pairs) (ha : Acyc pairs) {i : Int} (h0 : 0 ≤ i) (h1 : i < n) : (dc n pairs i : Int) < n := by
  classical
  have := cnt_lt (p := fun j : Nat => decide (Tr pairs i j)) (q := fun _ => true) (n := n.toNat) (fun _ _ _ => rfl) ⟨i.toNat, by omega, by
    simp only [decide_eq_false_iff_not, show ((i.toNat : Nat) : Int) = i by omega]
    exact ha i, rfl⟩
  have h2 := cnt_n (fun _ => true) n.toNat
  have : dc n pairs i < n.toNat := Nat.lt_of_lt_of_le this h2
  omega
theorem lvN_same (h : PairsOK n pairs) (ha : Acyc pairs) : ∀ (k k' : Nat) (i : Int), 0 ≤ i → i < n → dc n pairs i < k → dc n pairs i < k' → lvN (behinds n pairs) k i = lvN (behinds n pairs) k' i
  | 0, _, _, _, _, hk, _ => by omega
  | _ + 1, 0, _, _, _, _, hk => by omega
  | k + 1, k' + 1, i, h0, h1, hk, hk' => by
    simp only [lvN]
    rw [mxL_congr fun j hj => ?_]
    have hp := (mem_behinds h h0 h1).1 hj
    have hr := h.pre hp
    have hd := dc_lt h ha hp
    exact lvN_same h ha k k' j hr.2.1 hr.2.2 (by omega) (by omega)
noncomputable def lev (n : Int) (pairs : List Pr) (i : Int) : Int := lvN (behinds n pairs) 9 i
theorem lev_eq (h : PairsOK n pairs) (ha : Acyc pairs) {i : Int} (h0 : 0 ≤ i) (h1 : i < n) : lev n pairs i = mxL (lev n pairs) (nexts (behinds n pairs) i) 0 + 1 := by
  have hd := dc_few h ha h0 h1
  have h8 := h.few
  have : lev n pairs i = lvN (behinds n pairs) (9 + 1) i := lvN_same h ha 9 10 i h0 h1 (by omega) (by omega)
  rw [this]
  rfl
theorem lev_pos (h : PairsOK n pairs) (ha : Acyc pairs) {i : Int} (h0 : 0 ≤ i) (h1 : i < n) : 1 ≤ lev n pairs i := by
  rw [lev_eq h ha h0 h1]
  have := (mxL_ge (lev n pairs) (nexts (behinds n pairs) i) 0).1
  omega
theorem lev_up (h : PairsOK n pairs) (ha : Acyc pairs) {i j : Int} (hp : pre pairs i j) : lev n pairs j + 1 ≤ lev n pairs i := by
  have hr := h.pre hp
  rw [lev_eq h ha hr.1.1 hr.1.2]
  have := (mxL_ge (lev n pairs) (nexts (behinds n pairs) i) 0).2 j ((mem_behinds h hr.1.1 hr.1.2).2 hp)
  omega
theorem lev_down (h : PairsOK n pairs) (ha : Acyc pairs) {i : Int} (h0 : 0 ≤ i) (h1 : i < n) : lev n pairs i = 1 ∨ ∃ j, pre pairs i j ∧ lev n pairs i = lev n pairs j + 1 := by
  have e := lev_eq h ha h0 h1
  rcases mxL_at (lev n pairs) (nexts (behinds n pairs) i) 0 with hm | ⟨j, hj, hm⟩
  · rw [hm] at e; exact .inl e
  · rw [hm] at e; exact .inr ⟨j, (mem_behinds h h0 h1).1 hj, e⟩
theorem lev_few (h : PairsOK n pairs) (ha : Acyc pairs) : ∀ (k : Nat) (i : Int), 0 ≤ i → i < n → dc n pairs i < k → lev n pairs i ≤ dc n pairs i + 1
  | 0, _, _, _, hk => by omega
  | k + 1, i, h0, h1, hk => by
    rcases lev_down h ha h0 h1 with e | ⟨j, hp, e⟩
    · omega
    · have hr := h.pre hp
      have hd := dc_lt h ha hp
      have := lev_few h ha k j hr.2.1 hr.2.2 (by omega)
      omega

theorem level_F (h : PairsOK n pairs) (ha : Acyc pairs) : ∀ (fu : Nat) (i : Int), 0 ≤ i → i < n → dc n pairs i + 30 < fu → ref_Level_F fu (behinds n pairs, i, ()) = some (lev n pairs i, ())
  | 0, i, _, _, hk => by omega
  | fu + 1, i, h0, h1, hk => by
    have hbl := behinds_len n pairs
    have h8 := h.few
    have hW := behinds_ok h
    have hi : i < ((behinds n pairs).length : Int) := by omega
    have hthin := hW.thin _ (nexts_mem h0 hi)
    show ref_Level_f fu (ref_Level_F fu) (behinds n pairs) i = _
    have fold : (behinds n pairs).getD i.toNat [] = nexts (behinds n pairs) i := rfl
    simp only [ref_Level_f, ref_Level_p, inb_ok h0 hi, cond_true]
    have key : ∀ (n' : Nat) (m t : Int), 0 ≤ t → t ≤ (nexts (behinds n pairs) i).length → (nexts (behinds n pairs) i).length < t + n' → 0 ≤ m → m ≤ 9 →
        ref_Level_l0 fu (ref_Level_F fu) (behinds n pairs) i n' m t = some (mxL (lev n pairs) ((nexts (behinds n pairs) i).drop t.toNat) m + 1, ()) := by
      intro n'
      induction n' with
      | zero => intro m t a b c; omega
      | succ n' ih =>
        intro m t a b c m0 m1
        rw [ref_Level_l0, ref_Level_b0]
        by_cases ht : t < (nexts (behinds n pairs) i).length
        · have hp := (mem_behinds h h0 h1).1 (getD_mem (d := 0) a ht)
          have hr := h.pre hp
          have hd := dc_lt h ha hp
          have hlp := lev_pos h ha hr.2.1 hr.2.2
          have hlf := lev_few h ha _ _ hr.2.1 hr.2.2 (Nat.lt_succ_self _)
          have hdf := dc_few h ha hr.2.1 hr.2.2
          rw [drop_step _ t 0 a ht]
          simp only [fold, ht, decide_true, cond_true, inb_ok a ht, level_F h ha fu _ hr.2.1 hr.2.2 (by omega), Option.bind_some, wrap_step (n := (nexts (behinds n pairs) i).length) a ht (Nat.le_trans hthin (by decide))]
          have e : ∀ x r, mxL (lev n pairs) (x :: r) m = mxL (lev n pairs) r (if lev n pairs x > m then lev n pairs x else m) := fun _ _ => rfl
          rw [e]
          by_cases c1 : lev n pairs ((nexts (behinds n pairs) i).getD t.toNat 0) > m
          · simp only [c1, decide_true, cond_true, if_true]
            exact ih _ (t + 1) (by omega) (by omega) (by omega) (by omega) (by omega)
          · simp only [c1, decide_false, cond_false, if_false]
            exact ih _ (t + 1) (by omega) (by omega) (by omega) m0 m1
        · have he : (nexts (behinds n pairs) i).drop t.toNat = [] := List.drop_eq_nil_of_le (by omega)
          simp only [fold, ht, decide_false, cond_false, he, wrap_step (t := m) (n := 100) m0 (by omega) (by decide)]
          rfl
    have k0 := key fu 0 0 (by omega) (by omega) (by omega) (by omega) (by omega)
    rw [k0, Int.toNat_zero, List.drop_zero, ← lev_eq h ha h0 h1]

/-! the program's rounds -/
variable {l : List Int}
def at0 (o : List Int) (i : Int) : Int := o.getD i.toNat 0
theorem at0_set {o : List Int} {i : Int} (h0 : 0 ≤ i) (h1 : i < o.length) (v : Int) {x : Int} (hx : 0 ≤ x) : at0 (o.set i.toNat v) x = if x = i then v else at0 o x := by
  simp only [at0]
  rw [getD_upd (by omega)]
  by_cases c : x = i
  · rw [if_pos (by omega), if_pos c]
  · rw [if_neg (by omega), if_neg c]
def LvOK (n : Int) (pairs : List Pr) (o : List Int) : Prop := o.length = n.toNat ∧ ∀ x, 0 ≤ x → x < n → 0 ≤ at0 o x ∧ at0 o x ≤ lev n pairs x
theorem levels_l4 (h : PairsOK n pairs) (ha : Acyc pairs) (hl : AheadOK n pairs l) {i t24 : Int} {l' out2 : List Int} {g2 g0 : List Int → List Int → Int → Option (List Int × Int × Unit)} (h0 : 0 ≤ i) (h1 : i < n) (ho2 : out2.length = n.toNat) : ∀ (fu : Nat) (t : Int) (o : List Int), 0 ≤ t → t ≤ n → n < t + fu → LvOK n pairs o →
    ∃ o', LvOK n pairs o' ∧ (∀ x, 0 ≤ x → x < n → at0 o x ≤ at0 o' x) ∧ (∀ j, t ≤ j → pre pairs j i → at0 o i + 1 ≤ at0 o' j) ∧ plan_Levels_l4 nf i l n t24 l' out2 g2 g0 fu l o t = g2 l o' (IntKind.i64.wrap (i + 1))
  | 0, t, o, a, b, c, _ => by omega
  | fu + 1, t, o, a, b, c, ho => by
    have h8 := h.few
    rw [plan_Levels_l4, plan_Levels_b4]
    simp only [List.length_set, ho2]
    by_cases ht : t < n
    · have ht' : t < ((n.toNat : Nat) : Int) := by omega
      have e1 := shr_and_beq1 (hl.w i.toNat) a (show t < 32 by omega)
      simp only [and32] at e1
      have hbit := hl.bit i.toNat t.toNat (by omega)
      simp only [show ((i.toNat : Nat) : Int) = i by omega, show ((t.toNat : Nat) : Int) = t by omega] at hbit
      have hol := ho.1
      have hw1 : IntKind.i64.wrap (t + 1) = t + 1 := wrap_step (n := 9) a (by omega) (by decide)
      simp only [ht', decide_true, cond_true, decide_eq_true a, e1, hbit, hw1]
      by_cases hp : pre pairs t i
      · have hoi := ho.2 i h0 h1
        have hot := ho.2 t a ht
        have hup := lev_up h ha hp
        have hfew := lev_few h ha _ i h0 h1 (Nat.lt_succ_self _)
        have hdf := dc_few h ha h0 h1
        have hw2 : IntKind.i64.wrap (o.getD i.toNat 0 + 1) = o.getD i.toNat 0 + 1 := wrap_step (n := 100) hoi.1 (by simp only [at0] at hoi; omega) (by decide)
        simp only [hp, decide_true, cond_true, inb_ok (n := o.length) a (by omega), inb_ok (n := o.length) h0 (by omega), hw2]
        have hv : ∀ v, v = (if o.getD i.toNat 0 + 1 > o.getD t.toNat 0 then o.getD i.toNat 0 + 1 else o.getD t.toNat 0) → at0 o i + 1 ≤ v ∧ at0 o t ≤ v ∧ v ≤ lev n pairs t := fun v hv => by
          subst hv
          simp only [at0] at hoi hot ⊢
          split <;> omega
        generalize hve : (if o.getD i.toNat 0 + 1 > o.getD t.toNat 0 then o.getD i.toNat 0 + 1 else o.getD t.toNat 0) = v at hv ⊢
        obtain ⟨v1, v2, v3⟩ := hv v rfl
        have hset : ∀ x, 0 ≤ x → at0 (o.set t.toNat v) x = if x = t then v else at0 o x := fun x hx => at0_set a (by omega) v hx
        obtain ⟨o', g1, g2', g3, g4⟩ := levels_l4 (g2 := g2) (g0 := g0) (t24 := t24) (l' := l') h ha hl h0 h1 ho2 fu (t + 1) (o.set t.toNat v) (by omega) (by omega) (by omega) ⟨by simp [hol], fun x x0 x1 => by
          rw [hset x x0]
          split
          · rename_i e; subst e; omega
          · exact ho.2 x x0 x1⟩
        have hge : ∀ x, 0 ≤ x → x < n → at0 o x ≤ at0 (o.set t.toNat v) x := fun x x0 x1 => by
          rw [hset x x0]
          split
          · rename_i e; subst e; exact v2
          · exact Int.le_refl _
        refine ⟨o', g1, fun x x0 x1 => Int.le_trans (hge x x0 x1) (g2' x x0 x1), fun j hj hjp => ?_, g4⟩
        by_cases c1 : j = t
        · subst c1
          have := g2' j a ht
          rw [hset j a, if_pos rfl] at this
          omega
        · have := g3 j (by omega) hjp
          have := hge i h0 h1
          omega
      · simp only [hp, decide_false, cond_false]
        obtain ⟨o', g1, g2', g3, g4⟩ := levels_l4 (g2 := g2) (g0 := g0) (t24 := t24) (l' := l') h ha hl h0 h1 ho2 fu (t + 1) o (by omega) (by omega) (by omega) ho
        refine ⟨o', g1, g2', fun j hj hjp => ?_, g4⟩
        have : j ≠ t := fun e => hp (e ▸ hjp)
        exact g3 j (by omega) hjp
    · have ht' : ¬ t < ((n.toNat : Nat) : Int) := by omega
      simp only [ht', decide_false, cond_false]
      refine ⟨o, ho, fun x _ _ => Int.le_refl _, fun j hj hjp => ?_, rfl⟩
      have := (h.pre hjp).1
      omega

theorem levels_l2 (h : PairsOK n pairs) (ha : Acyc pairs) (hn : 60 ≤ nf) (hl : AheadOK n pairs l) {t24 : Int} {g0 : List Int → List Int → Int → Option (List Int × Int × Unit)} : ∀ (fu : Nat) (i : Int) (o : List Int), 0 ≤ i → i ≤ n → n < i + fu → LvOK n pairs o →
    ∃ o', LvOK n pairs o' ∧ (∀ x, 0 ≤ x → x < n → at0 o x ≤ at0 o' x) ∧ (∀ x, i ≤ x → x < n → 1 ≤ at0 o' x) ∧ (∀ x j, i ≤ x → pre pairs j x → at0 o x + 1 ≤ at0 o' j) ∧ plan_Levels_l2 nf n t24 l g0 fu l o i = g0 l o' (IntKind.i64.wrap (t24 + 1))
  | 0, t, o, a, b, c, _ => by omega
  | fu + 1, i, o, a, b, c, ho => by
    have h8 := h.few
    have hll := hl.len
    have hol := ho.1
    rw [plan_Levels_l2, plan_Levels_b2]
    by_cases hi : i < n
    · have hi' : i < (l.length : Int) := by omega
      have hoi := ho.2 i a hi
      have hlp := lev_pos h ha a hi
      simp only [hi', decide_true, cond_true, inb_ok a hi', inb_ok (n := o.length) a (by omega)]
      have hv : ∀ v, v = (if 1 > o.getD i.toNat 0 then 1 else o.getD i.toNat 0) → 1 ≤ v ∧ at0 o i ≤ v ∧ v ≤ lev n pairs i := fun v hv => by
        subst hv
        simp only [at0] at hoi ⊢
        split <;> omega
      generalize (if 1 > o.getD i.toNat 0 then 1 else o.getD i.toNat 0) = v at hv ⊢
      obtain ⟨v1, v2, v3⟩ := hv v rfl
      have hset : ∀ x, 0 ≤ x → at0 (o.set i.toNat v) x = if x = i then v else at0 o x := fun x hx => at0_set a (by omega) v hx
      obtain ⟨o1, p1, p2, p3, p4⟩ := levels_l4 (nf := nf) (g2 := fun l'2 out2 t28 => plan_Levels_l2 nf n t24 l g0 fu l'2 out2 t28) (g0 := g0) (t24 := t24) (l' := l) (out2 := o) h ha hl a hi ho.1 nf 0 (o.set i.toNat v) (by omega) (by omega) (by omega) ⟨by simp [hol], fun x x0 x1 => by
          rw [hset x x0]
          split
          · rename_i e; subst e; omega
          · exact ho.2 x x0 x1⟩
      have hge : ∀ x, 0 ≤ x → x < n → at0 o x ≤ at0 o1 x := fun x x0 x1 => by
        have := p2 x x0 x1
        rw [hset x x0] at this
        split at this
        · rename_i e; subst e; omega
        · exact this
      have hw : IntKind.i64.wrap (i + 1) = i + 1 := wrap_step (n := 9) a (by omega) (by decide)
      obtain ⟨o2, q1, q2, q3, q4, q5⟩ := levels_l2 (g0 := g0) (t24 := t24) h ha hn hl fu (i + 1) o1 (by omega) (by omega) (by omega) p1
      have e0 := p2 i a hi
      rw [hset i a, if_pos rfl] at e0
      refine ⟨o2, q1, fun x x0 x1 => Int.le_trans (hge x x0 x1) (q2 x x0 x1), fun x hx x1 => ?_, fun x j hx hp => ?_, ?_⟩
      · by_cases c1 : x = i
        · subst c1
          have := q2 x a hi
          omega
        · exact q3 x (by omega) x1
      · have hr := h.pre hp
        by_cases c1 : x = i
        · subst c1
          have f1 := p3 j hr.1.1 hp
          rw [hset x a, if_pos rfl] at f1
          have f2 := q2 j hr.1.1 hr.1.2
          omega
        · have f1 := q4 x j (by omega) hp
          have f2 := hge x hr.2.1 hr.2.2
          omega
      · rw [p4, hw]; exact q5
    · have hi' : ¬ i < (l.length : Int) := by omega
      simp only [hi', decide_false, cond_false]
      refine ⟨o, ho, fun x _ _ => Int.le_refl _, fun x hx x1 => by omega, fun x j hx hp => ?_, rfl⟩
      have := (h.pre hp).2
      omega

theorem levels_l0 (h : PairsOK n pairs) (ha : Acyc pairs) (hn : 60 ≤ nf) (hl : AheadOK n pairs l) : ∀ (fu : Nat) (r : Int) (o : List Int), 0 ≤ r → r ≤ n → n < r + fu → LvOK n pairs o → (∀ x, 0 ≤ x → x < n → lev n pairs x ≤ r → at0 o x = lev n pairs x) →
    ∃ o', o'.length = n.toNat ∧ (∀ x, 0 ≤ x → x < n → at0 o' x = lev n pairs x) ∧ plan_Levels_l0 nf n fu l o r = some (o', 0, ())
  | 0, t, o, a, b, c, _, _ => by omega
  | fu + 1, r, o, a, b, c, ho, hr => by
    have h8 := h.few
    rw [plan_Levels_l0, plan_Levels_b0]
    by_cases hi : r < n
    · simp only [hi, decide_true, cond_true]
      obtain ⟨o1, q1, q2, q3, q4, q5⟩ := levels_l2 (nf := nf) (t24 := r) (g0 := fun l' out t24 => plan_Levels_l0 nf n fu l' out t24) h ha hn hl nf 0 o (by omega) (by have := h.pos; omega) (by omega) ho
      have hw : IntKind.i64.wrap (r + 1) = r + 1 := wrap_step (n := 9) a (by omega) (by decide)
      rw [q5, hw]
      refine levels_l0 h ha hn hl fu (r + 1) o1 (by omega) (by omega) (by omega) q1 fun x x0 x1 hx => ?_
      have u1 := (q1.2 x x0 x1).2
      by_cases c1 : lev n pairs x ≤ r
      · have := hr x x0 x1 c1
        have := q2 x x0 x1
        omega
      · rcases lev_down h ha x0 x1 with e | ⟨j, hp, e⟩
        · have := q3 x x0 x1
          omega
        · have hj := h.pre hp
          have e1 := hr j hj.2.1 hj.2.2 (by omega)
          have e2 := q4 j x hj.2.1 hp
          omega
    · simp only [hi, decide_false, cond_false]
      refine ⟨o, ho.1, fun x x0 x1 => hr x x0 x1 ?_, rfl⟩
      have := lev_few h ha _ x x0 x1 (Nat.lt_succ_self _)
      have := dc_few h ha x0 x1
      omega

theorem planLevels_main (hn : 60 ≤ nf) (n : Int) (pairs : List Pr) : law_PlanLevels_f nf n pairs = some (true, ()) := by
  obtain ⟨l, h1, h2, h3⟩ := ahead_F (n := n) (pairs := pairs) hn
  simp only [law_PlanLevels_f, law_PlanLevels_p, plan_Levels_f, plan_Levels_p, h3, Option.bind_some, tasks_F hn]
  by_cases hc : taskCode n pairs = 0
  · have hok : PairsOK n pairs ∧ Acyc pairs := by
      unfold taskCode at hc
      split at hc
      · rename_i h0
        split at hc
        · rename_i ha; exact ⟨pairsCode_ok h0, ha⟩
        · omega
      · rename_i h0; exact absurd hc h0
    obtain ⟨h, ha⟩ := hok
    have hp := h.pos
    have h8 := h.few
    have hlim : decide (n ≤ (lim : Int)) = true := decide_eq_true (by show n ≤ 4294967296; omega)
    have z : ∀ x, at0 (List.replicate n.toNat (0 : Int)) x = 0 := fun x => by
      simp only [at0, List.getD_eq_getElem?_getD, List.getElem?_replicate]
      split <;> rfl
    obtain ⟨o, g1, g2, g3⟩ := levels_l0 h ha hn (h1 hc) nf 0 (List.replicate n.toNat 0) (by omega) (by omega) (by omega) ⟨by simp, fun x x0 x1 => by
      rw [z x]; have := lev_pos h ha x0 x1; omega⟩ fun x x0 x1 hx => by have := lev_pos h ha x0 x1; omega
    simp only [hc, show ((0 : Int) != 0) = false from rfl, cond_false, decide_eq_true (show (0 : Int) ≤ n by omega), Int.le_refl, decide_true, hlim, Bool.and_self, cond_true, g3, Option.bind_some]
    have key : ∀ (fu : Nat) (i : Int), 0 ≤ i → i ≤ n → n < i + fu → law_PlanLevels_l0 nf n pairs (o, 0, ()) fu o i = some (true, ()) := by
      intro fu
      induction fu with
      | zero => intro i a b c; omega
      | succ fu ih =>
        intro i a b c
        rw [law_PlanLevels_l0, law_PlanLevels_b0]
        have hol : (o.length : Int) = n := by omega
        by_cases hi : i < n
        · have e := g2 i a hi
          have hd := dc_few h ha a hi
          simp only [at0] at e
          simp only [hi, decide_true, cond_true, hol, inb_ok (n := o.length) a (by omega), behinds_F h hn, Option.bind_some, level_F h ha nf i a hi (by omega), e, bne_self_eq_false, cond_false, wrap_step (n := 9) a (by omega) (by decide), ih (i + 1) (by omega) (by omega) (by omega)]
        · simp [hi, hol]
    exact key nf 0 (by omega) (by omega) (by omega)
  · simp [bne_t hc, h2 hc]

theorem planLevels_law (x : denPs (lawPs [.int .i64, .sl (.pair (.int .i64) (.pair (.int .i64) (.unit)))])) (_ : wfPs [.int .i64, .sl (.pair (.int .i64) (.pair (.int .i64) (.unit)))] x) : ∃ n, law_PlanLevels_F n x = some (true, ()) := by
  obtain ⟨n, pairs, _⟩ := x
  exact ⟨60, planLevels_main (Nat.le_refl _) n pairs⟩
end Go.Proofs.Ytgbldmehdipfaaa
