/- A cover of a tree, walked from its last term on: each term at most once. -/
import Derived.Test.YtpnganfbonlphaaTiles
namespace Go.Proofs.Ytpnganfbonlphaa
open Go Go.Ab S

variable {l : List Term5}

/-- how often term x is met from term q on -/
def occN (l : List Term5) (x : Int) : Nat → Int → Int
  | 0, _ => 0
  | n + 1, q => (if x = q then 1 else 0) + (if (l.getD q.toNat T0).1 > 2 then occN l x n (l.getD q.toNat T0).2.1 + occN l x n (l.getD q.toNat T0).2.2.1 else 0)
theorem occN_succ (x : Int) (n : Nat) (q : Int) : occN l x (n + 1) q = (if x = q then 1 else 0) + (if (l.getD q.toNat T0).1 > 2 then occN l x n (l.getD q.toNat T0).2.1 + occN l x n (l.getD q.toNat T0).2.2.1 else 0) := rfl
theorem occN_fuel (h : TermsOK l) {x : Int} : ∀ (n m : Nat) (q : Int), 0 ≤ q → q < l.length → q < n → q < m → occN l x n q = occN l x m q
  | 0, _, q, _, _, _, _ => by omega
  | _ + 1, 0, q, _, _, _, _ => by omega
  | n + 1, m + 1, q, h0, h1, h2, h3 => by
    simp only [occN]
    by_cases hb : (l.getD q.toNat T0).1 > 2
    · rw [if_pos hb, if_pos hb]
      obtain ⟨b1, b2, b3, b4⟩ := h.back q h0 h1 hb
      rw [occN_fuel h n m _ b1 (by omega) (by omega) (by omega), occN_fuel h n m _ b3 (by omega) (by omega) (by omega)]
    · rw [if_neg hb, if_neg hb]
def oc (l : List Term5) (x q : Int) : Int := occN l x 17 q
theorem oc_eq (h : TermsOK l) {x q : Int} (h0 : 0 ≤ q) (h1 : q < l.length) : oc l x q = (if x = q then 1 else 0) + (if (l.getD q.toNat T0).1 > 2 then oc l x (l.getD q.toNat T0).2.1 + oc l x (l.getD q.toNat T0).2.2.1 else 0) := by
  have hf := h.few
  show occN l x (16 + 1) q = _
  rw [occN_succ]
  by_cases hb : (l.getD q.toNat T0).1 > 2
  · rw [if_pos hb, if_pos hb]
    obtain ⟨b1, b2, b3, b4⟩ := h.back q h0 h1 hb
    simp only [oc]
    rw [occN_fuel h 16 17 _ b1 (by omega) (by omega) (by omega), occN_fuel h 16 17 _ b3 (by omega) (by omega) (by omega)]
  · rw [if_neg hb, if_neg hb]
theorem occN_nn (x : Int) : ∀ (n : Nat) (q : Int), 0 ≤ occN l x n q
  | 0, _ => by simp [occN]
  | n + 1, q => by
    have h1 := occN_nn x n (l.getD q.toNat T0).2.1
    have h2 := occN_nn x n (l.getD q.toNat T0).2.2.1
    simp only [occN]
    split <;> split <;> omega
theorem oc_nn (x q : Int) : 0 ≤ oc l x q := occN_nn x 17 q
theorem oc_self (q : Int) : 1 ≤ oc l q q := by
  have h1 := occN_nn (l := l) q 16 (l.getD q.toNat T0).2.1
  have h2 := occN_nn (l := l) q 16 (l.getD q.toNat T0).2.2.1
  show 1 ≤ occN l q (16 + 1) q
  rw [occN_succ, if_pos rfl]
  split <;> omega

def sumU (l : List Term5) (x : Int) (f : Int → Int) : Nat → Int
  | 0 => 0
  | n + 1 => sumU l x f n + f n * use1 x (l.getD n T0)
theorem sumU_add (x : Int) (f g : Int → Int) : ∀ n, sumU l x (fun t => f t + g t) n = sumU l x f n + sumU l x g n
  | 0 => rfl
  | n + 1 => by simp only [sumU, sumU_add x f g n, Int.add_mul]; omega
theorem sumU_congr {x : Int} {f g : Int → Int} : ∀ n : Nat, (∀ t : Nat, t < n → f t = g t) → sumU l x f n = sumU l x g n
  | 0, _ => rfl
  | n + 1, h => by simp only [sumU, sumU_congr n fun t ht => h t (by omega), h n (by omega)]
theorem sumU_delta (x q : Int) (hq : 0 ≤ q) : ∀ n : Nat, sumU l x (fun t => if t = q then 1 else 0) n = if q < n then use1 x (l.getD q.toNat T0) else 0
  | 0 => by simp only [sumU]; rw [if_neg (by omega)]
  | n + 1 => by
    simp only [sumU, sumU_delta x q hq n]
    by_cases c : (n : Int) = q
    · subst c
      rw [if_neg (by omega), if_pos rfl, if_pos (by omega)]
      simp
    · rw [if_neg c]
      by_cases d : q < n
      · rw [if_pos d, if_pos (by omega)]; simp
      · rw [if_neg d, if_neg (by omega)]; simp
theorem sumU_le {x : Int} {f g : Int → Int} : ∀ n : Nat, (∀ t : Nat, t < n → use1 x (l.getD t T0) ≠ 0 → f t ≤ g t) → sumU l x f n ≤ sumU l x g n
  | 0, _ => Int.le_refl _
  | n + 1, h => by
    have h1 := sumU_le n fun t ht => h t (by omega)
    simp only [sumU]
    by_cases c : use1 x (l.getD n T0) = 0
    · rw [c]; simpa using h1
    · have h2 := Int.mul_le_mul_of_nonneg_right (h n (by omega) c) (use1_le x (l.getD n T0)).1
      omega
theorem sumU_one (x : Int) : ∀ n : Nat, n ≤ l.length → sumU l x (fun _ => 1) n = uses (l.take n) x
  | 0, _ => by simp [sumU, uses]
  | n + 1, hn => by
    have := uses_take (l := l) (i := x) (t := n) (by omega) (by omega)
    rw [show ((n : Int) + 1).toNat = n + 1 by omega, show ((n : Nat) : Int).toNat = n by omega] at this
    simp only [sumU, sumU_one x n (by omega), this]
    omega

/-- met here, or by way of one that uses it -/
theorem oc_up (h : TermsOK l) (x : Int) : ∀ (k : Nat) (q : Int), 0 ≤ q → q < l.length → q < k → oc l x q = (if x = q then 1 else 0) + sumU l x (fun t => oc l t q) l.length
  | 0, q, _, _, _ => by omega
  | k + 1, q, h0, h1, h2 => by
    rw [oc_eq h h0 h1]
    by_cases c : (l.getD q.toNat T0).1 > 2
    · obtain ⟨b1, b2, b3, b4⟩ := h.back q h0 h1 c
      have e1 := oc_up h x k _ b1 (by omega) (by omega)
      have e2 := oc_up h x k _ b3 (by omega) (by omega)
      rw [sumU_congr (g := fun t => (if t = q then 1 else 0) + (oc l t (l.getD q.toNat T0).2.1 + oc l t (l.getD q.toNat T0).2.2.1)) l.length fun t _ => by rw [oc_eq h h0 h1, if_pos c], sumU_add, sumU_add, sumU_delta x q h0, if_pos h1, if_pos c, e1, e2]
      have : use1 x (l.getD q.toNat T0) = (if x = (l.getD q.toNat T0).2.1 then 1 else 0) + (if x = (l.getD q.toNat T0).2.2.1 then 1 else 0) := by
        unfold use1
        rw [if_pos c]
        simp only [eq_comm]
      omega
    · rw [sumU_congr (g := fun t => if t = q then 1 else 0) l.length fun t _ => by rw [oc_eq h h0 h1, if_neg c, Int.add_zero], sumU_delta x q h0, if_pos h1, if_neg c]
      unfold use1
      rw [if_neg c]
theorem use1_lt (h : TermsOK l) {x : Int} {t : Nat} (ht : t < l.length) (hu : use1 x (l.getD t T0) ≠ 0) : x < t := by
  unfold use1 at hu
  split at hu
  · rename_i c
    have := h.back t (by omega) (by omega) c
    simp only [show ((t : Nat) : Int).toNat = t by omega] at this
    by_cases c1 : (l.getD t T0).2.1 = x
    · omega
    · by_cases c2 : (l.getD t T0).2.2.1 = x
      · omega
      · rw [if_neg c1, if_neg c2] at hu; omega
  · omega
/-- in a tree none is met twice -/
theorem oc_root (h : TermsOK l) (ht : treeB l = true) : ∀ (k : Nat) (x : Int), 0 ≤ x → x < l.length → l.length - 1 - x < k → oc l x (l.length - 1) ≤ 1
  | 0, x, _, _, _ => by omega
  | k + 1, x, h0, h1, h2 => by
    have hp := h.pos
    rw [oc_up h x l.length (l.length - 1) (by omega) (by omega) (by omega)]
    by_cases c : x = l.length - 1
    · rw [if_pos c]
      have := sumU_le (l := l) (x := x) (f := fun t => oc l t (l.length - 1)) (g := fun _ => 0) l.length fun t ht hu => by
        have := use1_lt h ht hu; omega
      have z : ∀ n : Nat, sumU l x (fun _ => 0) n = 0 := fun n => by
        induction n with
        | zero => rfl
        | succ n ih => simp [sumU, ih]
      rw [z] at this
      omega
    · rw [if_neg c]
      have := sumU_le (l := l) (x := x) (f := fun t => oc l t (l.length - 1)) (g := fun _ => 1) l.length fun t htl hu => by
        have := use1_lt h htl hu
        exact oc_root h ht k t (by omega) (by omega) (by omega)
      rw [sumU_one x l.length (Nat.le_refl _), List.take_length] at this
      have hu := chk_iff.1 ht x (by omega) (by omega)
      simp only [decide_eq_true_eq] at hu
      have := hu (by omega)
      omega

def sumO (l : List Term5) (x : Int) (ys : List Int) : Int := (ys.map (oc l x)).sum
theorem sumO_app (x : Int) (a b : List Int) : sumO l x (a ++ b) = sumO l x a + sumO l x b := by simp [sumO]
theorem sumO_nn (x : Int) : ∀ a : List Int, 0 ≤ sumO l x a
  | [] => by simp [sumO]
  | y :: a => by
    have := sumO_nn x a
    have := oc_nn (l := l) x y
    simp only [sumO, List.map_cons, List.sum_cons] at *
    omega
theorem side_occ (h : TermsOK l) {j op : Int} (h0 : 0 ≤ j) (h1 : j < l.length) {xs : List Int} (hs : side l j op = some xs) (x : Int) : sumO l x xs ≤ oc l x j := by
  unfold side at hs
  split at hs
  · cases hs; simp [sumO]
  · split at hs
    · cases hs
    · rename_i h2 h3
      split at hs
      · cases hs
        rename_i h4
        rw [oc_eq h h0 h1, if_pos (show (l.getD j.toNat T0).1 > 2 by have := Classical.not_not.1 h3; omega)]
        simp only [sumO, List.map_cons, List.map_nil, List.sum_cons, List.sum_nil]
        split <;> omega
      · cases hs
        have := oc_nn (l := l) x j
        simpa [sumO] using this
theorem lies_occ (h : TermsOK l) {i : Int} (h0 : 0 ≤ i) (h1 : i < l.length) (t : Til) (x : Int) : (if x = i then 1 else 0) + sumO l x (lies l i t).1 ≤ oc l x i := by
  have z : (if x = i then 1 else 0) + sumO l x [] ≤ oc l x i := by
    by_cases c : x = i
    · subst c; have := oc_self (l := l) x; simpa [sumO] using this
    · have := oc_nn (l := l) x i; simpa [c, sumO] using this
  have e0 := oc_eq h h0 h1 (x := x)
  generalize (if x = i then (1 : Int) else 0) = e at e0 z ⊢
  unfold lies
  split
  · exact z
  · split
    · exact z
    · rename_i h2 h3
      obtain ⟨b1, b2, b3, b4⟩ := h.back i h0 h1 (by omega)
      unfold sides
      split
      · exact z
      · split
        · exact z
        · rename_i _ a ha _ b hb
          have e1 := side_occ h b1 (by omega) ha x
          have e2 := side_occ h b3 (by omega) hb x
          rw [e0, if_pos (by omega), sumO_app]
          omega

/-! the tile of a term -/
theorem tileCodeGo_at : ∀ {ts : List Til}, tileCodeGo ts = 0 → ∀ t ∈ ts, 0 ≤ t.2.2.2.1 ∧ t.2.2.2.1 ≤ 99
  | [], _, t, ht => by simp at ht
  | s :: r, h, t, ht => by
    simp only [tileCodeGo] at h
    split at h
    · omega
    · split at h
      · omega
      · split at h
        · omega
        · rcases List.mem_cons.1 ht with rfl | ht
          · omega
          · exact tileCodeGo_at h t ht
theorem w64_eq (x : Int) : IntKind.i64.wrap x = if x % 18446744073709551616 ≥ 9223372036854775808 then x % 18446744073709551616 - 18446744073709551616 else x % 18446744073709551616 := by
  simp [IntKind.wrap, IntKind.bits, IntKind.signed]
theorem wrap_add' (x y : Int) : IntKind.i64.wrap (IntKind.i64.wrap x + y) = IntKind.i64.wrap (x + y) := by
  simp only [w64_eq]
  split <;> split <;> split <;> omega
theorem wrap_sm {x : Int} (h0 : 0 ≤ x) (h1 : x ≤ 99) : IntKind.i64.wrap x = x := Go.IntWalk.i64_in _ ⟨by omega, by omega⟩
theorem addUp_sum (c : Int → Int) : ∀ (r : List Int) (ok : Bool) (x : Int), (addUp c r (ok, IntKind.i64.wrap x)) = (ok && r.all fun j => decide (c j ≥ 0), IntKind.i64.wrap (x + (r.map c).sum))
  | [], ok, x => by simp [addUp]
  | j :: r, ok, x => by
    simp only [addUp]
    rw [wrap_add', addUp_sum c r]
    simp only [List.all_cons, List.map_cons, List.sum_cons, Bool.and_assoc, Int.add_assoc]
abbrev TL0 : Til := (0, 0, 0, 0, ())
theorem tilesGo_pick (i : Int) (c : Int → Int) : ∀ (ts : List Til) (k : Int) (s : Int × Int), tilesGo l i c ts k s = s ∨ ∃ j : Nat, j < ts.length ∧ (tilesGo l i c ts k s).2 = k + j ∧
    (addUp c (lies l i (ts.getD j TL0)).1 ((lies l i (ts.getD j TL0)).2.1, (ts.getD j TL0).2.2.2.1)).1 = true ∧ (tilesGo l i c ts k s).1 = (addUp c (lies l i (ts.getD j TL0)).1 ((lies l i (ts.getD j TL0)).2.1, (ts.getD j TL0).2.2.2.1)).2
  | [], k, s => .inl rfl
  | t :: r, k, s => by
    simp only [tilesGo]
    rcases tilesGo_pick i c r (k + 1) (pickT l i c t k s) with e | ⟨j, h1, h2, h3, h4⟩
    · rw [e]
      simp only [pickT]
      split
      · rename_i hq
        exact .inr ⟨0, by simp, by simp, by simpa using hq.1, by simp⟩
      · exact .inl rfl
    · refine .inr ⟨j + 1, by simpa using h1, by rw [h2]; push_cast; omega, ?_, ?_⟩
      · simpa using h3
      · simpa using h4

def tileOf (l : List Term5) (ts : List Til) (i : Int) : Til := ts.getD (wth l ts i).toNat TL0
def rst (l : List Term5) (ts : List Til) (i : Int) : List Int := (lies l i (tileOf l ts i)).1
theorem cst_ok (h : TermsOK l) {ts : List Til} (hc : tilesCode ts = 0) {i : Int} (h0 : 0 ≤ i) (h1 : i < l.length) (hi : 0 ≤ cst l ts i) :
    (0 ≤ wth l ts i ∧ wth l ts i < ts.length) ∧ (lies l i (tileOf l ts i)).2.1 = true ∧ (∀ j ∈ rst l ts i, 0 ≤ cst l ts j) ∧ cst l ts i = IntKind.i64.wrap ((tileOf l ts i).2.2.2.1 + ((rst l ts i).map (cst l ts)).sum) := by
  obtain ⟨e1, e2⟩ := cst_eq h ts h0 h1
  have hl := tilesCode_len hc
  have hgo : tileCodeGo ts = 0 := by unfold tilesCode at hc; rw [if_neg (by omega)] at hc; exact hc
  rcases tilesGo_pick (l := l) i (cst l ts) ts 0 (-1, -1) with e | ⟨j, g1, g2, g3, g4⟩
  · rw [e1, e] at hi; omega
  · have hw : wth l ts i = (j : Int) := by rw [e2, g2]; omega
    have ht : tileOf l ts i = ts.getD j TL0 := by simp only [tileOf, hw]; congr 1
    have hm := tileCodeGo_at hgo (ts.getD j TL0) (by simpa using getD_mem (d := TL0) (l := ts) (t := j) (by omega) (by omega))
    rw [← ht] at g3 g4 hm
    rw [← wrap_sm hm.1 hm.2, addUp_sum] at g3 g4
    simp only [Bool.and_eq_true, List.all_eq_true, decide_eq_true_eq] at g3
    exact ⟨by omega, g3.1, fun y hy => g3.2 y hy, by rw [e1, g4]; rfl⟩

/-- the walk: those that are done, those that are still to come -/
def walk (l : List Term5) (ts : List Til) : Nat → List Int → List Int → List Int
  | 0, d, _ => d
  | _ + 1, d, [] => d
  | n + 1, d, q :: r => walk l ts n (d ++ [q]) (r ++ rst l ts q)
structure WInv (l : List Term5) (ts : List Til) (d q : List Int) : Prop where
  occ : ∀ x : Int, 0 ≤ x → x < l.length → (d.count x : Int) + sumO l x q ≤ 1
  rng : ∀ y ∈ d ++ q, 0 ≤ y ∧ y < l.length
  ok : ∀ y ∈ d ++ q, 0 ≤ cst l ts y
  sum : IntKind.i64.wrap ((d.map fun i => (tileOf l ts i).2.2.2.1).sum + (q.map (cst l ts)).sum) = cst l ts (l.length - 1)
theorem WInv.init (h : TermsOK l) (ht : treeB l = true) {ts : List Til} (hc : tilesCode ts = 0) (hr : 0 ≤ cst l ts (l.length - 1)) : WInv l ts [] [(l.length : Int) - 1] := by
  have hp := h.pos
  refine ⟨fun x a b => ?_, fun y hy => ?_, fun y hy => ?_, ?_⟩
  · have := oc_root h ht (l.length + 1) x a b (by omega)
    simpa [sumO] using this
  · simp at hy; omega
  · simp at hy; rw [hy]; exact hr
  · obtain ⟨_, _, _, e⟩ := cst_ok h hc (i := l.length - 1) (by omega) (by omega) hr
    simp only [List.map_nil, List.sum_nil, List.map_cons, List.sum_cons, Int.zero_add, Int.add_zero]
    rw [e]
    have := wrap_add' ((tileOf l ts (l.length - 1)).2.2.2.1 + ((rst l ts (l.length - 1)).map (cst l ts)).sum) 0
    simpa using this
theorem WInv.step (h : TermsOK l) {ts : List Til} (hc : tilesCode ts = 0) {d r : List Int} {q : Int} (w : WInv l ts d (q :: r)) : WInv l ts (d ++ [q]) (r ++ rst l ts q) := by
  have hq := w.rng q (by simp)
  obtain ⟨h1, h2, h3, h4⟩ := cst_ok h hc hq.1 hq.2 (w.ok q (by simp))
  refine ⟨fun x a b => ?_, fun y hy => ?_, fun y hy => ?_, ?_⟩
  · have := w.occ x a b
    have e := lies_occ h hq.1 hq.2 (tileOf l ts q) x
    rw [List.count_append, sumO_app]
    simp only [sumO, List.map_cons, List.sum_cons] at this ⊢
    simp only [sumO, rst] at e ⊢
    have : (List.count x [q] : Int) = if x = q then 1 else 0 := by
      by_cases c : x = q
      · simp [c]
      · have : ¬ q = x := fun e => c e.symm
        simp [c, this]
    push_cast
    omega
  · simp only [List.append_assoc, List.mem_append, List.mem_singleton] at hy
    rcases hy with hy | hy | hy | hy
    · exact w.rng y (by simp [hy])
    · exact w.rng y (by simp [hy])
    · exact w.rng y (by simp [hy])
    · have := lies_in h hq.1 hq.2 (tileOf l ts q) y hy; omega
  · simp only [List.append_assoc, List.mem_append, List.mem_singleton] at hy
    rcases hy with hy | hy | hy | hy
    · exact w.ok y (by simp [hy])
    · exact w.ok y (by simp [hy])
    · exact w.ok y (by simp [hy])
    · exact h3 y hy
  · have := w.sum
    simp only [List.map_cons, List.sum_cons] at this
    simp only [List.map_append, List.sum_append, List.map_cons, List.map_nil, List.sum_cons, List.sum_nil, Int.add_zero]
    rw [h4, show ∀ a b c : Int, a + (b + c) = b + (a + c) by omega, wrap_add'] at this
    rw [← this]
    congr 1; omega
theorem WInv.few {ts : List Til} {d q : List Int} (w : WInv l ts d q) : d.length + q.length ≤ l.length := by
  have hq : ∀ x (q : List Int), (List.count x q : Int) ≤ sumO l x q := fun x q => by
    induction q with
    | nil => simp [sumO]
    | cons y q ih =>
      simp only [sumO, List.map_cons, List.sum_cons, List.count_cons] at ih ⊢
      have := oc_nn (l := l) x y
      by_cases c : y = x
      · subst c
        have := oc_self (l := l) y
        simp only [beq_self_eq_true, if_true]; push_cast; omega
      · have : (y == x) = false := by simpa using c
        simp only [this, Bool.false_eq_true, if_false]; omega
  have nd : (d ++ q).Nodup := List.nodup_iff_count.2 fun x => by
    by_cases hx : x ∈ d ++ q
    · obtain ⟨a, b⟩ := w.rng x hx
      have := w.occ x a b
      have := hq x q
      rw [List.count_append]
      omega
    · rw [List.count_eq_zero.2 hx]; omega
  have := nodup_fit l.length (d ++ q) nd w.rng
  simpa using this
theorem WInv.nodup {ts : List Til} {d q : List Int} (w : WInv l ts d q) : d.Nodup := List.nodup_iff_count.2 fun x => by
  by_cases hx : x ∈ d
  · obtain ⟨a, b⟩ := w.rng x (by simp [hx])
    have := w.occ x a b
    have := sumO_nn (l := l) x q
    omega
  · rw [List.count_eq_zero.2 hx]; omega
end Go.Proofs.Ytpnganfbonlphaa
