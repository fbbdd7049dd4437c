/- Which terms one comes to from a term: by a list, and by marks. -/
import Derived.Test.YtpnganfbonlphaaFn8
import Derived.Test.YtpnganfbonlphaaTerms
namespace Go.Proofs.Ytpnganfbonlphaa
open Go Go.Ab S

/-- the operands of a term -/
def kids (l : List Term5) (x : Int) : List Int := if (l.getD x.toNat (0, 0, 0, 0, ())).1 > 2 then [(l.getD x.toNat (0, 0, 0, 0, ())).2.1, (l.getD x.toNat (0, 0, 0, 0, ())).2.2.1] else []
/-- the operands come before -/
def Low (l : List Term5) : Prop := ∀ x : Int, 0 ≤ x → x < l.length → ∀ c ∈ kids l x, 0 ≤ c ∧ c < x

inductive Rch (l : List Term5) (i : Int) : Int → Prop
  | self : Rch l i i
  | kid {j c : Int} : Rch l i j → c ∈ kids l j → Rch l i c

theorem Rch.in {l : List Term5} {i : Int} (hL : Low l) (h0 : 0 ≤ i) (h1 : i < l.length) {j : Int} (h : Rch l i j) : 0 ≤ j ∧ j ≤ i := by
  induction h with
  | self => omega
  | kid hj hc ih => have := hL _ ih.1 (by omega) _ hc; omega

/-- the nodes that one comes to, in order -/
noncomputable def comes (l : List Term5) (i : Int) : List Int := open Classical in
  ((List.range (i.toNat + 1)).map Int.ofNat).filter fun j => decide (Rch l i j)

theorem nodup_len : ∀ (n : Nat) (l : List Int), l.Nodup → (∀ x ∈ l, 0 ≤ x ∧ x < n) → l.length ≤ n := nodup_fit

theorem has_F {nf : Nat} (l : List Int) (x : Int) (hl : l.length ≤ maxLen) (hf : l.length < nf) : ref_Has_f nf l x = some (decide (x ∈ l), ()) := by
  have h := loop_all (l := l) (d := 0) (F := fun fu t (_ : Unit) => ref_Has_l0 nf l x fu t) (fin := fun _ => some (false, ()))
    (step := fun y _ s k => bif x == y then some (true, ()) else k s) ?_ ?_ nf () hf
  · show ref_Has_l0 nf l x nf 0 = _
    rw [show ref_Has_l0 nf l x nf 0 = _ from h]
    have key : ∀ (l : List Int) (t : Int), goL (fun y _ (s : Unit) k => bif x == y then some (true, ()) else k s) (fun _ => some (false, ())) l t () = some (decide (x ∈ l), ()) := by
      intro l
      induction l with
      | nil => intro t; rfl
      | cons y r ih =>
        intro t
        simp only [goL, ih]
        by_cases h1 : x = y
        · simp [h1]
        · have : (x == y) = false := by simpa using h1
          simp [h1, this]
    exact key l 0
  · intro fu t s a b
    simp only [ref_Has_l0, ref_Has_b0, inb_ok a b, wrap_step a b hl, b, decide_true, cond_true]
  · intro fu t s a
    simp [ref_Has_l0, ref_Has_b0, a]

/-- nodes, each once -/
structure Nodes (n : Nat) (s : List Int) : Prop where
  once : s.Nodup
  good : ∀ x ∈ s, 0 ≤ x ∧ x < n
theorem Nodes.len {n : Nat} {s : List Int} (h : Nodes n s) : s.length ≤ n := nodup_fit n s h.once h.good
def addN (s : List Int) (x : Int) : List Int := if x ∉ s then s ++ [x] else s
theorem addN_nodes {n : Nat} {x : Int} {s : List Int} (h : Nodes n s) (hx : 0 ≤ x ∧ x < n) : Nodes n (addN s x) := by
  unfold addN
  split
  · rename_i hc
    refine ⟨List.nodup_append.2 ⟨h.once, by simp, fun a ha b hb => ?_⟩, fun y hy => ?_⟩
    · simp only [List.mem_singleton] at hb
      subst hb
      rintro rfl
      exact hc ha
    · rcases List.mem_append.1 hy with hy | hy
      · exact h.good y hy
      · simp only [List.mem_singleton] at hy; subst hy; exact hx
  · exact h
theorem addN_mem {s : List Int} {x y : Int} : y ∈ addN s x ↔ y ∈ s ∨ y = x := by
  unfold addN
  split
  · simp
  · rename_i h
    constructor
    · exact .inl
    · rintro (h1 | rfl)
      · exact h1
      · exact Classical.not_not.1 h
theorem addN_pre (s : List Int) (x : Int) : ∃ r, addN s x = s ++ r := by
  unfold addN; split
  · exact ⟨_, rfl⟩
  · exact ⟨[], by simp⟩
theorem adds_mem {s : List Int} {y : Int} : ∀ {l : List Int}, y ∈ l.foldl addN s ↔ y ∈ s ∨ y ∈ l := by
  intro l
  induction l generalizing s with
  | nil => simp
  | cons x r ih => rw [List.foldl_cons, ih, addN_mem, List.mem_cons, or_assoc]
theorem adds_pre : ∀ (l s : List Int), ∃ r, l.foldl addN s = s ++ r
  | [], s => ⟨[], by simp⟩
  | x :: l, s => by
    obtain ⟨r1, h1⟩ := addN_pre s x
    obtain ⟨r2, h2⟩ := adds_pre l (addN s x)
    exact ⟨r1 ++ r2, by rw [List.foldl_cons, h2, h1, List.append_assoc]⟩
theorem adds_nodes {n : Nat} : ∀ (l s : List Int), Nodes n s → (∀ x ∈ l, 0 ≤ x ∧ x < n) → Nodes n (l.foldl addN s)
  | [], _, h, _ => h
  | x :: l, s, h, hl => adds_nodes l _ (addN_nodes h (hl x (by simp))) fun y hy => hl y (by simp [hy])

theorem comes_l2 {nf : Nat} (hn : 20 ≤ nf) {l : List Term5} (hl : l.length ≤ 16) {i k : Int} {here : List Int} (hN : Nodes l.length here) (g0 : List Int → Int → Option (List Int × Unit)) (hk0 : 0 ≤ k) (hk1 : k < here.length) {a b : Int}
    (ha : (l.getD (here.getD k.toNat 0).toNat (0, 0, 0, 0, ())).2.1 = a) (hb : (l.getD (here.getD k.toNat 0).toNat (0, 0, 0, 0, ())).2.2.1 = b) (hab : ∀ x ∈ [a, b], 0 ≤ x ∧ x < l.length) :
    ref_Comes_l2 nf l i k here g0 nf here [a, b] 0 = g0 ([a, b].foldl addN here) (k + 1) := by
  have hw : IntKind.i64.wrap (k + 1) = k + 1 := wrap_step hk0 hk1 (by have := hN.len; simp [maxLen]; omega)
  have h := loop_all (l := [a, b]) (d := 0) (F := fun fu t (s : List Int) => ref_Comes_l2 nf l i k here g0 fu s [a, b] t) (fin := fun s => g0 s (k + 1))
    (step := fun x _ s k => Option.bind (ref_Has_f nf s x) fun r => bif !r.fst then (bif bimp false ![x].isEmpty && (s.length + [x].length).ble lim then k (s ++ [x]) else none) else k s) ?_ ?_ nf here (by simp; omega)
  · rw [show ref_Comes_l2 nf l i k here g0 nf here [a, b] 0 = _ from h]
    refine goL_fold (Nodes l.length) _ 0 here hN fun x hx t s K hs => ⟨?_, addN_nodes hs (hab x hx)⟩
    have := hs.len
    rw [has_F s x (by simp [maxLen]; omega) (by omega)]
    unfold addN
    by_cases hm : x ∈ s
    · simp [hm]
    · have hb := ble_ok (n := s.length + 1) (by omega)
      simp [hm, bimp, hb]
  · intro fu t s h0 h1
    have hh : t < ((([(l.getD (here.getD k.toNat 0).toNat (0, 0, 0, 0, ())).2.1, (l.getD (here.getD k.toNat 0).toNat (0, 0, 0, 0, ())).2.2.1] : List Int).length : Nat) : Int) := by simpa using h1
    simp only [ref_Comes_l2, ref_Comes_b2, hh, inb_ok h0 h1, wrap_step h0 h1 (show ([a, b] : List Int).length ≤ maxLen by simp [maxLen]), decide_true, cond_true]
  · intro fu t s h1
    have hh : ¬ t < ((([(l.getD (here.getD k.toNat 0).toNat (0, 0, 0, 0, ())).2.1, (l.getD (here.getD k.toNat 0).toNat (0, 0, 0, 0, ())).2.2.1] : List Int).length : Nat) : Int) := by simp; simp at h1; omega
    simp only [ref_Comes_l2, ref_Comes_b2, hh, decide_false, cond_false, hw]

/-- what is seen is closed as far as it was looked at -/
structure Seen (l : List Term5) (i : Int) (here : List Int) (k : Int) : Prop where
  nodes : Nodes l.length here
  rch : ∀ x ∈ here, Rch l i x
  root : i ∈ here
  done : ∀ m : Nat, (m : Int) < k → ∀ c ∈ kids l (here.getD m 0), c ∈ here

theorem Seen.all {l : List Term5} {i : Int} {here : List Int} (h : Seen l i here here.length) {j : Int} (hj : Rch l i j) : j ∈ here := by
  induction hj with
  | self => exact h.root
  | kid _ hc ih =>
    obtain ⟨m, hm, he⟩ := List.mem_iff_getElem.1 ih
    refine h.done m (by omega) _ ?_
    rw [List.getD_eq_getElem?_getD, List.getElem?_eq_getElem hm]
    simpa [he] using hc

theorem Seen.step {l : List Term5} {i : Int} {here : List Int} {k : Int} (h : Seen l i here k) (hL : Low l) (h0 : 0 ≤ k) (h1 : k < here.length) : Seen l i ((kids l (here.getD k.toNat 0)).foldl addN here) (k + 1) := by
  have hx : here.getD k.toNat 0 ∈ here := getD_mem h0 h1
  have hg := h.nodes.good _ hx
  have hk : ∀ c ∈ kids l (here.getD k.toNat 0), 0 ≤ c ∧ c < l.length := fun c hc => by have := hL _ hg.1 hg.2 c hc; omega
  obtain ⟨r, hr⟩ := adds_pre (kids l (here.getD k.toNat 0)) here
  refine ⟨adds_nodes _ _ h.nodes hk, fun x hx' => ?_, adds_mem.2 (.inl h.root), fun m hm c hc => ?_⟩
  · rcases adds_mem.1 hx' with h2 | h2
    · exact h.rch x h2
    · exact .kid (h.rch _ hx) h2
  · have hml : m < here.length := by omega
    rw [hr, List.getD_eq_getElem?_getD, List.getElem?_append_left hml, ← List.getD_eq_getElem?_getD] at hc
    by_cases hmk : (m : Int) < k
    · exact adds_mem.2 (.inl (h.done m hmk c hc))
    · have : m = k.toNat := by omega
      subst this
      exact adds_mem.2 (.inr hc)

theorem comes_l4 {nf : Nat} {l : List Term5} {i : Int} (hi0 : 0 ≤ i) (hi : i < 16) {here : List Int} (hN : Nodes l.length here) (hl : l.length ≤ 16) (hn : 20 ≤ nf) : ∀ (fu : Nat) (j : Nat) (out : List Int), (j : Int) ≤ i + 1 → i + 1 - j < fu → out.length ≤ j →
    ref_Comes_l4 nf i fu here out j = some (out ++ (((List.range' j (i.toNat + 1 - j)).map Int.ofNat).filter fun x => decide (x ∈ here)), ())
  | 0, j, out, h0, h1, _ => by omega
  | fu + 1, j, out, h0, h1, h2 => by
    have hlen := hN.len
    rw [ref_Comes_l4, ref_Comes_b4]
    by_cases hj : (j : Int) ≤ i
    · have hw : IntKind.i64.wrap ((j : Int) + 1) = ((j + 1 : Nat) : Int) := by rw [Go.IntWalk.i64_in _ (by omega)]; rfl
      have hr : List.range' j (i.toNat + 1 - j) = j :: List.range' (j + 1) (i.toNat + 1 - (j + 1)) := by
        rw [show i.toNat + 1 - j = (i.toNat + 1 - (j + 1)) + 1 by omega, List.range'_succ]
      have fit : (bimp false (!List.isEmpty [(j : Int)]) && Nat.ble (out.length + [(j : Int)].length) lim) = true := by rw [ble_ok (by simp; omega)]; rfl
      simp only [hj, decide_true, cond_true, has_F (nf := nf) here j (by simp [maxLen]; omega) (by omega), Option.bind_some, hw, fit]
      rw [comes_l4 hi0 hi hN hl hn fu (j + 1) _ (by omega) (by omega) (by simp; omega), comes_l4 hi0 hi hN hl hn fu (j + 1) _ (by omega) (by omega) (by omega), hr]
      by_cases hm : (j : Int) ∈ here
      · simp [hm]
      · simp [hm]
    · have : i.toNat + 1 - j = 0 := by omega
      simp [hj, this]

theorem comes_l0 {nf : Nat} (hn : 20 ≤ nf) {l : List Term5} (hl : l.length ≤ 16) (hL : Low l) {i : Int} (hi0 : 0 ≤ i) (hi1 : i < l.length) : ∀ (fu : Nat) (here : List Int) (k : Int), Seen l i here k → 0 ≤ k → k ≤ here.length → l.length - k < fu →
    ref_Comes_l0 nf l i fu here k = some (comes l i, ())
  | 0, here, k, hS, h0, h1, h2 => by have := hS.nodes.len; omega
  | fu + 1, here, k, hS, h0, h1, h2 => by
    have hlen := hS.nodes.len
    rw [ref_Comes_l0, ref_Comes_b0]
    by_cases hk : k < here.length
    · have hx : here.getD k.toNat 0 ∈ here := getD_mem h0 hk
      have hg := hS.nodes.good _ hx
      have hw : IntKind.i64.wrap (k + 1) = k + 1 := wrap_step h0 hk (by simp [maxLen]; omega)
      have hst := hS.step hL h0 hk
      have hle : k + 1 ≤ ((kids l (here.getD k.toNat 0)).foldl addN here).length := by
        obtain ⟨r, hr⟩ := adds_pre (kids l (here.getD k.toNat 0)) here
        rw [hr]; simp; omega
      have ih := comes_l0 hn hl hL hi0 hi1 fu _ (k + 1) hst (by omega) hle (by omega)
      simp only [hk, decide_true, cond_true, inb_ok h0 hk, inb_ok hg.1 hg.2, hw]
      by_cases o : (l.getD (here.getD k.toNat 0).toNat (0, 0, 0, 0, ())).1 > 2
      · have hkd : kids l (here.getD k.toNat 0) = [(l.getD (here.getD k.toNat 0).toNat (0, 0, 0, 0, ())).2.1, (l.getD (here.getD k.toNat 0).toNat (0, 0, 0, 0, ())).2.2.1] := by unfold kids; rw [if_pos o]
        simp only [show (l.getD (here.getD k.toNat 0).toNat (0, 0, 0, 0, ())).1 ≥ 3 by omega, decide_true, cond_true]
        rw [comes_l2 hn hl hS.nodes _ h0 hk rfl rfl (fun x hx' => by rw [← hkd] at hx'; have := hL _ hg.1 hg.2 x hx'; omega)]
        rw [hkd] at ih
        exact ih
      · have hkd : kids l (here.getD k.toNat 0) = [] := by unfold kids; rw [if_neg o]
        simp only [show ¬ (l.getD (here.getD k.toNat 0).toNat (0, 0, 0, 0, ())).1 ≥ 3 by omega, decide_false, cond_false]
        rw [hkd] at ih
        exact ih
    · have hke : k = here.length := by omega
      subst hke
      have := comes_l4 (nf := nf) (l := l) (i := i) hi0 (by omega) hS.nodes hl hn nf 0 [] (by omega) (by omega) (by simp)
      simp only [show ¬ ((here.length : Nat) : Int) < here.length by omega, decide_false, cond_false]
      rw [show (0 : Int) = ((0 : Nat) : Int) from rfl, this, comes, ← List.range_eq_range']
      simp only [List.nil_append, Nat.sub_zero]
      congr 2
      refine List.filter_congr fun x _ => ?_
      have : x ∈ here ↔ Rch l i x := ⟨hS.rch x, hS.all⟩
      simp [this]

theorem comes_F {nf : Nat} (hn : 20 ≤ nf) {l : List Term5} (hl : l.length ≤ 16) (hL : Low l) {i : Int} (hi0 : 0 ≤ i) (hi1 : i < l.length) : ref_Comes_f nf l i = some (comes l i, ()) := by
  simp only [ref_Comes_f, ref_Comes_p]
  exact comes_l0 hn hl hL hi0 hi1 nf [i] 0 ⟨⟨by simp, fun x hx => by simp at hx; subst hx; exact ⟨hi0, hi1⟩⟩, fun x hx => by simp at hx; subst hx; exact .self, by simp, fun m hm => by omega⟩ (by omega) (by simp) (by omega)

theorem low_of {vars : Int} {l : List Term5} (h : termGo vars l 0 = 0) : Low l := by
  have key : ∀ (r : List Term5) (n : Int), termGo vars r n = 0 → ∀ x : Int, 0 ≤ x → x < r.length → ∀ c ∈ kids r x, 0 ≤ c ∧ c < n + x := by
    intro r
    induction r with
    | nil => intro n _ x h0 h1; simp at h1; omega
    | cons t r ih =>
      obtain ⟨op, a, b, k, _⟩ := t
      intro n hg x h0 h1 c hc
      obtain ⟨_, _, _, _, h5, h6⟩ := termGo_cons hg
      by_cases hx : x = 0
      · subst hx
        unfold kids at hc
        simp only [Int.toNat_zero, List.getD_cons_zero] at hc
        split at hc
        · rename_i ho; have := h5 ho; simp at hc; rcases hc with rfl | rfl <;> omega
        · simp at hc
      · have := ih (n + 1) h6 (x - 1) (by omega) (by simp at h1; omega) c (by
          unfold kids at hc ⊢
          rw [show x.toNat = (x - 1).toNat + 1 by omega, List.getD_cons_succ] at hc
          exact hc)
        omega
  intro x h0 h1 c hc
  have := key l 0 h x h0 h1 c hc
  omega

/-- marks, downwards -/
def markAt (l : List Term5) (i : Nat) (o : List Bool) : List Bool := if o.getD i false = true then (kids l i).foldl (fun o c => o.set c.toNat true) o else o
def marks (l : List Term5) : Nat → List Bool → List Bool
  | 0, o => o
  | i + 1, o => marks l i (markAt l i o)

theorem setTrue {o : List Bool} {i j : Nat} (hi : i < o.length) : (o.set i true).getD j false = (decide (j = i) || o.getD j false) := by
  rw [getD_upd hi]; by_cases h : j = i <;> simp [h]

theorem setAll_len : ∀ (ks : List Int) (o : List Bool), (ks.foldl (fun o c => o.set c.toNat true) o).length = o.length
  | [], _ => rfl
  | c :: r, o => by rw [List.foldl_cons, setAll_len]; simp
theorem setAll_get : ∀ (ks : List Int) (o : List Bool) (j : Nat), (∀ c ∈ ks, 0 ≤ c ∧ c < o.length) → (ks.foldl (fun o c => o.set c.toNat true) o).getD j false = (decide ((j : Int) ∈ ks) || o.getD j false)
  | [], o, j, _ => by simp
  | c :: r, o, j, h => by
    have hc := h c (by simp)
    rw [List.foldl_cons, setAll_get r _ j (fun d hd => by have := h d (by simp [hd]); simpa using this), setTrue (by omega)]
    have : decide (j = c.toNat) = decide ((j : Int) = c) := by
      rw [decide_eq_decide]; omega
    rw [this]
    by_cases h1 : (j : Int) = c <;> by_cases h2 : (j : Int) ∈ r <;> simp [h1, h2]
theorem markAt_len (l : List Term5) (i : Nat) (o : List Bool) : (markAt l i o).length = o.length := by
  unfold markAt; split
  · exact setAll_len _ _
  · rfl

structure Marked (l : List Term5) (root : Int) (t : Nat) (o : List Bool) : Prop where
  len : o.length = l.length
  rt : o.getD root.toNat false = true
  rch : ∀ j : Nat, o.getD j false = true → Rch l root j
  done : ∀ j : Nat, t ≤ j → o.getD j false = true → ∀ c ∈ kids l j, o.getD c.toNat false = true

theorem lt_of_mark {o : List Bool} {j : Nat} (h : o.getD j false = true) : j < o.length := by
  by_cases hj : j < o.length
  · exact hj
  · rw [List.getD_eq_getElem?_getD, List.getElem?_eq_none (by omega)] at h; cases h

theorem Marked.step {l : List Term5} {root : Int} {t : Nat} {o : List Bool} (h : Marked l root (t + 1) o) (hL : Low l) : Marked l root t (markAt l t o) := by
  unfold markAt
  split
  · rename_i hm
    have htl := lt_of_mark hm
    have hg : ∀ c ∈ kids l t, 0 ≤ c ∧ c < o.length := fun c hc => by
      have := hL t (by omega) (by have := h.len; omega) c hc
      omega
    have hkt : ∀ c ∈ kids l t, 0 ≤ c ∧ c < t := fun c hc => hL t (by omega) (by have := h.len; omega) c hc
    refine ⟨by rw [setAll_len, h.len], ?_, fun j hj => ?_, fun j hj hj' c hc => ?_⟩
    · rw [setAll_get _ _ _ hg, h.rt]; simp
    · rw [setAll_get _ _ _ hg] at hj
      rcases Bool.or_eq_true _ _ |>.mp hj with hj | hj
      · exact .kid (h.rch t hm) (of_decide_eq_true hj)
      · exact h.rch j hj
    · rw [setAll_get _ _ _ hg] at hj' ⊢
      have hold : o.getD j false = true := by
        rcases Bool.or_eq_true _ _ |>.mp hj' with hj' | hj'
        · have := hkt _ (of_decide_eq_true hj'); omega
        · exact hj'
      have hjl := lt_of_mark hold
      have hc0 := (hL j (by omega) (by have := h.len; omega) c hc).1
      by_cases hjt : j = t
      · subst hjt
        rw [show ((c.toNat : Nat) : Int) = c by omega, decide_eq_true hc, Bool.true_or]
      · rw [h.done j (by omega) hold c hc, Bool.or_true]
  · rename_i hm
    refine ⟨h.len, h.rt, h.rch, fun j hj hj' => ?_⟩
    by_cases hjt : j = t
    · subst hjt; exact absurd hj' hm
    · exact h.done j (by omega) hj'

theorem Marked.all {l : List Term5} {root : Int} (hL : Low l) : ∀ {t : Nat} {o : List Bool}, Marked l root t o → Marked l root 0 (marks l t o)
  | 0, _, h => h
  | t + 1, _, h => (h.step hL).all hL

theorem Marked.iff {l : List Term5} {root : Int} {o : List Bool} (hL : Low l) (h0 : 0 ≤ root) (h1 : root < l.length) (h : Marked l root 0 o) (j : Nat) : o.getD j false = true ↔ Rch l root j := by
  refine ⟨h.rch j, fun hj => ?_⟩
  have key : ∀ x : Int, Rch l root x → o.getD x.toNat false = true := by
    intro x hx
    induction hx with
    | self => exact h.rt
    | kid hj hc ih =>
      have hb := hj.in hL h0 h1
      refine h.done _ (Nat.zero_le _) ih _ ?_
      rw [show ((Int.toNat _ : Nat) : Int) = _ from Int.toNat_of_nonneg hb.1]
      exact hc
  exact key j hj

/-- the marks at the end -/
noncomputable def need (l : List Term5) (root : Int) : List Bool := open Classical in (List.range l.length).map fun j => decide (Rch l root (j : Nat))
theorem marks_need {l : List Term5} {root : Int} (hL : Low l) (h0 : 0 ≤ root) (h1 : root < l.length) : marks l l.length ((List.replicate l.length false).set root.toNat true) = need l root := by
  have hm : Marked l root l.length ((List.replicate l.length false).set root.toNat true) := by
    have hr : root.toNat < (List.replicate l.length false).length := by simp; omega
    refine ⟨by simp, by rw [setTrue hr]; simp, fun j hj => ?_, fun j hj hj' => ?_⟩
    · rw [setTrue hr] at hj
      have : j = root.toNat := by
        by_cases h : j = root.toNat
        · exact h
        · simp [h, List.getD_eq_getElem?_getD, List.getElem?_replicate] at hj
          split at hj <;> simp at hj
      subst this
      rw [show ((root.toNat : Nat) : Int) = root by omega]
      exact .self
    · have := lt_of_mark hj'
      simp at this; omega
  have hf := hm.all hL
  refine List.ext_getElem (by rw [hf.len]; simp [need]) fun j h2 h3 => ?_
  have := hf.iff hL h0 h1 j
  rw [List.getD_eq_getElem?_getD, List.getElem?_eq_getElem h2, Option.getD_some] at this
  have hn : (need l root)[j] = true ↔ Rch l root (j : Nat) := by simp [need]
  rw [Bool.eq_iff_iff, this, hn]

theorem used_l0 {nf : Nat} {l : List Term5} (hl : l.length ≤ 16) (hL : Low l) : ∀ (t fu : Nat) (o : List Bool), t ≤ l.length → t < fu → o.length = l.length → term_used_l0 nf l fu o t = some (marks l t o, ())
  | 0, fu + 1, o, _, _, _ => by
    rw [term_used_l0, term_used_b0]; simp [marks]
  | t + 1, fu + 1, o, h0, h1, hlen => by
    rw [term_used_l0, term_used_b0, show ((t + 1 : Nat) : Int) - 1 = (t : Int) by omega]
    have hb : inb (t : Int) l.length = true := inb_ok (by omega) (by omega)
    have hb' : inb (t : Int) o.length = true := inb_ok (by omega) (by omega)
    have ih := fun o' (ho : o'.length = l.length) => used_l0 (nf := nf) hl hL t fu o' (by omega) (by omega) ho
    simp only [show ¬ ((t + 1 : Nat) : Int) ≤ 0 by omega, decide_false, cond_false, hb, hb', cond_true, Int.toNat_natCast, marks]
    cases hm : o.getD t false with
    | false =>
      have : markAt l t o = o := by unfold markAt; rw [if_neg (by rw [hm]; simp)]
      rw [this]
      simp only [cond_false]
      exact ih o hlen
    | true =>
      by_cases ho : (l.getD t (0, 0, 0, 0, ())).1 > 2
      · have hk : kids l t = [(l.getD t (0, 0, 0, 0, ())).2.1, (l.getD t (0, 0, 0, 0, ())).2.2.1] := by unfold kids; rw [Int.toNat_natCast, if_pos ho]
        have ha := hL t (by omega) (by omega) (l.getD t (0, 0, 0, 0, ())).2.1 (by rw [hk]; simp)
        have hb := hL t (by omega) (by omega) (l.getD t (0, 0, 0, 0, ())).2.2.1 (by rw [hk]; simp)
        have : markAt l t o = (o.set (l.getD t (0, 0, 0, 0, ())).2.1.toNat true).set (l.getD t (0, 0, 0, 0, ())).2.2.1.toNat true := by
          unfold markAt; rw [if_pos hm, hk]; rfl
        rw [this]
        simp only [ho, decide_true, cond_true, inb_ok (n := o.length) ha.1 (by omega), inb_ok (n := (o.set (l.getD t (0, 0, 0, 0, ())).2.1.toNat true).length) hb.1 (by rw [List.length_set]; omega)]
        exact ih _ (by simp [hlen])
      · have hk : kids l t = [] := by unfold kids; rw [Int.toNat_natCast, if_neg ho]
        have : markAt l t o = o := by unfold markAt; rw [hk]; simp
        rw [this]
        simp only [ho, decide_false, cond_false, cond_true]
        exact ih o hlen

theorem used_F {nf : Nat} (hn : 20 ≤ nf) {l : List Term5} (hp : 1 ≤ l.length) (hl : l.length ≤ 16) (hL : Low l) : term_used_f nf l = some (need l ((l.length : Int) - 1), ()) := by
  have hw : IntKind.i64.wrap ((l.length : Int) - 1) = (l.length : Int) - 1 := Go.IntWalk.i64_in _ (by omega)
  have hlim : (l.length : Int) ≤ (lim : Int) := by have : l.length ≤ lim := Nat.le_trans hl (by decide); omega
  simp only [term_used_f, term_used_p, hw]
  rw [inb_ok (n := (List.replicate (l.length : Int).toNat false).length) (by omega) (by simp; omega), ble_ok (n := l.length) (by omega)]
  simp only [hlim, show (0 : Int) ≤ l.length by omega, Int.le_refl, decide_true, Bool.and_self, cond_true, Int.toNat_natCast]
  rw [used_l0 hl hL l.length nf _ (Nat.le_refl _) (by omega) (by simp), marks_need hL (by omega) (by omega)]
end Go.Proofs.Ytpnganfbonlphaa
