/- Tasks: behind which ones one comes, as a list; by a path. -/
import Derived.Test.YtoglkjmdloppcaaFn4
import Derived.Test.YtoglkjmdloppcaaLib
namespace Go.Proofs.Ytoglkjmdloppcaa
open Go Go.Ab S

/-- a way that may be -/
structure WayOK (next : List (List Int)) : Prop where
  few : next.length ≤ 8
  thin : ∀ l ∈ next, l.length ≤ 28
  good : ∀ l ∈ next, ∀ j ∈ l, 0 ≤ j ∧ j < next.length

theorem nodup_len : ∀ (n : Nat) (l : List Int), l.Nodup → (∀ x ∈ l, 0 ≤ x ∧ x < n) → l.length ≤ n
  | 0, [], _, _ => Nat.le_refl _
  | 0, x :: l, _, h => by have := h x (by simp); omega
  | n + 1, l, hn, h => by
    by_cases hm : (n : Int) ∈ l
    · have h1 := nodup_len n (l.erase n) (hn.erase _) fun x hx => by
        have h2 := h x (List.mem_of_mem_erase hx)
        have h3 : x ≠ n := fun he => by subst he; exact (List.Nodup.not_mem_erase hn) hx
        omega
      rw [List.length_erase_of_mem hm] at h1
      omega
    · have := nodup_len n l hn fun x hx => by
        have h2 := h x hx
        have h3 : x ≠ n := fun he => by subst he; exact hm hx
        omega
      omega

/-- nodes, each once -/
structure Nodes (n : Nat) (s : List Int) : Prop where
  once : s.Nodup
  good : ∀ x ∈ s, 0 ≤ x ∧ x < n
theorem Nodes.len {n : Nat} {s : List Int} (h : Nodes n s) : s.length ≤ n := nodup_len n s h.once h.good

theorem has_F {nf : Nat} (l : List Int) (x : Int) (hl : l.length ≤ maxLen) (hf : l.length < nf) : ref_Has_f nf l x = some (decide (x ∈ l), ()) := by
  have h := loop_all (l := l) (d := 0) (F := fun fu t (_ : Unit) => ref_Has_l0 nf l x fu t) (fin := fun _ => some (false, ()))
    (step := fun y _ s k => bif x == y then some (true, ()) else k s) ?_ ?_ nf () hf
  · show ref_Has_l0 nf l x nf 0 = _
    rw [show ref_Has_l0 nf l x nf 0 = _ from h]
    have key : ∀ (l : List Int) (t : Int), goL (fun y _ (s : Unit) k => bif x == y then some (true, ()) else k s) (fun _ => some (false, ())) l t () = some (decide (x ∈ l), ()) := by
      intro l
      induction l with
      | nil => intro t; rfl
      | cons y r ih =>
        intro t
        simp only [goL, ih]
        by_cases h1 : x = y
        · simp [h1]
        · have : (x == y) = false := by simpa using h1
          simp [h1, this]
    exact key l 0
  · intro fu t s a b
    simp only [ref_Has_l0, ref_Has_b0, inb_ok a b, wrap_step a b hl, b, decide_true, cond_true]
  · intro fu t s a
    simp [ref_Has_l0, ref_Has_b0, a]

def addN (wo : Int) (s : List Int) (x : Int) : List Int := if x ≠ wo ∧ x ∉ s then s ++ [x] else s
theorem addN_nodes {n : Nat} {wo x : Int} {s : List Int} (h : Nodes n s) (hx : 0 ≤ x ∧ x < n) : Nodes n (addN wo s x) := by
  unfold addN
  split
  · rename_i hc
    refine ⟨List.nodup_append.2 ⟨h.once, by simp, fun a ha b hb => ?_⟩, fun y hy => ?_⟩
    · simp only [List.mem_singleton] at hb
      subst hb
      rintro rfl
      exact hc.2 ha
    · rcases List.mem_append.1 hy with hy | hy
      · exact h.good y hy
      · simp only [List.mem_singleton] at hy; subst hy; exact hx
  · exact h

/-- the word of a list -/
def wd (l : List Int) : Int := l.foldl (fun s x => or32 s (shlI .u32 1 x)) 0
theorem wd_snoc (l : List Int) (x : Int) : wd (l ++ [x]) = or32 (wd l) (shlI .u32 1 x) := by simp [wd, List.foldl_append]
theorem wd_ok_aux : ∀ (l : List Int) (s : Int), W32 s → (∀ x ∈ l, 0 ≤ x ∧ x < 32) → W32 (l.foldl (fun s x => or32 s (shlI .u32 1 x)) s) ∧ ∀ i : Nat, bt (l.foldl (fun s x => or32 s (shlI .u32 1 x)) s) i = (bt s i || decide ((i : Int) ∈ l))
  | [], s, hs, _ => ⟨hs, fun i => by simp⟩
  | x :: l, s, hs, h => by
    have hx := h x (by simp)
    obtain ⟨h1, h2⟩ := wd_ok_aux l (or32 s (shlI .u32 1 x)) (or32_w _ _) fun y hy => h y (by simp [hy])
    refine ⟨h1, fun i => ?_⟩
    rw [List.foldl_cons, h2, or32_bt hs (one_w hx.1 hx.2), one_bt hx.1 hx.2]
    by_cases hi : (i : Int) = x
    · have h3 : i = x.toNat := by omega
      have h4 : (i : Int) ∈ x :: l := by rw [hi]; simp
      rw [decide_eq_true h3, decide_eq_true h4]
      simp
    · have h3 : ¬ i = x.toNat := by omega
      simp [hi, h3]
theorem wd_w {l : List Int} (h : ∀ x ∈ l, 0 ≤ x ∧ x < 32) : W32 (wd l) := (wd_ok_aux l 0 W32_zero h).1
theorem wd_bt {l : List Int} (h : ∀ x ∈ l, 0 ≤ x ∧ x < 32) (i : Nat) : bt (wd l) i = decide ((i : Int) ∈ l) := by
  rw [wd, (wd_ok_aux l 0 W32_zero h).2, bt_zero, Bool.false_or]

def nexts (next : List (List Int)) (x : Int) : List Int := next.getD x.toNat []
theorem nexts_mem {next : List (List Int)} {x : Int} (h0 : 0 ≤ x) (h1 : x < next.length) : nexts next x ∈ next := getD_mem h0 h1

def reachGo (next : List (List Int)) (wo : Int) : Nat → List Int → Nat → List Int
  | 0, s, _ => s
  | f + 1, s, k => if k < s.length then reachGo next wo f ((nexts next (s.getD k 0)).foldl (addN wo) s) (k + 1) else s
/-- to which nodes one comes, without one -/
def reach (nf : Nat) (next : List (List Int)) (i wo : Int) : List Int := if i = wo then [] else reachGo next wo nf [i] 0

variable {next : List (List Int)}

theorem round_nodes (hW : WayOK next) {wo x : Int} (hx : 0 ≤ x ∧ x < next.length) {s : List Int} (hs : Nodes next.length s) : Nodes next.length ((nexts next x).foldl (addN wo) s) :=
  foldl_inv (Nodes next.length) _ s hs fun y hy _ h => addN_nodes h (hW.good _ (nexts_mem hx.1 hx.2) y hy)

theorem ble_lim {n : Nat} (h : n ≤ 9) : Nat.ble n lim = true := by
  rw [Nat.ble_eq]; exact Nat.le_trans h (by decide)

theorem reach_l2 (hW : WayOK next) {nf : Nat} (hn : 60 ≤ nf) {wo : Int} {k : Nat} {s : List Int} (hs : Nodes next.length s) (hk : k < s.length) (g : List Int → Int → Option (List Int × Unit)) :
    ref_Reach_l2 nf next wo k s g nf s 0 = g ((nexts next (s.getD k 0)).foldl (addN wo) s) ((k : Int) + 1) := by
  have hx : 0 ≤ s.getD k 0 ∧ s.getD k 0 < next.length := by
    rw [List.getD_eq_getElem?_getD, List.getElem?_eq_getElem hk]
    exact hs.good _ (List.getElem_mem hk)
  have hthin := hW.thin _ (nexts_mem hx.1 hx.2)
  have hgood := hW.good _ (nexts_mem hx.1 hx.2)
  have hl : (nexts next (s.getD k 0)).length ≤ maxLen := Nat.le_trans hthin (by decide)
  have hlen := hs.len
  have hfew := hW.few
  have h := loop_all (l := nexts next (s.getD k 0)) (d := 0) (F := fun fu t (s' : List Int) => ref_Reach_l2 nf next wo k s g fu s' t) (fin := fun s => g s ((k : Int) + 1))
    (step := fun x _ s k => bif x != wo then Option.bind (ref_Has_f nf s x) fun r => bif !r.fst then (bif bimp false ![x].isEmpty && (s.length + [x].length).ble lim then k (s ++ [x]) else none) else k s else k s) ?_ ?_ nf s (by omega)
  · rw [show ref_Reach_l2 nf next wo k s g nf s 0 = _ from h]
    refine goL_fold (Nodes next.length) _ 0 s hs fun x hx t s' k' hs' => ⟨?_, addN_nodes hs' (hgood x hx)⟩
    have := hs'.len
    rw [has_F s' x (by simp [maxLen]; omega) (by omega)]
    unfold addN
    by_cases h1 : x = wo
    · simp [h1]
    · by_cases h2 : x ∈ s'
      · simp [h2]
      · have hb := ble_lim (n := s'.length + 1) (by omega)
        simp [h1, bne_t h1, h2, bimp, hb]
  · intro fu t s' a b
    simp only [ref_Reach_l2, ref_Reach_b2]
    simp only [nexts] at hl a b ⊢
    simp only [Int.toNat_natCast, inb_ok a b, wrap_step a b hl, b, decide_true, cond_true]
  · intro fu t s' a
    have hk1 : IntKind.i64.wrap ((k : Int) + 1) = (k : Int) + 1 := Go.IntWalk.i64_in _ (by have := hs.len; have := hW.few; omega)
    simp only [ref_Reach_l2, ref_Reach_b2]
    simp only [nexts] at a ⊢
    simp [a, hk1]

theorem addN_len (wo : Int) (s : List Int) (x : Int) : s.length ≤ (addN wo s x).length := by
  unfold addN; split <;> simp
theorem addN_grow (wo : Int) : ∀ (l s : List Int), s.length ≤ (l.foldl (addN wo) s).length
  | [], _ => Nat.le_refl _
  | x :: l, s => Nat.le_trans (addN_len wo s x) (addN_grow wo l _)

theorem nodes_at {n : Nat} {s : List Int} (hs : Nodes n s) {k : Nat} (hk : k < s.length) : 0 ≤ s.getD k 0 ∧ s.getD k 0 < n := by
  rw [List.getD_eq_getElem?_getD, List.getElem?_eq_getElem hk]
  exact hs.good _ (List.getElem_mem hk)

theorem reach_l0 (hW : WayOK next) {nf : Nat} (hn : 60 ≤ nf) {wo : Int} : ∀ (fu k : Nat) (s : List Int), Nodes next.length s → k ≤ s.length → next.length + 1 ≤ k + fu → ref_Reach_l0 nf next wo fu s k = some (reachGo next wo fu s k, ())
  | 0, k, s, hs, hk, h => by have := hs.len; omega
  | fu + 1, k, s, hs, hk, h => by
    simp only [ref_Reach_l0, ref_Reach_b0, reachGo]
    by_cases h1 : k < s.length
    · have hx := nodes_at hs h1
      have h2 : ((k : Int) < (s.length : Int)) := by omega
      rw [if_pos h1, inb_ok (by omega) h2]
      simp only [h2, decide_true, cond_true, Int.toNat_natCast, inb_ok hx.1 hx.2]
      rw [reach_l2 hW hn hs h1]
      have := reach_l0 (wo := wo) hW hn fu (k + 1) _ (round_nodes (wo := wo) hW hx hs) (Nat.le_trans h1 (addN_grow _ _ _)) (by omega)
      simpa using this
    · have h2 : ¬ ((k : Int) < (s.length : Int)) := by omega
      rw [if_neg h1]
      simp [h2]

theorem one_nodes {i : Int} {n : Nat} (hi : 0 ≤ i ∧ i < n) : Nodes n [i] := ⟨by simp, fun x hx => by simp only [List.mem_singleton] at hx; subst hx; exact hi⟩

theorem reach_F (hW : WayOK next) {nf : Nat} (hn : 60 ≤ nf) {i wo : Int} (hi : 0 ≤ i ∧ i < next.length) : ref_Reach_f nf next i wo = some (reach nf next i wo, ()) := by
  simp only [ref_Reach_f, ref_Reach_p, reach]
  by_cases h : i = wo
  · simp [h]
  · have h1 : (i == wo) = false := by simpa using h
    have := hW.few
    rw [h1, if_neg h]
    exact reach_l0 hW hn nf 0 [i] (one_nodes hi) (by simp) (by omega)

theorem reachGo_nodes {next : List (List Int)} (hW : WayOK next) {wo : Int} : ∀ (f k : Nat) (s : List Int), Nodes next.length s → Nodes next.length (reachGo next wo f s k)
  | 0, _, _, h => h
  | f + 1, k, s, h => by
    simp only [reachGo]
    split
    · rename_i hk
      exact reachGo_nodes hW f _ _ (round_nodes hW (nodes_at h hk) h)
    · exact h
theorem reach_nodes {next : List (List Int)} (hW : WayOK next) {nf : Nat} {i wo : Int} (hi : 0 ≤ i ∧ i < next.length) : Nodes next.length (reach nf next i wo) := by
  unfold reach
  split
  · exact ⟨List.nodup_nil, fun x hx => by cases hx⟩
  · exact reachGo_nodes hW nf 0 [i] (one_nodes hi)

/-- a path from i, without wo -/
inductive Path (next : List (List Int)) (wo i : Int) : Int → Prop where
  | here : i ≠ wo → Path next wo i i
  | step {x j : Int} : Path next wo i x → j ∈ nexts next x → j ≠ wo → Path next wo i j

theorem addN_mem {wo : Int} : ∀ (l s : List Int) (y : Int), y ∈ l.foldl (addN wo) s ↔ y ∈ s ∨ (y ∈ l ∧ y ≠ wo)
  | [], s, y => by simp
  | x :: l, s, y => by
    rw [List.foldl_cons, addN_mem l]
    unfold addN
    split
    · rename_i h
      simp only [List.mem_append, List.mem_cons, List.not_mem_nil, or_false]
      constructor
      · rintro ((h1 | h1) | h1)
        · exact .inl h1
        · exact .inr ⟨.inl h1, h1 ▸ h.1⟩
        · exact .inr ⟨.inr h1.1, h1.2⟩
      · rintro (h1 | ⟨h1 | h1, h2⟩)
        · exact .inl (.inl h1)
        · exact .inl (.inr h1)
        · exact .inr ⟨h1, h2⟩
    · rename_i h
      simp only [List.mem_cons]
      constructor
      · rintro (h1 | h1)
        · exact .inl h1
        · exact .inr ⟨.inr h1.1, h1.2⟩
      · rintro (h1 | ⟨h1 | h1, h2⟩)
        · exact .inl h1
        · subst h1
          refine .inl ?_
          by_cases h3 : y ∈ s
          · exact h3
          · exact absurd ⟨h2, h3⟩ h
        · exact .inr ⟨h1, h2⟩

theorem addN_pre {wo : Int} : ∀ (l s : List Int), ∃ r, l.foldl (addN wo) s = s ++ r
  | [], s => ⟨[], by simp⟩
  | x :: l, s => by
    rw [List.foldl_cons]
    obtain ⟨r, hr⟩ := addN_pre l (addN wo s x)
    rw [hr]
    unfold addN
    split
    · exact ⟨x :: r, by simp⟩
    · exact ⟨r, rfl⟩

theorem reachGo_path {wo i : Int} : ∀ (f k : Nat) (s : List Int), (∀ y ∈ s, Path next wo i y) → ∀ y ∈ reachGo next wo f s k, Path next wo i y
  | 0, _, _, h => h
  | f + 1, k, s, h => by
    simp only [reachGo]
    split
    · rename_i hk
      refine reachGo_path f _ _ fun y hy => ?_
      rcases (addN_mem _ _ _).1 hy with h1 | ⟨h1, h2⟩
      · exact h y h1
      · refine .step (h (s.getD k 0) ?_) h1 h2
        rw [List.getD_eq_getElem?_getD, List.getElem?_eq_getElem hk]
        exact List.getElem_mem hk
    · exact h

theorem reachGo_closed (hW : WayOK next) {wo : Int} : ∀ (f k : Nat) (s : List Int), Nodes next.length s → k ≤ s.length → next.length + 1 ≤ k + f → (∀ m, m < k → ∀ j ∈ nexts next (s.getD m 0), j ≠ wo → j ∈ s) →
    (∀ y ∈ s, y ∈ reachGo next wo f s k) ∧ ∀ x ∈ reachGo next wo f s k, ∀ j ∈ nexts next x, j ≠ wo → j ∈ reachGo next wo f s k
  | 0, k, s, hs, hk, h, _ => by have := hs.len; omega
  | f + 1, k, s, hs, hk, h, hc => by
    simp only [reachGo]
    split
    · rename_i h1
      have hx := nodes_at hs h1
      obtain ⟨r, hr⟩ := addN_pre (wo := wo) (nexts next (s.getD k 0)) s
      obtain ⟨h2, h3⟩ := reachGo_closed hW f (k + 1) _ (round_nodes (wo := wo) hW hx hs) (Nat.le_trans h1 (addN_grow _ _ _)) (by omega) fun m hm j hj hjw => by
        have e : ((nexts next (s.getD k 0)).foldl (addN wo) s).getD m 0 = s.getD m 0 := by
          rw [hr]
          simp only [List.getD_eq_getElem?_getD]
          rw [List.getElem?_append_left (by omega)]
        rw [e] at hj
        refine (addN_mem _ _ _).2 ?_
        by_cases hmk : m = k
        · subst hmk; exact .inr ⟨hj, hjw⟩
        · exact .inl (hc m (by omega) j hj hjw)
      exact ⟨fun y hy => h2 y ((addN_mem _ _ _).2 (.inl hy)), h3⟩
    · rename_i h1
      refine ⟨fun y hy => hy, fun x hx j hj hjw => ?_⟩
      obtain ⟨m, hm, rfl⟩ := List.mem_iff_getElem.1 hx
      refine hc m (by omega) j ?_ hjw
      rw [List.getD_eq_getElem?_getD, List.getElem?_eq_getElem hm]
      exact hj

theorem mem_reach (hW : WayOK next) {nf : Nat} (hn : 60 ≤ nf) {i wo : Int} (hi : 0 ≤ i ∧ i < next.length) (j : Int) : j ∈ reach nf next i wo ↔ Path next wo i j := by
  unfold reach
  by_cases h : i = wo
  · rw [if_pos h]
    constructor
    · intro h; cases h
    · intro hp
      exfalso
      induction hp with
      | here h1 => exact h1 h
      | step _ _ _ ih => exact ih
  · rw [if_neg h]
    have hf := hW.few
    obtain ⟨h1, h2⟩ := reachGo_closed hW (wo := wo) nf 0 [i] (one_nodes hi) (by simp) (by omega) (fun m hm => absurd hm (Nat.not_lt_zero m))
    constructor
    · exact reachGo_path nf 0 [i] (fun y hy => by simp only [List.mem_singleton] at hy; subst hy; exact .here h) j
    · intro hp
      induction hp with
      | here _ => exact h1 _ (by simp)
      | step _ h3 h4 ih => exact h2 _ ih _ h3 h4
end Go.Proofs.Ytoglkjmdloppcaa
