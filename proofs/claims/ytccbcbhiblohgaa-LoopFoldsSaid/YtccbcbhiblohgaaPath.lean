/- Ways: one comes to a node by a path. -/
import Derived.Test.YtccbcbhiblohgaaReach
namespace Go.Proofs.Ytccbcbhiblohgaa
open Go Go.Ab S

theorem reachGo_nodes {next : List (List Int)} (hW : WayOK next) {wo : Int} : ∀ (f k : Nat) (s : List Int), Nodes next.length s → Nodes next.length (reachGo next wo f s k)
  | 0, _, _, h => h
  | f + 1, k, s, h => by
    simp only [reachGo]
    split
    · rename_i hk
      exact reachGo_nodes hW f _ _ (round_nodes hW (nodes_at h hk) h)
    · exact h
theorem reach_nodes {next : List (List Int)} (hW : WayOK next) {nf : Nat} {i wo : Int} (hi : 0 ≤ i ∧ i < next.length) : Nodes next.length (reach nf next i wo) := by
  unfold reach
  split
  · exact ⟨List.nodup_nil, fun x hx => by cases hx⟩
  · exact reachGo_nodes hW nf 0 [i] (one_nodes hi)

/-- a path from i, without wo -/
inductive Path (next : List (List Int)) (wo i : Int) : Int → Prop where
  | here : i ≠ wo → Path next wo i i
  | step {x j : Int} : Path next wo i x → j ∈ nexts next x → j ≠ wo → Path next wo i j

theorem addN_mem {wo : Int} : ∀ (l s : List Int) (y : Int), y ∈ l.foldl (addN wo) s ↔ y ∈ s ∨ (y ∈ l ∧ y ≠ wo)
  | [], s, y => by simp
  | x :: l, s, y => by
    rw [List.foldl_cons, addN_mem l]
    unfold addN
    split
    · rename_i h
      simp only [List.mem_append, List.mem_cons, List.not_mem_nil, or_false]
      constructor
      · rintro ((h1 | h1) | h1)
        · exact .inl h1
        · exact .inr ⟨.inl h1, h1 ▸ h.1⟩
        · exact .inr ⟨.inr h1.1, h1.2⟩
      · rintro (h1 | ⟨h1 | h1, h2⟩)
        · exact .inl (.inl h1)
        · exact .inl (.inr h1)
        · exact .inr ⟨h1, h2⟩
    · rename_i h
      simp only [List.mem_cons]
      constructor
      · rintro (h1 | h1)
        · exact .inl h1
        · exact .inr ⟨.inr h1.1, h1.2⟩
      · rintro (h1 | ⟨h1 | h1, h2⟩)
        · exact .inl h1
        · subst h1
          refine .inl ?_
          by_cases h3 : y ∈ s
          · exact h3
          · exact absurd ⟨h2, h3⟩ h
        · exact .inr ⟨h1, h2⟩

theorem addN_pre {wo : Int} : ∀ (l s : List Int), ∃ r, l.foldl (addN wo) s = s ++ r
  | [], s => ⟨[], by simp⟩
  | x :: l, s => by
    rw [List.foldl_cons]
    obtain ⟨r, hr⟩ := addN_pre l (addN wo s x)
    rw [hr]
    unfold addN
    split
    · exact ⟨x :: r, by simp⟩
    · exact ⟨r, rfl⟩

variable {next : List (List Int)}

theorem reachGo_path {wo i : Int} : ∀ (f k : Nat) (s : List Int), (∀ y ∈ s, Path next wo i y) → ∀ y ∈ reachGo next wo f s k, Path next wo i y
  | 0, _, _, h => h
  | f + 1, k, s, h => by
    simp only [reachGo]
    split
    · rename_i hk
      refine reachGo_path f _ _ fun y hy => ?_
      rcases (addN_mem _ _ _).1 hy with h1 | ⟨h1, h2⟩
      · exact h y h1
      · refine .step (h (s.getD k 0) ?_) h1 h2
        rw [List.getD_eq_getElem?_getD, List.getElem?_eq_getElem hk]
        exact List.getElem_mem hk
    · exact h

theorem reachGo_closed (hW : WayOK next) {wo : Int} : ∀ (f k : Nat) (s : List Int), Nodes next.length s → k ≤ s.length → next.length + 1 ≤ k + f → (∀ m, m < k → ∀ j ∈ nexts next (s.getD m 0), j ≠ wo → j ∈ s) →
    (∀ y ∈ s, y ∈ reachGo next wo f s k) ∧ ∀ x ∈ reachGo next wo f s k, ∀ j ∈ nexts next x, j ≠ wo → j ∈ reachGo next wo f s k
  | 0, k, s, hs, hk, h, _ => by have := hs.len; omega
  | f + 1, k, s, hs, hk, h, hc => by
    simp only [reachGo]
    split
    · rename_i h1
      have hx := nodes_at hs h1
      obtain ⟨r, hr⟩ := addN_pre (wo := wo) (nexts next (s.getD k 0)) s
      obtain ⟨h2, h3⟩ := reachGo_closed hW f (k + 1) _ (round_nodes (wo := wo) hW hx hs) (Nat.le_trans h1 (addN_grow _ _ _)) (by omega) fun m hm j hj hjw => by
        have e : ((nexts next (s.getD k 0)).foldl (addN wo) s).getD m 0 = s.getD m 0 := by
          rw [hr]
          simp only [List.getD_eq_getElem?_getD]
          rw [List.getElem?_append_left (by omega)]
        rw [e] at hj
        refine (addN_mem _ _ _).2 ?_
        by_cases hmk : m = k
        · subst hmk; exact .inr ⟨hj, hjw⟩
        · exact .inl (hc m (by omega) j hj hjw)
      exact ⟨fun y hy => h2 y ((addN_mem _ _ _).2 (.inl hy)), h3⟩
    · rename_i h1
      refine ⟨fun y hy => hy, fun x hx j hj hjw => ?_⟩
      obtain ⟨m, hm, rfl⟩ := List.mem_iff_getElem.1 hx
      refine hc m (by omega) j ?_ hjw
      rw [List.getD_eq_getElem?_getD, List.getElem?_eq_getElem hm]
      exact hj

theorem mem_reach (hW : WayOK next) {nf : Nat} (hn : 12 ≤ nf) {i wo : Int} (hi : 0 ≤ i ∧ i < next.length) (j : Int) : j ∈ reach nf next i wo ↔ Path next wo i j := by
  unfold reach
  by_cases h : i = wo
  · rw [if_pos h]
    constructor
    · intro h; cases h
    · intro hp
      exfalso
      induction hp with
      | here h1 => exact h1 h
      | step _ _ _ ih => exact ih
  · rw [if_neg h]
    have hf := hW.few
    obtain ⟨h1, h2⟩ := reachGo_closed hW (wo := wo) nf 0 [i] (one_nodes hi) (by simp) (by omega) (fun m hm => absurd hm (Nat.not_lt_zero m))
    constructor
    · exact reachGo_path nf 0 [i] (fun y hy => by simp only [List.mem_singleton] at hy; subst hy; exact .here h) j
    · intro hp
      induction hp with
      | here _ => exact h1 _ (by simp)
      | step _ h3 h4 ih => exact h2 _ ih _ h3 h4
end Go.Proofs.Ytccbcbhiblohgaa
