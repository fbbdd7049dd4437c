/- Ways: from where one comes to an end. -/
import Derived.Test.YtccbcbhiblohgaaFn2
import Derived.Test.YtccbcbhiblohgaaPath
import Derived.Test.YtccbcbhiblohgaaBits
namespace Go.Proofs.Ytccbcbhiblohgaa
open Go Go.Ab S

variable {next : List (List Int)} {nf : Nat}

/-- from i one comes to an end, without wo -/
inductive Ends (next : List (List Int)) (wo : Int) : Int → Prop where
  | here {i : Int} : i ≠ wo → nexts next i = [] → Ends next wo i
  | step {i j : Int} : i ≠ wo → j ∈ nexts next i → Ends next wo j → Ends next wo i

theorem path_ne {wo i j : Int} (h : Path next wo i j) : j ≠ wo := by
  cases h with
  | here h => exact h
  | step _ _ h => exact h
theorem path_cons {wo i j x : Int} (hi : i ≠ wo) (hj : j ∈ nexts next i) (h : Path next wo j x) : Path next wo i x := by
  induction h with
  | here h1 => exact .step (.here hi) hj h1
  | step _ h1 h2 ih => exact .step ih h1 h2
theorem ends_path {wo i : Int} : Ends next wo i ↔ ∃ e, Path next wo i e ∧ nexts next e = [] := by
  constructor
  · intro h
    induction h with
    | here h1 h2 => exact ⟨_, .here h1, h2⟩
    | step h1 h2 _ ih => obtain ⟨e, h3, h4⟩ := ih; exact ⟨e, path_cons h1 h2 h3, h4⟩
  · rintro ⟨e, h1, h2⟩
    have key : ∀ x, Path next wo i x → Ends next wo x → Ends next wo i := by
      intro x hp
      induction hp with
      | here h => exact id
      | step h3 h4 h5 ih => exact fun h => ih (.step (path_ne h3) h4 h)
    exact key e h1 (.here (path_ne h1) h2)

def endsB (nf : Nat) (next : List (List Int)) (wo i : Int) : Bool := (reach nf next i wo).any fun j => (nexts next j).isEmpty
theorem endsB_iff (hW : WayOK next) (hn : 12 ≤ nf) {i wo : Int} (hi : 0 ≤ i ∧ i < next.length) : endsB nf next wo i = true ↔ Ends next wo i := by
  unfold endsB
  rw [List.any_eq_true, ends_path]
  constructor
  · rintro ⟨e, h1, h2⟩; exact ⟨e, (mem_reach hW hn hi e).1 h1, by simpa using h2⟩
  · rintro ⟨e, h1, h2⟩; exact ⟨e, (mem_reach hW hn hi e).2 h1, by simpa using h2⟩

theorem hcontains_F {w : Int} (hw : W32 w) (l : List Int) (hl : l.length ≤ maxLen) (hf : l.length < nf) (hg : ∀ x ∈ l, 0 ≤ x ∧ x < 32) : slices_ContainsFunc__hang_comes_1_f nf l (w, ()) = some (l.any (fun j => bt w j.toNat), ()) := by
  have h := loop_all (l := l) (d := 0) (F := fun fu t (_ : Unit) => slices_IndexFunc__hang_comes_1_l0 nf l (w, ()) fu t) (fin := fun _ => some (-1, ()))
    (step := fun x t s k => bif decide (0 ≤ x) && decide (x < 32) then bif bt w x.toNat then some (t, ()) else k s else none) ?_ ?_ nf () hf
  · have key : ∀ (l : List Int) (t : Int), (∀ x ∈ l, 0 ≤ x ∧ x < 32) → 0 ≤ t → ∃ r, goL (fun x t (s : Unit) k => bif decide (0 ≤ x) && decide (x < 32) then bif bt w x.toNat then some (t, ()) else k s else none) (fun _ => some (-1, ())) l t () = some (r, ()) ∧ decide (r ≥ 0) = l.any (fun j => bt w j.toNat) := by
      intro l
      induction l with
      | nil => intro t _ _; exact ⟨-1, rfl, rfl⟩
      | cons x r ih =>
        intro t hx ht
        obtain ⟨r', h1, h2⟩ := ih (t + 1) (fun y hy => hx y (by simp [hy])) (by omega)
        have h3 := hx x (by simp)
        simp only [goL, List.any_cons, h3.1, h3.2, decide_true, Bool.and_self, cond_true]
        cases hb : bt w x.toNat with
        | true => exact ⟨t, rfl, by simp [ht]⟩
        | false => exact ⟨r', by rw [cond_false]; exact h1, by rw [h2]; rfl⟩
    obtain ⟨r, h1, h2⟩ := key l 0 hg (Int.le_refl _)
    simp only [slices_ContainsFunc__hang_comes_1_f, slices_ContainsFunc__hang_comes_1_p, slices_IndexFunc__hang_comes_1_f, slices_IndexFunc__hang_comes_1_p]
    rw [show slices_IndexFunc__hang_comes_1_l0 nf l (w, ()) nf 0 = _ from h, h1]
    simp only [Option.bind_some, h2]
  · intro fu t s a b
    have hx := hg _ (getD_mem (l := l) (t := t) (d := 0) a b)
    simp only [slices_IndexFunc__hang_comes_1_l0, slices_IndexFunc__hang_comes_1_b0, inb_ok a b, wrap_step a b hl, b, decide_true, cond_true, hang_comes_1_f, hang_comes_1_p]
    have h3 := shr_and_beq1 hw hx.1 hx.2
    unfold and32 at h3
    rw [h3]
    simp only [hx.1, hx.2, decide_true, Bool.and_self, cond_true, Option.bind_some]
  · intro fu t s a
    simp [slices_IndexFunc__hang_comes_1_l0, slices_IndexFunc__hang_comes_1_b0, a]

/-- what a set says of one node more -/
def Rule (next : List (List Int)) (wo : Int) (Q : Nat → Prop) (i : Nat) : Prop := i < next.length ∧ (i : Int) ≠ wo ∧ (nexts next i = [] ∨ ∃ j ∈ nexts next i, Q j.toNat)

theorem comes_l2 (hW : WayOK next) (hn : 12 ≤ nf) {wo t11 : Int} (ht11 : 0 ≤ t11 ∧ t11 < next.length) {w : Int} (hw : W32 w) (g : Int → Int → Option (Int × Unit)) :
    ∃ w', W32 w' ∧ (∀ k, bt w k = true → bt w' k = true) ∧ (∀ i, Rule next wo (fun k => bt w k = true) i → bt w' i = true) ∧
      (∀ Q : Nat → Prop, (∀ i, Rule next wo Q i → Q i) → (∀ k, bt w k = true → Q k) → ∀ k, bt w' k = true → Q k) ∧ hang_comes_l2 nf next wo t11 g nf w 0 = g w' (t11 + 1) := by
  have h8 := hW.few
  have hm : next.length ≤ maxLen := Nat.le_trans h8 (by decide)
  have key := loop_inv (n := next.length) (F := fun fu t (q : Int) => hang_comes_l2 nf next wo t11 g fu q t)
    (fun t q => W32 q ∧ (∀ k, bt w k = true → bt q k = true) ∧ (∀ i : Nat, (i : Int) < t → Rule next wo (fun k => bt w k = true) i → bt q i = true) ∧
      (∀ Q : Nat → Prop, (∀ i, Rule next wo Q i → Q i) → (∀ k, bt w k = true → Q k) → ∀ k, bt q k = true → Q k)) ?_ nf 0 w (Int.le_refl _) (by omega) (by omega) ⟨hw, fun _ h => h, fun i h => by omega, fun Q _ h => h⟩
  · obtain ⟨fu', q, ⟨h1, h2, h3, h4⟩, h5⟩ := key
    refine ⟨q, h1, h2, fun i hi => h3 i (by have := hi.1; omega) hi, h4, ?_⟩
    rw [h5, hang_comes_l2, hang_comes_b2]
    rw [wrap_step ht11.1 ht11.2 hm]
    simp
  · rintro fu t q ht0 ht1 ⟨h1, h2, h3, h4⟩
    have hmem : next.getD t.toNat [] ∈ next := getD_mem ht0 ht1
    have hthin := hW.thin _ hmem
    have hgood := hW.good _ hmem
    have ct : ((t.toNat : Nat) : Int) = t := by omega
    have hnx : nexts next (t.toNat : Nat) = next.getD t.toNat [] := by simp only [nexts, ct]
    have hc := hcontains_F (nf := nf) h1 (next.getD t.toNat []) (Nat.le_trans hthin (by decide)) (by omega) (fun x hx => by have := hgood x hx; omega)
    have hlt : t < 32 := by omega
    -- the node is put in, or not
    by_cases hr : t ≠ wo ∧ ((next.getD t.toNat []).length = 0 ∨ (next.getD t.toNat []).any (fun j => bt q j.toNat) = true)
    · have hrule : Rule next wo (fun k => bt q k = true) t.toNat := by
        refine ⟨by omega, by rw [ct]; exact hr.1, ?_⟩
        rw [hnx]
        rcases hr.2 with h | h
        · exact .inl (List.eq_nil_of_length_eq_zero h)
        · obtain ⟨j, h5, h6⟩ := List.any_eq_true.1 h; exact .inr ⟨j, h5, h6⟩
      refine ⟨or32 q (shlI .u32 1 t), ?_, or32_w _ _, fun k hk => ?_, fun i hi hri => ?_, fun Q hQ hwQ k hk => ?_⟩
      · rw [hang_comes_l2, hang_comes_b2, inb_ok ht0 ht1, hc, wrap_step ht0 ht1 hm]
        simp only [ht1, ht0, decide_true, cond_true, Option.bind_some, bne_t hr.1]
        by_cases h5 : (next.getD t.toNat []).length = 0
        · have h6 : (((next.getD t.toNat []).length : Int) == 0) = true := by rw [h5]; rfl
          rw [h6]; rfl
        · have h6 : (((next.getD t.toNat []).length : Int) == 0) = false := beq_f (by omega)
          have h7 := hr.2.resolve_left h5
          rw [h6, h7]; rfl
      · rw [or32_bt h1 (one_w ht0 hlt), h2 k hk]; rfl
      · rw [or32_bt h1 (one_w ht0 hlt), one_bt ht0 hlt]
        by_cases hit : (i : Int) < t
        · rw [h3 i hit hri]; rfl
        · rw [decide_eq_true (show i = t.toNat by omega), Bool.or_true]
      · rw [or32_bt h1 (one_w ht0 hlt), one_bt ht0 hlt, Bool.or_eq_true] at hk
        rcases hk with hk | hk
        · exact h4 Q hQ hwQ k hk
        · have : k = t.toNat := by simpa using hk
          subst this
          refine hQ _ ⟨hrule.1, hrule.2.1, hrule.2.2.imp id fun ⟨j, h5, h6⟩ => ⟨j, h5, h4 Q hQ hwQ _ h6⟩⟩
    · refine ⟨q, ?_, h1, h2, fun i hi hri => ?_, h4⟩
      · rw [hang_comes_l2, hang_comes_b2, inb_ok ht0 ht1, hc, wrap_step ht0 ht1 hm]
        simp only [ht1, ht0, decide_true, cond_true, Option.bind_some]
        by_cases h5 : t = wo
        · subst h5; simp
        · rw [bne_t h5]
          have h6 : ¬ (next.getD t.toNat []).length = 0 := fun h => hr ⟨h5, .inl h⟩
          have h7 : (((next.getD t.toNat []).length : Int) == 0) = false := beq_f (by omega)
          have h8 : (next.getD t.toNat []).any (fun j => bt q j.toNat) = false := by
            cases hx : (next.getD t.toNat []).any (fun j => bt q j.toNat) with
            | false => rfl
            | true => exact absurd ⟨h5, .inr hx⟩ hr
          rw [h7, h8]; rfl
      · by_cases hit : (i : Int) < t
        · exact h3 i hit hri
        · exfalso
          have hi' : i = t.toNat := by omega
          subst hi'
          obtain ⟨_, h6, h7⟩ := hri
          rw [ct] at h6
          rw [hnx] at h7
          refine hr ⟨h6, ?_⟩
          rcases h7 with h7 | ⟨j, h8, h9⟩
          · exact .inl (by rw [h7]; rfl)
          · exact .inr (List.any_eq_true.2 ⟨j, h8, h2 _ h9⟩)

theorem all_nodes {n : Nat} {l : List Int} (h : Nodes n l) (hl : l.length = n) {i : Int} (hi : 0 ≤ i ∧ i < n) : i ∈ l := by
  by_cases hm : i ∈ l
  · exact hm
  · have : Nodes n (i :: l) := ⟨List.nodup_cons.2 ⟨hm, h.once⟩, fun x hx => by
      rcases List.mem_cons.1 hx with rfl | hx
      · exact hi
      · exact h.good x hx⟩
    have := this.len
    simp at this
    omega

theorem comes_F (hW : WayOK next) (hn : 12 ≤ nf) (wo : Int) : ∃ w, W32 w ∧ (∀ k : Nat, bt w k = true ↔ k < next.length ∧ Ends next wo k) ∧ hang_comes_f nf next wo = some (w, ()) := by
  have h8 := hW.few
  have key := loop_inv (n := next.length) (F := fun fu t (q : Int) => hang_comes_l0 nf next wo fu q t)
    (fun t q => W32 q ∧ (∀ k, bt q k = true → k < next.length ∧ Ends next wo k) ∧ ((∀ i, Rule next wo (fun k => bt q k = true) i → bt q i = true) ∨ ∃ l : List Int, Nodes next.length l ∧ (l.length : Int) = t ∧ ∀ x ∈ l, bt q x.toNat = true))
    ?_ nf 0 0 (Int.le_refl _) (by omega) (by omega) ⟨W32_zero, fun k h => by simp [bt_zero] at h, .inr ⟨[], ⟨List.nodup_nil, fun x hx => by cases hx⟩, rfl, fun x hx => by cases hx⟩⟩
  · obtain ⟨fu', q, ⟨h1, h2, h3⟩, h5⟩ := key
    have hcl : ∀ i, Rule next wo (fun k => bt q k = true) i → bt q i = true := by
      rcases h3 with h3 | ⟨l, h3, h4, h6⟩
      · exact h3
      · intro i hi
        have := h6 i (all_nodes h3 (by omega) (by have := hi.1; omega))
        simpa using this
    refine ⟨q, h1, fun k => ⟨h2 k, fun ⟨h6, h7⟩ => ?_⟩, ?_⟩
    · have key : ∀ i : Int, Ends next wo i → 0 ≤ i → i < next.length → bt q i.toNat = true := by
        intro i he
        induction he with
        | @here i a b =>
          intro c d
          refine hcl _ ⟨by omega, ?_, .inl ?_⟩
          · rw [show ((i.toNat : Nat) : Int) = i by omega]; exact a
          · rw [show ((i.toNat : Nat) : Int) = i by omega]; exact b
        | @step i j a b _ ih =>
          intro c d
          have hj := hW.good _ (nexts_mem c d) j b
          refine hcl _ ⟨by omega, ?_, .inr ⟨j, ?_, ih hj.1 hj.2⟩⟩
          · rw [show ((i.toNat : Nat) : Int) = i by omega]; exact a
          · rw [show ((i.toNat : Nat) : Int) = i by omega]; exact b
      have := key k h7 (by omega) (by omega)
      simpa using this
    · simp only [hang_comes_f, hang_comes_p]
      rw [h5, hang_comes_l0, hang_comes_b0]
      simp
  · rintro fu t q ht0 ht1 ⟨h1, h2, h3⟩
    obtain ⟨w', g1, g2, g3, g4, g5⟩ := comes_l2 (wo := wo) hW hn ⟨ht0, ht1⟩ h1 (fun set' t11 => hang_comes_l0 nf next wo fu set' t11)
    refine ⟨w', ?_, g1, ?_, ?_⟩
    · rw [hang_comes_l0, hang_comes_b0]
      simp only [ht1, decide_true, cond_true]
      exact g5
    · refine g4 (fun k => k < next.length ∧ Ends next wo k) (fun i ⟨a, b, c⟩ => ⟨a, ?_⟩) h2
      rcases c with c | ⟨j, c, d⟩
      · exact .here b c
      · refine .step b c ?_
        have hj := hW.good _ (nexts_mem (by omega) (by omega)) j c
        have := d.2
        rwa [show ((j.toNat : Nat) : Int) = j by omega] at this
    · rcases h3 with h3 | ⟨l, h3, h4, h6⟩
      · left
        intro i hi
        have hsub := g4 (fun k => bt q k = true) h3 (fun _ h => h)
        exact g2 i (h3 i ⟨hi.1, hi.2.1, hi.2.2.imp id fun ⟨j, a, b⟩ => ⟨j, a, hsub _ b⟩⟩)
      · by_cases hcl : ∀ i, Rule next wo (fun k => bt q k = true) i → bt q i = true
        · left
          intro i hi
          have hsub := g4 (fun k => bt q k = true) hcl (fun _ h => h)
          exact g2 i (hcl i ⟨hi.1, hi.2.1, hi.2.2.imp id fun ⟨j, a, b⟩ => ⟨j, a, hsub _ b⟩⟩)
        · right
          simp only [Classical.not_forall] at hcl
          obtain ⟨i, hi, hni⟩ := hcl
          refine ⟨(i : Int) :: l, ⟨List.nodup_cons.2 ⟨fun hm => hni (by have := h6 _ hm; simpa using this), h3.once⟩, fun x hx => ?_⟩, by simp; omega, fun x hx => ?_⟩
          · rcases List.mem_cons.1 hx with rfl | hx
            · have := hi.1; omega
            · exact h3.good x hx
          · rcases List.mem_cons.1 hx with rfl | hx
            · have := g3 i hi; simpa using this
            · exact g2 _ (h6 x hx)
end Go.Proofs.Ytccbcbhiblohgaa
