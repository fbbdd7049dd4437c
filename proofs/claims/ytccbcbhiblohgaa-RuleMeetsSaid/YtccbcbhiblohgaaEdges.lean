/- The edge of what a node rules, as rule.Edges and the document compute it. -/
import Derived.Test.YtccbcbhiblohgaaRules
namespace Go.Proofs.Ytccbcbhiblohgaa
open Go Go.Ab S

variable {next : List (List Int)} {nf : Nat}

def edgeStep (nf : Nat) (next : List (List Int)) (i : Int) (w j : Int) : Int := bif j == i || !domB nf next i j then or32 w (shlI .u32 1 j) else w
def edgeRow (nf : Nat) (next : List (List Int)) (i k : Int) (w : Int) : Int := bif domB nf next i k then (nexts next k).foldl (edgeStep nf next i) w else w
def edgeGo (nf : Nat) (next : List (List Int)) (i : Int) : Nat → Int
  | 0 => 0
  | t + 1 => edgeRow nf next i t (edgeGo nf next i t)
def edgeW (nf : Nat) (next : List (List Int)) (i : Int) : Int := edgeGo nf next i next.length

theorem edgeStep_w {i w j : Int} (h : W32 w) : W32 (edgeStep nf next i w j) := by
  unfold edgeStep
  cases (j == i || !domB nf next i j)
  · exact h
  · exact or32_w _ _
theorem edgeFold_w {i : Int} : ∀ (l : List Int) {w : Int}, W32 w → W32 (l.foldl (edgeStep nf next i) w)
  | [], _, h => h
  | _ :: l, _, h => edgeFold_w l (edgeStep_w h)
theorem edgeGo_w {i : Int} : ∀ t, W32 (edgeGo nf next i t)
  | 0 => W32_zero
  | t + 1 => by
    simp only [edgeGo, edgeRow]
    cases domB nf next i (t : Int)
    · exact edgeGo_w t
    · exact edgeFold_w _ (edgeGo_w t)

theorem edgeW_w {i : Int} : W32 (edgeW nf next i) := edgeGo_w _

theorem edge_l2 (hW : WayOK next) (hn : 12 ≤ nf) {i k : Int} (hk : 0 ≤ k ∧ k < next.length) (w : Int) (g : Int → Int → Option (Int × Unit)) :
    ref_Edge_l2 nf next i k g nf w 0 = g ((nexts next k).foldl (edgeStep nf next i) w) (k + 1) := by
  have h8 := hW.few
  have hmem : nexts next k ∈ next := nexts_mem hk.1 hk.2
  have hthin := hW.thin _ hmem
  have hgood := hW.good _ hmem
  have hlen : (nexts next k).length ≤ maxLen := Nat.le_trans hthin (by decide)
  have key := loop_inv (n := (nexts next k).length) (F := fun fu t (q : Int) => ref_Edge_l2 nf next i k g fu q t)
    (fun t q => q = ((nexts next k).take t.toNat).foldl (edgeStep nf next i) w) ?_ nf 0 w (Int.le_refl _) (by omega) (by omega) rfl
  · obtain ⟨fu', q, h1, h5⟩ := key
    rw [Int.toNat_natCast, List.take_length] at h1
    subst h1
    rw [h5, ref_Edge_l2, ref_Edge_b2, wrap_step hk.1 hk.2 (Nat.le_trans h8 (by decide))]
    simp only [nexts, Int.lt_irrefl, decide_false, cond_false]
  · rintro fu t q ht0 ht1 rfl
    refine ⟨_, ?_, rfl⟩
    have hx := hgood _ (getD_mem (l := nexts next k) (t := t) (d := 0) ht0 ht1)
    rw [take_fold _ _ (d := (0 : Int)) ht0 ht1]
    generalize ((nexts next k).take t.toNat).foldl (edgeStep nf next i) w = q
    rw [ref_Edge_l2, ref_Edge_b2]
    have ht1' : t < ((next.getD k.toNat []).length : Int) := ht1
    have hx' : 0 ≤ List.getD (next.getD k.toNat []) t.toNat 0 ∧ List.getD (next.getD k.toNat []) t.toNat 0 < next.length := hx
    rw [inb_ok ht0 ht1', wrap_u64 hx'.1 (by omega), wrap_step (n := (next.getD k.toNat []).length) ht0 ht1' hlen]
    simp only [ht1', hx'.1, decide_true, cond_true, ref_Rules_F hW hn, Option.bind_some, edgeStep, nexts]
    cases (List.getD (next.getD k.toNat []) t.toNat 0 == i) <;> cases domB nf next i (List.getD (next.getD k.toNat []) t.toNat 0) <;> rfl

theorem ref_Edge_F (hW : WayOK next) (hn : 12 ≤ nf) {i : Int} : ref_Edge_f nf next i = some (edgeW nf next i, ()) := by
  have h8 := hW.few
  have hm : next.length ≤ maxLen := Nat.le_trans h8 (by decide)
  simp only [ref_Edge_f, ref_Edge_p]
  have key := loop_inv (n := next.length) (F := fun fu t (q : Int) => ref_Edge_l0 nf next i fu q t)
    (fun t q => q = edgeGo nf next i t.toNat) ?_ nf 0 0 (Int.le_refl _) (by omega) (by omega) rfl
  · obtain ⟨fu', q, h1, h5⟩ := key
    subst h1
    rw [h5, ref_Edge_l0, ref_Edge_b0]
    simp only [Int.lt_irrefl, decide_false, cond_false, edgeW, Int.toNat_natCast]
  · rintro fu t q ht0 ht1 rfl
    refine ⟨_, ?_, rfl⟩
    rw [show (t + 1).toNat = t.toNat + 1 by omega, edgeGo, edgeRow, show ((t.toNat : Nat) : Int) = t by omega]
    rw [ref_Edge_l0, ref_Edge_b0]
    simp only [ht1, decide_true, cond_true, ref_Rules_F hW hn, Option.bind_some, inb_ok ht0 ht1, wrap_step ht0 ht1 hm]
    cases domB nf next i t with
    | false => rfl
    | true => exact edge_l2 hW hn ⟨ht0, ht1⟩ _ (fun s k' => ref_Edge_l0 nf next i fu s k')

/-- the bits of the table -/
theorem tab_bit (hW : WayOK next) {l : List Int} (hl : RulesOK nf next l) {i j : Int} (hi : 0 ≤ i ∧ i < next.length) (hj : 0 ≤ j ∧ j < next.length) :
    (and32 (shrI .u32 (l.getD j.toNat 0) i) 1 == 0) = !domB nf next i j := by
  have h8 := hW.few
  obtain ⟨h1, h2⟩ := hl.2 j hj.1 hj.2
  rw [shr_and_beq0 h1 hi.1 (by omega), h2, show ((i.toNat : Nat) : Int) = i by omega]

theorem edges_l4 (hW : WayOK next) (hn : 12 ≤ nf) {l : List Int} (hl : RulesOK nf next l) (rr : List Int × Unit) {base : List Int} (hb : base.length = next.length) {i k : Int} (hi : 0 ≤ i ∧ i < next.length) (hk : 0 ≤ k ∧ k < next.length) (w : Int) (g2 g0 : List Int → List Int → Int → Option (List Int × Unit)) :
    rule_Edges_l4 nf next i k rr g2 g0 nf l (base.set i.toNat w) 0 = g2 l (base.set i.toNat ((nexts next k).foldl (edgeStep nf next i) w)) (k + 1) := by
  have h8 := hW.few
  have hmem : nexts next k ∈ next := nexts_mem hk.1 hk.2
  have hthin := hW.thin _ hmem
  have hgood := hW.good _ hmem
  have hlen : (nexts next k).length ≤ maxLen := Nat.le_trans hthin (by decide)
  have key := loop_inv (n := (nexts next k).length) (F := fun fu t (q : Int) => rule_Edges_l4 nf next i k rr g2 g0 fu l (base.set i.toNat q) t)
    (fun t q => q = ((nexts next k).take t.toNat).foldl (edgeStep nf next i) w) ?_ nf 0 w (Int.le_refl _) (by omega) (by omega) rfl
  · obtain ⟨fu', q, h1, h5⟩ := key
    rw [Int.toNat_natCast, List.take_length] at h1
    subst h1
    rw [h5, rule_Edges_l4, rule_Edges_b4, wrap_step hk.1 hk.2 (Nat.le_trans h8 (by decide))]
    simp only [nexts, Int.lt_irrefl, decide_false, cond_false]
  · rintro fu t q ht0 ht1 rfl
    refine ⟨_, ?_, rfl⟩
    have hx := hgood _ (getD_mem (l := nexts next k) (t := t) (d := 0) ht0 ht1)
    rw [take_fold _ _ (d := (0 : Int)) ht0 ht1]
    generalize ((nexts next k).take t.toNat).foldl (edgeStep nf next i) w = q
    rw [rule_Edges_l4, rule_Edges_b4]
    have ht1' : t < ((next.getD k.toNat []).length : Int) := ht1
    have hx' : 0 ≤ List.getD (next.getD k.toNat []) t.toNat 0 ∧ List.getD (next.getD k.toNat []) t.toNat 0 < next.length := hx
    have hs := tab_bit hW hl hi hx'
    unfold and32 at hs
    rw [inb_ok ht0 ht1', inb_ok (t := i) (n := (base.set i.toNat q).length) hi.1 (by simp; omega), inb_ok (n := l.length) hx'.1 (by rw [hl.1]; exact hx'.2), wrap_step (n := (next.getD k.toNat []).length) ht0 ht1' hlen, hs,
      getD_upd (by omega), if_pos rfl, List.set_set]
    simp only [ht1', hx'.1, hi.1, decide_true, cond_true, edgeStep, nexts]
    cases (List.getD (next.getD k.toNat []) t.toNat 0 == i) <;> cases domB nf next i (List.getD (next.getD k.toNat []) t.toNat 0) <;> rfl

theorem edges_l2 (hW : WayOK next) (hn : 12 ≤ nf) {l : List Int} (hl : RulesOK nf next l) (rr : List Int × Unit) {base : List Int} (hb : base.length = next.length) {i : Int} (hi : 0 ≤ i ∧ i < next.length) (h0 : base.getD i.toNat 0 = 0) (g : List Int → List Int → Int → Option (List Int × Unit)) :
    rule_Edges_l2 nf next i rr g nf l base 0 = g l (base.set i.toNat (edgeW nf next i)) (i + 1) := by
  have h8 := hW.few
  have hm : next.length ≤ maxLen := Nat.le_trans h8 (by decide)
  have e0 : base.set i.toNat 0 = base := by
    rw [← h0, List.getD_eq_getElem?_getD, List.getElem?_eq_getElem (by omega)]
    exact List.set_getElem_self _
  have key := loop_inv (n := next.length) (F := fun fu t (q : Int) => rule_Edges_l2 nf next i rr g fu l (base.set i.toNat q) t)
    (fun t q => q = edgeGo nf next i t.toNat) ?_ nf 0 0 (Int.le_refl _) (by omega) (by omega) rfl
  · obtain ⟨fu', q, h1, h5⟩ := key
    subst h1
    rw [e0] at h5
    rw [h5, rule_Edges_l2, rule_Edges_b2, wrap_step hi.1 hi.2 hm]
    simp only [Int.lt_irrefl, decide_false, cond_false, edgeW, Int.toNat_natCast]
  · rintro fu t q ht0 ht1 rfl
    refine ⟨_, ?_, rfl⟩
    have hs := tab_bit hW hl hi ⟨ht0, ht1⟩
    unfold and32 at hs
    rw [show (t + 1).toNat = t.toNat + 1 by omega, edgeGo, edgeRow, show ((t.toNat : Nat) : Int) = t by omega]
    rw [rule_Edges_l2, rule_Edges_b2, hs, inb_ok (t := t) (n := l.length) ht0 (by rw [hl.1]; exact ht1)]
    simp only [ht1, hi.1, decide_true, cond_true, inb_ok ht0 ht1, wrap_step ht0 ht1 hm]
    cases domB nf next i t with
    | false => rfl
    | true => exact edges_l4 hW hn hl rr hb hi ⟨ht0, ht1⟩ _ (fun l'2 out2 t22 => rule_Edges_l2 nf next i rr g fu l'2 out2 t22) g

/-- what rule.Edges computes -/
def EdgesOK (nf : Nat) (next : List (List Int)) (o : List Int) : Prop := o.length = next.length ∧ ∀ i : Int, 0 ≤ i → i < next.length → o.getD i.toNat 0 = edgeW nf next i

theorem edges_F (hW : WayOK next) (hn : 100000000000 ≤ nf) : ∃ o, EdgesOK nf next o ∧ rule_Edges_f nf next = some (o, ()) := by
  have h12 : 12 ≤ nf := by omega
  have h8 := hW.few
  have hm : next.length ≤ maxLen := Nat.le_trans h8 (by decide)
  obtain ⟨l, hl, h2⟩ := rules_F hW hn
  simp only [rule_Edges_f, rule_Edges_p, h2, Option.bind_some, hl.1]
  have c : (decide (0 ≤ (List.length next : Int)) && decide ((List.length next : Int) ≤ (List.length next : Int)) && decide ((List.length next : Int) ≤ ((lim : Nat) : Int))) = true := by
    rw [decide_eq_true (show (0 : Int) ≤ (List.length next : Int) by omega), decide_eq_true (Int.le_refl _), decide_eq_true (show (List.length next : Int) ≤ ((lim : Nat) : Int) by show (List.length next : Int) ≤ ((4294967296 : Nat) : Int); omega)]; rfl
  rw [c, cond_true, Int.toNat_natCast]
  have key := loop_inv (n := next.length) (F := fun fu t (q : List Int) => rule_Edges_l0 nf next (l, ()) fu l q t)
    (fun t q => q.length = next.length ∧ (∀ i : Int, 0 ≤ i → i < t → q.getD i.toNat 0 = edgeW nf next i) ∧ ∀ i : Int, t ≤ i → q.getD i.toNat 0 = 0)
    ?_ nf 0 (List.replicate next.length 0) (Int.le_refl _) (by omega) (by omega) ⟨by simp, fun i a b => by omega, fun i a => by rw [List.getD_eq_getElem?_getD, List.getElem?_replicate]; split <;> rfl⟩
  · obtain ⟨fu', q, ⟨h3, h4, _⟩, h5⟩ := key
    refine ⟨q, ⟨h3, h4⟩, ?_⟩
    rw [h5, rule_Edges_l0, rule_Edges_b0]
    simp only [hl.1, Int.lt_irrefl, decide_false, cond_false]
  · rintro fu t q ht0 ht1 ⟨h3, h4, h5⟩
    refine ⟨q.set t.toNat (edgeW nf next t), ?_, by simp [h3], fun i a b => ?_, fun i a => ?_⟩
    · rw [rule_Edges_l0, rule_Edges_b0]
      simp only [hl.1, ht1, decide_true, cond_true]
      exact edges_l2 hW h12 hl (l, ()) h3 ⟨ht0, ht1⟩ (h5 t (Int.le_refl _)) (fun l' out t17 => rule_Edges_l0 nf next (l, ()) fu l' out t17)
    · rw [getD_upd (by omega)]
      by_cases hit : i = t
      · subst hit; rw [if_pos rfl]
      · rw [if_neg (by omega)]; exact h4 i a (by omega)
    · rw [getD_upd (by omega), if_neg (by omega)]
      exact h5 i (by omega)

theorem edge_F (h : wayCode next = 0) (hn : 100000000000 ≤ nf) : ∃ o, EdgesOK nf next o ∧ rule_Edge_f nf next = some (o, 0, ()) := by
  obtain ⟨o, h1, h2⟩ := edges_F (wayCode_ok h) hn
  refine ⟨o, h1, ?_⟩
  simp only [rule_Edge_f, rule_Edge_p, way_Check_F (show 9 ≤ nf by omega), h, Option.bind_some, h2]
  rfl
end Go.Proofs.Ytccbcbhiblohgaa
