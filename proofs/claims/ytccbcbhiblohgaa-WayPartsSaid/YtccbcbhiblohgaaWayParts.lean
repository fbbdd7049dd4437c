/- way.Parts tells of each node to which one comes, and from which. -/
import Derived.Test.YtccbcbhiblohgaaPath
import Derived.Test.YtccbcbhiblohgaaBits
import Derived.Test.YtccbcbhiblohgaaAbLaw
namespace Go.Proofs.Ytccbcbhiblohgaa
open Go Go.Ab S

variable {next : List (List Int)} {nf : Nat}

/-- there and back -/
def both (nf : Nat) (next : List (List Int)) (i : Int) (k : Nat) : Bool := decide ((k : Int) ∈ reach nf next i (-1)) && decide (i ∈ reach nf next k (-1))

theorem reach_wd (hW : WayOK next) {i wo : Int} (hi : 0 ≤ i ∧ i < next.length) (k : Nat) : W32 (wd (reach nf next i wo)) ∧ bt (wd (reach nf next i wo)) k = decide ((k : Int) ∈ reach nf next i wo) := by
  have hN := reach_nodes (nf := nf) (wo := wo) hW hi
  have h8 := hW.few
  have : ∀ x ∈ reach nf next i wo, 0 ≤ x ∧ x < 32 := fun x hx => by have := hN.good x hx; omega
  exact ⟨wd_w this, wd_bt this k⟩

/-- the words of all nodes -/
def Froms (nf : Nat) (next : List (List Int)) (fr : List Int) : Prop := fr.length = next.length ∧ ∀ i : Int, 0 ≤ i → i < next.length → fr.getD i.toNat 0 = wd (reach nf next i (-1))

theorem parts_l4 (hW : WayOK next) (hn : 12 ≤ nf) {fr : List Int} (hf : Froms nf next fr) {i : Int} (hi : 0 ≤ i ∧ i < next.length) (l : List Int) (hl : l.length ≤ 8) (g : List Int → List Int → Int → Option (List Int × Int × Unit)) :
    ∃ w, W32 w ∧ (∀ k : Nat, bt w k = (decide (k < next.length) && both nf next i k)) ∧ way_Parts_l4 nf next i g nf fr l 0 0 = g fr (l ++ [w]) (i + 1) := by
  have h8 := hW.few
  have key := loop_inv (n := next.length) (F := fun fu t (q : List Int × List Int × Int) => way_Parts_l4 nf next i g fu q.1 q.2.1 q.2.2 t)
    (fun t q => q.1 = fr ∧ q.2.1 = l ∧ W32 q.2.2 ∧ ∀ k : Nat, bt q.2.2 k = (decide ((k : Int) < t) && both nf next i k)) ?_ nf 0 (fr, l, 0) (Int.le_refl _) (by omega) (by omega) ⟨rfl, rfl, W32_zero, fun k => by simp [bt_zero]; omega⟩
  · obtain ⟨fu', s', ⟨h1, h2, h3, h4⟩, h5⟩ := key
    obtain ⟨a, b, c⟩ := s'
    simp only at h1 h2 h3 h4 h5
    subst h1 h2
    refine ⟨c, h3, fun k => ?_, ?_⟩
    · rw [h4]
      congr 1
      simp only [decide_eq_decide]; omega
    · rw [h5, way_Parts_l4, way_Parts_b4]
      rw [wrap_step hi.1 hi.2 (Nat.le_trans h8 (by decide))]
      have hb := ble_ok (n := b.length + 1) (by omega)
      simp [bimp, hb]
  · rintro fu t ⟨a, b, c⟩ ht0 ht1 ⟨h1, h2, h3, h4⟩
    simp only at h1 h2 h3 h4 ⊢
    subst h1 h2
    obtain ⟨hlen, hf⟩ := hf
    obtain ⟨w1, b1⟩ := reach_wd (nf := nf) (wo := -1) hW hi t.toNat
    obtain ⟨w2, b2⟩ := reach_wd (nf := nf) (wo := -1) hW ⟨ht0, ht1⟩ i.toNat
    refine ⟨(a, b, or32 c (shlI .u32 (and32 (and32 (shrI .u32 (wd (reach nf next i (-1))) t) (shrI .u32 (wd (reach nf next t (-1))) i)) 1) t)), ?_, rfl, rfl, or32_w _ _, fun k => ?_⟩
    · rw [way_Parts_l4, way_Parts_b4]
      rw [inb_ok hi.1 (by omega), inb_ok ht0 (by omega), hf i hi.1 hi.2, hf t ht0 ht1, wrap_step ht0 ht1 (Nat.le_trans h8 (by decide))]
      simp only [ht1, ht0, hi.1, decide_true, cond_true]
      rfl
    · have c1 : ((t.toNat : Nat) : Int) = t := by omega
      have c2 : ((i.toNat : Nat) : Int) = i := by omega
      have hbo : both nf next i t.toNat = (decide (t ∈ reach nf next i (-1)) && decide (i ∈ reach nf next t (-1))) := by
        simp only [both, c1]
      simp only [c1] at b1
      simp only [c2] at b2
      have hlt : t < 32 := by omega
      have e : and32 (and32 (shrI .u32 (wd (reach nf next i (-1))) t) (shrI .u32 (wd (reach nf next t (-1))) i)) 1 = bif both nf next i t.toNat then 1 else 0 := by
        refine bt_ext (and32_w _ _) (by cases both nf next i t.toNat; exact W32_zero; exact W32_one) fun m _ => ?_
        rw [and32_bt (and32_w _ _) W32_one, and32_bt (shr_w w1 ht0 hlt) (shr_w w2 hi.1 (by omega)), shr_bt w1 ht0 hlt, shr_bt w2 hi.1 (by omega), bt_one]
        by_cases hm : m = 0
        · subst hm
          rw [Nat.add_zero, Nat.add_zero, b1, b2, ← hbo]
          cases both nf next i t.toNat <;> simp [bt_one, bt_zero]
        · rw [decide_eq_false hm, Bool.and_false]
          cases both nf next i t.toNat
          · exact (bt_zero m).symm
          · exact ((bt_one m).trans (decide_eq_false hm)).symm
      rw [e]
      cases hb : both nf next i t.toNat
      · rw [cond_false, shl_zero, or32_bt h3 W32_zero, h4, bt_zero, Bool.or_false]
        by_cases hk : k = t.toNat
        · subst hk
          simp [hb]
        · have : ((k : Int) < t + 1) ↔ (k : Int) < t := by omega
          simp [this]
      · rw [cond_true, or32_bt h3 (one_w ht0 hlt), h4, one_bt ht0 hlt]
        by_cases hk : k = t.toNat
        · subst hk
          rw [hb, decide_eq_true (show ((t.toNat : Nat) : Int) < t + 1 by omega)]
          simp
        · have : ((k : Int) < t + 1) ↔ (k : Int) < t := by omega
          simp [hk, this]

theorem parts_F (hW : WayOK next) (hn : 12 ≤ nf) : ∃ l : List Int, l.length = next.length ∧ (∀ i : Int, 0 ≤ i → i < next.length → W32 (l.getD i.toNat 0) ∧ ∀ k : Nat, bt (l.getD i.toNat 0) k = (decide (k < next.length) && both nf next i k)) ∧ way_Parts_l0 nf next nf [] [] 0 = some (l, 0, ()) := by
  have h8 := hW.few
  have key := loop_inv (n := next.length) (F := fun fu t (q : List Int × List Int) => way_Parts_l0 nf next fu q.1 q.2 t)
    (fun t q => (q.1.length : Int) = t ∧ q.2 = [] ∧ ∀ i : Int, 0 ≤ i → i < t → q.1.getD i.toNat 0 = wd (reach nf next i (-1))) ?_ nf 0 ([], []) (Int.le_refl _) (by omega) (by omega) ⟨rfl, rfl, fun i a b => by omega⟩
  · obtain ⟨fu', s', ⟨h1, h2, h3⟩, h5⟩ := key
    obtain ⟨fr, l⟩ := s'
    simp only at h1 h2 h3 h5
    subst h2
    have hf : Froms nf next fr := ⟨by omega, h3⟩
    have key := loop_inv (n := next.length) (F := fun fu t (q : List Int × List Int) => way_Parts_l2 nf next fu q.1 q.2 t)
      (fun t q => q.1 = fr ∧ (q.2.length : Int) = t ∧ ∀ i : Int, 0 ≤ i → i < t → W32 (q.2.getD i.toNat 0) ∧ ∀ k : Nat, bt (q.2.getD i.toNat 0) k = (decide (k < next.length) && both nf next i k)) ?_ nf 0 (fr, []) (Int.le_refl _) (by omega) (by omega) ⟨rfl, rfl, fun i a b => by omega⟩
    · obtain ⟨fu2, s2, ⟨g1, g2, g3⟩, g5⟩ := key
      obtain ⟨a, b⟩ := s2
      simp only at g1 g2 g3 g5
      refine ⟨b, by omega, g3, ?_⟩
      rw [h5, way_Parts_l0, way_Parts_b0]
      simp only [Int.lt_irrefl, decide_false, cond_false]
      rw [g5, way_Parts_l2, way_Parts_b2]
      simp
    · rintro fu t ⟨a, b⟩ ht0 ht1 ⟨c1, c2, c3⟩
      simp only at c1 c2 c3 ⊢
      subst c1
      obtain ⟨w, w1, w2, w3⟩ := parts_l4 hW hn hf (i := t) ⟨ht0, ht1⟩ b (by omega) (fun from'2 l'2 t30 => way_Parts_l2 nf next fu from'2 l'2 t30)
      refine ⟨(a, b ++ [w]), ?_, rfl, by simp; omega, fun i hi0 hi1 => ?_⟩
      · rw [way_Parts_l2, way_Parts_b2]
        simp only [ht1, decide_true, cond_true]
        exact w3
      · by_cases hit : i < t
        · have e : (b ++ [w]).getD i.toNat 0 = b.getD i.toNat 0 := by
            simp only [List.getD_eq_getElem?_getD]
            rw [List.getElem?_append_left (by omega)]
          simp only [e]
          exact c3 i hi0 hit
        · have hi : i = t := by omega
          subst hi
          have e : (b ++ [w]).getD i.toNat 0 = w := by
            simp only [List.getD_eq_getElem?_getD]
            rw [List.getElem?_append_right (by omega)]
            simp [show i.toNat - b.length = 0 by omega]
          simp only [e]
          exact ⟨w1, w2⟩
  · rintro fu t ⟨a, b⟩ ht0 ht1 ⟨c1, c2, c3⟩
    simp only at c1 c2 c3 ⊢
    subst c2
    refine ⟨(a ++ [wd (reach nf next t (-1))], []), ?_, by simp; omega, rfl, fun i hi0 hi1 => ?_⟩
    · rw [way_Parts_l0, way_Parts_b0]
      simp only [ht1, decide_true, cond_true]
      rw [from_F hW hn ⟨ht0, ht1⟩, wrap_step ht0 ht1 (Nat.le_trans h8 (by decide))]
      have hb := ble_ok (n := a.length + 1) (by omega)
      simp [bimp, hb]
    · by_cases hit : i < t
      · have e : (a ++ [wd (reach nf next t (-1))]).getD i.toNat 0 = a.getD i.toNat 0 := by
          simp only [List.getD_eq_getElem?_getD]
          rw [List.getElem?_append_left (by omega)]
        simp only [e]
        exact c3 i hi0 hit
      · have hi : i = t := by omega
        subst hi
        simp only [List.getD_eq_getElem?_getD]
        rw [List.getElem?_append_right (by omega)]
        simp [show i.toNat - a.length = 0 by omega]

theorem law_l2 (hW : WayOK next) (hn : 12 ≤ nf) {l : List Int} (hl : l.length = next.length) {i : Int} (hi : 0 ≤ i ∧ i < next.length) (hw : W32 (l.getD i.toNat 0)) (hb : ∀ k : Nat, bt (l.getD i.toNat 0) k = (decide (k < next.length) && both nf next i k)) (g : List Int → Int → Option (Bool × Unit)) :
    law_WayParts_l2 nf next (l, 0, ()) i g nf l 0 = g l (i + 1) := by
  have h8 := hW.few
  have key := loop_inv (n := next.length) (F := fun fu t (q : List Int) => law_WayParts_l2 nf next (l, 0, ()) i g fu q t) (fun _ q => q = l) ?_ nf 0 l (Int.le_refl _) (by omega) (by omega) rfl
  · obtain ⟨fu', s', h1, h5⟩ := key
    subst h1
    rw [h5, law_WayParts_l2, law_WayParts_b2]
    simp only [Int.lt_irrefl, decide_false, cond_false]
    rw [inb_ok hi.1 (by omega), fits_F nf (by omega) (by omega), wrap_step hi.1 hi.2 (Nat.le_trans h8 (by decide))]
    have : s'.getD i.toNat 0 < ((2 ^ ((next.length : Int).toNat) : Nat) : Int) := hw.small fun k hk => by
      rw [hb]
      have : ¬ k < next.length := by omega
      simp [this]
    simp only [this, decide_true, Option.bind_some, Bool.not_true, cond_false, cond_true]
  · rintro fu t q ht0 ht1 rfl
    refine ⟨q, ?_, rfl⟩
    rw [law_WayParts_l2, law_WayParts_b2]
    simp only [ht1, decide_true, cond_true]
    have n1 := reach_nodes (nf := nf) (wo := -1) hW hi
    have n2 := reach_nodes (nf := nf) (wo := -1) hW ⟨ht0, ht1⟩
    have l1 := n1.len
    have l2 := n2.len
    rw [reach_F hW hn hi, reach_F hW hn ⟨ht0, ht1⟩]
    simp only [Option.bind_some]
    rw [has_F _ t (Nat.le_trans l1 (Nat.le_trans h8 (by decide))) (by omega), has_F _ i (Nat.le_trans l2 (Nat.le_trans h8 (by decide))) (by omega), inb_ok hi.1 (by omega), bit_F nf hw ht0, wrap_step ht0 ht1 (Nat.le_trans h8 (by decide)), hb]
    simp only [Option.bind_some, both, show decide (t.toNat < next.length) = true from decide_eq_true (by omega), Bool.true_and, show ((t.toNat : Nat) : Int) = t by omega]
    cases decide (t ∈ reach nf next i (-1)) <;> cases decide (i ∈ reach nf next t (-1)) <;> rfl

theorem wayParts_law (x : denPs (lawPs [.sl (.sl (.int .i64))])) (_ : wfPs [.sl (.sl (.int .i64))] x) : ∃ n, law_WayParts_F n x = some (true, ()) := by
  obtain ⟨next, _⟩ := x
  refine ⟨12, ?_⟩
  simp only [law_WayParts_F, law_WayParts_f, law_WayParts_p, way_Parts_f, way_Parts_p]
  rw [way_Check_F (by decide), ref_WayCheck_F (by decide)]
  simp only [Option.bind_some]
  by_cases h : wayCode next = 0
  · have hW := wayCode_ok h
    have hp := hW.pos
    have h8 := hW.few
    obtain ⟨l, h1, h2, h3⟩ := parts_F (nf := 12) hW (by decide)
    rw [h]
    simp only [show ((0 : Int) != 0) = false from rfl, cond_false]
    rw [h3]
    simp only [Option.bind_some]
    obtain ⟨fu', s', g1, g5⟩ := loop_inv (n := List.length next) (F := fun fu t (q : List Int) => law_WayParts_l0 12 next (l, 0, ()) fu q t) (fun _ q => q = l) (fun fu t q ht0 ht1 hq => by
      subst hq
      refine ⟨q, ?_, rfl⟩
      obtain ⟨w1, w2⟩ := h2 t ht0 ht1
      have := law_l2 (nf := 12) hW (by decide) h1 ⟨ht0, ht1⟩ w1 w2 (fun l' i => law_WayParts_l0 12 next (q, 0, ()) fu l' i)
      rw [law_WayParts_l0, law_WayParts_b0]
      simp only [h1, ht1, decide_true, cond_true]
      exact this) 12 0 l (Int.le_refl _) (by omega) (by omega) rfl
    subst g1
    rw [g5, law_WayParts_l0, law_WayParts_b0]
    simp [h1]
  · simp [bne_t h]
end Go.Proofs.Ytccbcbhiblohgaa
