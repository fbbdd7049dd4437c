/- hang.On tells which nodes hang on each one. -/
import Derived.Test.YtccbcbhiblohgaaHangLast
import Derived.Test.YtccbcbhiblohgaaAbLaw
namespace Go.Proofs.Ytccbcbhiblohgaa
open Go Go.Ab S

variable {next : List (List Int)} {nf : Nat}

/-- does k hang on i? -/
def hangsB (nf : Nat) (next : List (List Int)) (i k : Int) : Bool := (nexts next i).any fun j => sureB nf next j k && (decide (i = k) || !sureB nf next i k)

theorem hangs_F (hW : WayOK next) (hn : 12 ≤ nf) {i k : Int} (hi : 0 ≤ i ∧ i < next.length) : ref_Hangs_f nf next i k = some (hangsB nf next i k, ()) := by
  simp only [ref_Hangs_f, ref_Hangs_p, inb_ok hi.1 hi.2, cond_true]
  have hmem : nexts next i ∈ next := nexts_mem hi.1 hi.2
  have hthin := hW.thin _ hmem
  have hgood := hW.good _ hmem
  have hl : (nexts next i).length ≤ maxLen := Nat.le_trans hthin (by decide)
  have hdef : ∀ fu t, ref_Hangs_l0 nf next i k (fu + 1) t = ref_Hangs_b0 nf next i k (ref_Hangs_l0 nf next i k fu) t := fun _ _ => rfl
  unfold ref_Hangs_b0 at hdef
  unfold hangsB
  change ∀ fu t, ref_Hangs_l0 nf next i k (fu + 1) t = (bif decide (t < ((nexts next i).length : Int)) then bif inb t (nexts next i).length then Option.bind (ref_Sure_f nf next ((nexts next i).getD t.toNat 0) k) _ else none else some (false, ())) at hdef
  generalize nexts next i = L at hmem hthin hgood hl hdef
  have h := loop_all (l := L) (d := 0) (F := fun fu t (_ : Unit) => ref_Hangs_l0 nf next i k fu t) (fin := fun _ => some (false, ()))
    (step := fun j _ s c => bif decide (0 ≤ j) && decide (j < (next.length : Int)) then bif sureB nf next j k && (decide (i = k) || !sureB nf next i k) then some (true, ()) else c s else none) ?_ ?_ nf () (by omega)
  · rw [show ref_Hangs_l0 nf next i k nf 0 = _ from h]
    have key : ∀ (l : List Int) (t : Int), (∀ x ∈ l, 0 ≤ x ∧ x < (next.length : Int)) → goL (fun j _ (s : Unit) c => bif decide (0 ≤ j) && decide (j < (next.length : Int)) then bif sureB nf next j k && (decide (i = k) || !sureB nf next i k) then some (true, ()) else c s else none) (fun _ => some (false, ())) l t () = some (l.any fun j => sureB nf next j k && (decide (i = k) || !sureB nf next i k), ()) := by
      intro l
      induction l with
      | nil => intro t _; rfl
      | cons x r ih =>
        intro t hx
        have h3 := hx x (by simp)
        simp only [goL, List.any_cons, h3.1, h3.2, decide_true, Bool.and_self, cond_true, ih (t + 1) (fun y hy => hx y (by simp [hy]))]
        cases (sureB nf next x k && (decide (i = k) || !sureB nf next i k)) <;> rfl
    exact key L 0 hgood
  · intro fu t s a b
    have hx := hgood _ (getD_mem (l := L) (t := t) (d := 0) a b)
    rw [hdef]
    simp only [inb_ok a b, wrap_step a b hl, b, decide_true, cond_true, sure_F hW hn hx, sure_F hW hn hi, Option.bind_some, hx.1, hx.2, Bool.and_self]
    cases sureB nf next (L.getD t.toNat 0) k
    · rfl
    · by_cases hik : i = k
      · subst hik; simp
      · cases sureB nf next i k <;> simp [hik, beq_f hik]
  · intro fu t s a
    rw [hdef]
    simp [a]

theorem on_F (hW : WayOK next) (hn : 12 ≤ nf) {l : List Int} (hll : l.length = next.length) (hl : ∀ i : Int, 0 ≤ i → i < next.length → W32 (l.getD i.toNat 0) ∧ ∀ k : Nat, bt (l.getD i.toNat 0) k = (decide (k < next.length) && sureB nf next i k)) :
    ∃ o : List Int, o.length = next.length ∧ (∀ i : Int, 0 ≤ i → i < next.length → W32 (o.getD i.toNat 0) ∧ ∀ k : Nat, bt (o.getD i.toNat 0) k = (decide (k < next.length) && hangsB nf next i k)) ∧ hang_On_l0 nf next nf l (List.replicate next.length 0) 0 = some (o, 0, ()) := by
  have h8 := hW.few
  have hm : next.length ≤ maxLen := Nat.le_trans h8 (by decide)
  have key := loop_inv (n := next.length) (F := fun fu t (q : List Int × List Int) => hang_On_l0 nf next fu q.1 q.2 t)
    (fun t q => q.1 = l ∧ q.2.length = next.length ∧ (∀ i : Int, 0 ≤ i → i < t → W32 (q.2.getD i.toNat 0) ∧ ∀ k : Nat, bt (q.2.getD i.toNat 0) k = (decide (k < next.length) && hangsB nf next i k)) ∧ ∀ i : Int, t ≤ i → q.2.getD i.toNat 0 = 0)
    ?_ nf 0 (l, List.replicate next.length 0) (Int.le_refl _) (by omega) (by omega) ⟨rfl, by simp, fun i a b => by omega, fun i a => by rw [List.getD_eq_getElem?_getD, List.getElem?_replicate]; split <;> rfl⟩
  · obtain ⟨fu', q, ⟨h1, h2, h3, _⟩, h5⟩ := key
    refine ⟨q.2, h2, h3, ?_⟩
    rw [h5, hang_On_l0, hang_On_b0]; simp
  · rintro fu t ⟨a, q⟩ ht0 ht1 ⟨h1, h2, h3, h4⟩
    simp only at h1 h2 h3 h4 ⊢
    subst h1
    have hmem : nexts next t ∈ next := nexts_mem ht0 ht1
    have hthin := hW.thin _ hmem
    have hgood := hW.good _ hmem
    have hlt : t < 32 := by omega
    have hlen : (nexts next t).length ≤ maxLen := Nat.le_trans hthin (by decide)
    obtain ⟨wt, bt'⟩ := hl t ht0 ht1
    have key := loop_inv (n := (nexts next t).length) (F := fun fu2 j (p : List Int × List Int) => hang_On_l2 nf next t (fun l' out t23 => hang_On_l0 nf next fu l' out t23) fu2 p.1 p.2 j)
      (fun j p => p.1 = a ∧ p.2.length = next.length ∧ (∀ i : Int, 0 ≤ i → i ≠ t → p.2.getD i.toNat 0 = q.getD i.toNat 0) ∧ W32 (p.2.getD t.toNat 0) ∧ ∀ k : Nat, bt (p.2.getD t.toNat 0) k = (decide (k < next.length) && ((nexts next t).take j.toNat).any fun x => sureB nf next x k && (decide (t = k) || !sureB nf next t k)))
      ?_ nf 0 (a, q) (Int.le_refl _) (by omega) (by omega) ⟨rfl, h2, fun i _ _ => rfl, by rw [h4 t (Int.le_refl _)]; exact W32_zero, fun k => by rw [h4 t (Int.le_refl _), bt_zero]; simp⟩
    · obtain ⟨fu2, p, ⟨g1, g2, g3, g4, g6⟩, g5⟩ := key
      obtain ⟨p1, p2⟩ := p
      simp only at g1 g2 g3 g4 g5 g6
      subst g1
      refine ⟨(p1, p2), ?_, rfl, g2, fun i hi0 hi1 => ?_, fun i hi => ?_⟩
      · rw [hang_On_l0, hang_On_b0]
        simp only [ht1, decide_true, cond_true, inb_ok ht0 ht1]
        rw [g5, hang_On_l2, hang_On_b2, wrap_step ht0 ht1 hm]
        simp only [nexts, Int.lt_irrefl, decide_false, cond_false]
      · by_cases hit : i = t
        · subst hit
          refine ⟨g4, fun k => ?_⟩
          rw [g6, Int.toNat_natCast, List.take_length]
          rfl
        · rw [g3 i hi0 hit]
          exact h3 i hi0 (by omega)
      · rw [g3 i (by omega) (by omega)]
        exact h4 i (by omega)
    · rintro fu2 j ⟨p1, p2⟩ hj0 hj1 ⟨g1, g2, g3, g4, g6⟩
      simp only at g1 g2 g3 g4 g6 ⊢
      subst g1
      have hx := hgood _ (getD_mem (l := nexts next t) (t := j) (d := 0) hj0 hj1)
      obtain ⟨wx, bx⟩ := hl _ hx.1 hx.2
      generalize hxd : (nexts next t).getD j.toNat 0 = x at hx wx bx
      refine ⟨(p1, p2.set t.toNat (or32 (p2.getD t.toNat 0) (not32 (p1.getD x.toNat 0) (not32 (p1.getD t.toNat 0) (shlI .u32 1 t))))), ?_, rfl, by simp [g2], fun i hi0 hit => ?_, ?_⟩
      · rw [hang_On_l2, hang_On_b2]
        have e : List.getD (next.getD t.toNat []) j.toNat 0 = x := hxd
        have hj1' : j < ((next.getD t.toNat []).length : Int) := hj1
        rw [e, inb_ok hj0 hj1', inb_ok (t := t) (n := p2.length) ht0 (by omega), inb_ok (t := x) (n := p1.length) hx.1 (by omega), inb_ok (t := t) (n := p1.length) ht0 (by omega), wrap_step (n := (next.getD t.toNat []).length) hj0 hj1' hlen]
        simp only [hj1', ht0, decide_true, cond_true]
        rfl
      · have e2 : ∀ y : Int, (p2.set t.toNat y).getD i.toNat 0 = p2.getD i.toNat 0 := fun y => by
          simp only [List.getD_eq_getElem?_getD]
          rw [List.getElem?_set_ne (by omega)]
        rw [e2]
        exact g3 i hi0 hit
      · have e2 : ∀ y : Int, (p2.set t.toNat y).getD t.toNat 0 = y := fun y => by
          simp only [List.getD_eq_getElem?_getD]
          rw [List.getElem?_set_self (by omega)]
          rfl
        rw [e2]
        refine ⟨or32_w _ _, fun k => ?_⟩
        rw [or32_bt g4 (not32_w _ _), not32_bt wx (not32_w _ _), not32_bt wt (one_w ht0 hlt), one_bt ht0 hlt, g6, bx, bt']
        have e3 : (nexts next t).take (j + 1).toNat = (nexts next t).take j.toNat ++ [x] := by
          rw [show (j + 1).toNat = j.toNat + 1 by omega, List.take_succ_eq_append_getElem (by omega)]
          rw [← hxd, getD_nat _ _ _ hj0 hj1]
        rw [e3, List.any_append]
        simp only [List.any_cons, List.any_nil, Bool.or_false]
        by_cases hk : k < next.length
        · rw [decide_eq_true hk]
          have : decide (k = t.toNat) = decide (t = (k : Int)) := by simp only [decide_eq_decide]; omega
          rw [this]
          cases sureB nf next x k <;> cases sureB nf next t k <;> cases decide (t = (k : Int)) <;> simp
        · rw [decide_eq_false hk]
          simp

theorem hangTells_l2 (hW : WayOK next) (hn : 12 ≤ nf) {l : List Int} (hl : l.length = next.length) {i : Int} (hi : 0 ≤ i ∧ i < next.length) (hw : W32 (l.getD i.toNat 0)) (hb : ∀ k : Nat, bt (l.getD i.toNat 0) k = (decide (k < next.length) && hangsB nf next i k)) (g : List Int → Int → Option (Bool × Unit)) :
    law_HangTells_l2 nf next (l, 0, ()) i g nf l 0 = g l (i + 1) := by
  have h8 := hW.few
  obtain ⟨fu', s', h1, h5⟩ := loop_inv (n := next.length) (F := fun fu t (q : List Int) => law_HangTells_l2 nf next (l, 0, ()) i g fu q t) (fun _ q => q = l) (fun fu t q ht0 ht1 hq => by
    subst hq
    refine ⟨q, ?_, rfl⟩
    rw [law_HangTells_l2, law_HangTells_b2]
    simp only [ht1, decide_true, cond_true]
    rw [inb_ok hi.1 (by omega), bit_F nf hw ht0, wrap_step ht0 ht1 (Nat.le_trans h8 (by decide)), hb, hangs_F hW hn hi]
    simp only [Option.bind_some, show decide (t.toNat < next.length) = true from decide_eq_true (by omega), Bool.true_and, show ((t.toNat : Nat) : Int) = t by omega]
    cases hangsB nf next i t <;> rfl) nf 0 l (Int.le_refl _) (by omega) (by omega) rfl
  subst h1
  rw [h5, law_HangTells_l2, law_HangTells_b2]
  simp only [Int.lt_irrefl, decide_false, cond_false]
  rw [inb_ok hi.1 (by omega), fits_F nf (by omega) (by omega), wrap_step hi.1 hi.2 (Nat.le_trans h8 (by decide))]
  have : s'.getD i.toNat 0 < ((2 ^ ((next.length : Int).toNat) : Nat) : Int) := hw.small fun k hk => by
    rw [hb]
    have : ¬ k < next.length := by omega
    simp [this]
  simp only [this, decide_true, Option.bind_some, Bool.not_true, cond_false, cond_true]

theorem hangTells_law (x : denPs (lawPs [.sl (.sl (.int .i64))])) (_ : wfPs [.sl (.sl (.int .i64))] x) : ∃ n, law_HangTells_F n x = some (true, ()) := by
  obtain ⟨next, _⟩ := x
  refine ⟨12, ?_⟩
  simp only [law_HangTells_F, law_HangTells_f, law_HangTells_p, hang_On_f, hang_On_p]
  rw [way_Check_F (by decide), ref_WayCheck_F (by decide)]
  simp only [Option.bind_some]
  by_cases h : wayCode next = 0
  · have hW := wayCode_ok h
    have hp := hW.pos
    have h8 := hW.few
    obtain ⟨l0, k1, k2, k3⟩ := last_F (nf := 12) hW (by decide)
    obtain ⟨l, h1, h2, h3⟩ := on_F (nf := 12) hW (by decide) k1 k2
    have c : (decide (0 ≤ (List.length next : Int)) && decide ((List.length next : Int) ≤ (List.length next : Int)) && decide ((List.length next : Int) ≤ ((lim : Nat) : Int))) = true := by
      rw [decide_eq_true (show (0 : Int) ≤ (List.length next : Int) by omega), decide_eq_true (Int.le_refl _), decide_eq_true (show (List.length next : Int) ≤ ((lim : Nat) : Int) by show (List.length next : Int) ≤ ((4294967296 : Nat) : Int); omega)]; rfl
    rw [h]
    simp only [show ((0 : Int) != 0) = false from rfl, cond_false]
    rw [k3]
    simp only [Option.bind_some, c, cond_true, Int.toNat_natCast]
    rw [h3]
    simp only [Option.bind_some]
    obtain ⟨fu', s', g1, g5⟩ := loop_inv (n := List.length next) (F := fun fu t (q : List Int) => law_HangTells_l0 12 next (l, 0, ()) fu q t) (fun _ q => q = l) (fun fu t q ht0 ht1 hq => by
      subst hq
      refine ⟨q, ?_, rfl⟩
      obtain ⟨w1, w2⟩ := h2 t ht0 ht1
      have := hangTells_l2 (nf := 12) hW (by decide) h1 ⟨ht0, ht1⟩ w1 w2 (fun l' i => law_HangTells_l0 12 next (q, 0, ()) fu l' i)
      rw [law_HangTells_l0, law_HangTells_b0]
      simp only [h1, ht1, decide_true, cond_true]
      exact this) 12 0 l (Int.le_refl _) (by omega) (by omega) rfl
    subst g1
    rw [g5, law_HangTells_l0, law_HangTells_b0]
    simp [h1]
  · simp [bne_t h]
end Go.Proofs.Ytccbcbhiblohgaa
