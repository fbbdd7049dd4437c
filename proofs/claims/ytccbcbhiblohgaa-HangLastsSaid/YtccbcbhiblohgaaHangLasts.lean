/- hang.Last tells of which nodes each one is sure. -/
import Derived.Test.YtccbcbhiblohgaaHangLast
import Derived.Test.YtccbcbhiblohgaaAbLaw
namespace Go.Proofs.Ytccbcbhiblohgaa
open Go Go.Ab S

theorem hangLasts_l2 {next : List (List Int)} {nf : Nat} (hW : WayOK next) (hn : 12 ≤ nf) {l : List Int} (hl : l.length = next.length) {i : Int} (hi : 0 ≤ i ∧ i < next.length) (hw : W32 (l.getD i.toNat 0)) (hb : ∀ k : Nat, bt (l.getD i.toNat 0) k = (decide (k < next.length) && sureB nf next i k)) (g : List Int → Int → Option (Bool × Unit)) :
    law_HangLasts_l2 nf next (l, 0, ()) i g nf l 0 = g l (i + 1) := by
  have h8 := hW.few
  obtain ⟨fu', s', h1, h5⟩ := loop_inv (n := next.length) (F := fun fu t (q : List Int) => law_HangLasts_l2 nf next (l, 0, ()) i g fu q t) (fun _ q => q = l) (fun fu t q ht0 ht1 hq => by
    subst hq
    refine ⟨q, ?_, rfl⟩
    rw [law_HangLasts_l2, law_HangLasts_b2]
    simp only [ht1, decide_true, cond_true]
    rw [inb_ok hi.1 (by omega), bit_F nf hw ht0, wrap_step ht0 ht1 (Nat.le_trans h8 (by decide)), hb, sure_F hW hn hi]
    simp only [Option.bind_some, show decide (t.toNat < next.length) = true from decide_eq_true (by omega), Bool.true_and, show ((t.toNat : Nat) : Int) = t by omega]
    cases sureB nf next i t <;> rfl) nf 0 l (Int.le_refl _) (by omega) (by omega) rfl
  subst h1
  rw [h5, law_HangLasts_l2, law_HangLasts_b2]
  simp only [Int.lt_irrefl, decide_false, cond_false]
  rw [inb_ok hi.1 (by omega), fits_F nf (by omega) (by omega), wrap_step hi.1 hi.2 (Nat.le_trans h8 (by decide))]
  have : s'.getD i.toNat 0 < ((2 ^ ((next.length : Int).toNat) : Nat) : Int) := hw.small fun k hk => by
    rw [hb]
    have : ¬ k < next.length := by omega
    simp [this]
  simp only [this, decide_true, Option.bind_some, Bool.not_true, cond_false, cond_true]

theorem hangLasts_law (x : denPs (lawPs [.sl (.sl (.int .i64))])) (_ : wfPs [.sl (.sl (.int .i64))] x) : ∃ n, law_HangLasts_F n x = some (true, ()) := by
  obtain ⟨next, _⟩ := x
  refine ⟨12, ?_⟩
  simp only [law_HangLasts_F, law_HangLasts_f, law_HangLasts_p, hang_Last_f, hang_Last_p]
  rw [way_Check_F (by decide), ref_WayCheck_F (by decide)]
  simp only [Option.bind_some]
  by_cases h : wayCode next = 0
  · have hW := wayCode_ok h
    have hp := hW.pos
    have h8 := hW.few
    obtain ⟨l, h1, h2, h3⟩ := last_F (nf := 12) hW (by decide)
    rw [h]
    simp only [show ((0 : Int) != 0) = false from rfl, cond_false]
    rw [h3]
    simp only [Option.bind_some]
    obtain ⟨fu', s', g1, g5⟩ := loop_inv (n := List.length next) (F := fun fu t (q : List Int) => law_HangLasts_l0 12 next (l, 0, ()) fu q t) (fun _ q => q = l) (fun fu t q ht0 ht1 hq => by
      subst hq
      refine ⟨q, ?_, rfl⟩
      obtain ⟨w1, w2⟩ := h2 t ht0 ht1
      have := hangLasts_l2 (nf := 12) hW (by decide) h1 ⟨ht0, ht1⟩ w1 w2 (fun l' i => law_HangLasts_l0 12 next (q, 0, ()) fu l' i)
      rw [law_HangLasts_l0, law_HangLasts_b0]
      simp only [h1, ht1, decide_true, cond_true]
      exact this) 12 0 l (Int.le_refl _) (by omega) (by omega) rfl
    subst g1
    rw [g5, law_HangLasts_l0, law_HangLasts_b0]
    simp [h1]
  · simp [bne_t h]
end Go.Proofs.Ytccbcbhiblohgaa
