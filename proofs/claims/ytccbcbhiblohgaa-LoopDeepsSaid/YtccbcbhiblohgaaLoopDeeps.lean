/- loop.Deep tells in how many loops each node is. -/
import Derived.Test.YtccbcbhiblohgaaLoopRef
import Derived.Test.YtccbcbhiblohgaaAbLaw
namespace Go.Proofs.Ytccbcbhiblohgaa
open Go Go.Ab S

variable {next : List (List Int)}

/-- in how many of the first loops -/
def deepN (l : List Int) (i t : Nat) : Nat := cnt (fun h => bt (l.getD h 0) i) t
theorem deepN_le (l : List Int) (i t : Nat) : deepN l i t ≤ t := cnt_n _ _
def DeepOK (l : List Int) (t : Nat) (u : Int) (o : List Int) : Prop := o.length = l.length ∧ ∀ i : Nat, i < l.length → o.getD i 0 = ((if (i : Int) < u then deepN l i (t + 1) else deepN l i t : Nat) : Int)
abbrev BIG : Nat := 100000000000

theorem deep_l2 {l : List Int} (h8 : l.length ≤ 8) (hl : ∀ h : Int, 0 ≤ h → h < l.length → W32 (l.getD h.toNat 0)) {t : Int} (h0 : 0 ≤ t) (h1 : t < l.length) (rr : List Int × Int × Unit) {o : List Int} (ho : DeepOK l t.toNat 0 o) (g : List Int → List Int → Int → Option (List Int × Int × Unit)) :
    ∃ o', DeepOK l (t + 1).toNat 0 o' ∧ loop_Deep_l2 BIG l t rr o g BIG l o 0 = g l o' (t + 1) := by
  have hm : o.length ≤ maxLen := by rw [ho.1]; exact Nat.le_trans h8 (by decide)
  have key := loop_inv (n := o.length) (F := fun fu u (o' : List Int) => loop_Deep_l2 BIG l t rr o g fu l o' u) (fun u o' => DeepOK l t.toNat u o') ?_ BIG 0 o (Int.le_refl _) (by omega) (by rw [ho.1]; simp only [BIG]; omega) ho
  · obtain ⟨fu, o', ho', h⟩ := key
    refine ⟨o', ⟨ho'.1, fun i hi => ?_⟩, h.trans ?_⟩
    · rw [ho'.2 i hi, if_pos (by rw [ho.1]; omega), if_neg (by omega), show (t + 1).toNat = t.toNat + 1 by omega]
    · simp only [loop_Deep_l2]
      unfold loop_Deep_b2
      simp [wrap_step h0 h1 (Nat.le_trans h8 (by decide))]
  · intro fu u o' a b ho'
    have hb : u < (l.length : Int) := by rw [← ho.1]; exact b
    have hb2 : u < (o'.length : Int) := by rw [ho'.1]; exact hb
    have hshr := shr_and (hl t h0 h1) a (show u < 32 by omega)
    simp only [and32] at hshr
    have hd1 := deepN_le l u.toNat t.toNat
    have hd := ho'.2 u.toNat (by omega)
    rw [if_neg (by omega)] at hd
    refine ⟨o'.set u.toNat ((deepN l u.toNat (t.toNat + 1) : Nat) : Int), ?_, by simpa using ho'.1, fun i hi => ?_⟩
    · simp only [loop_Deep_l2]
      unfold loop_Deep_b2
      simp only [b, decide_true, cond_true, inb_ok a hb2, a, hshr, hd, wrap_step a b hm]
      have e : IntKind.i64.wrap (((deepN l u.toNat t.toNat : Nat) : Int) + IntKind.i64.wrap (if bt (l.getD t.toNat 0) u.toNat = true then 1 else 0)) = ((deepN l u.toNat (t.toNat + 1) : Nat) : Int) := by
        have e1 : IntKind.i64.wrap (if bt (l.getD t.toNat 0) u.toNat = true then 1 else 0) = if bt (l.getD t.toNat 0) u.toNat = true then 1 else 0 := Go.IntWalk.i64_in _ (by split <;> omega)
        rw [e1, Go.IntWalk.i64_in _ (by split <;> omega)]
        simp only [deepN, cnt]
        split <;> omega
      rw [e]
    · rw [getD_upd (by omega)]
      by_cases hiu : i = u.toNat
      · subst hiu
        rw [if_pos rfl, if_pos (by omega)]
      · rw [if_neg hiu, ho'.2 i hi]
        by_cases hlt : (i : Int) < u
        · rw [if_pos hlt, if_pos (by omega)]
        · rw [if_neg hlt, if_neg (by omega)]

theorem deep_F (h : wayCode next = 0) {l : List Int} (hl : OutOK BIG next (backs next) l) (hl2 : loop_Loops_f BIG next = some (l, 0, ())) : ∃ o, DeepOK l l.length 0 o ∧ loop_Deep_f BIG next = some (o, 0, ()) := by
  have hW := wayCode_ok h
  have h8 : l.length ≤ 8 := by rw [hl.1]; exact hW.few
  have hm : l.length ≤ maxLen := Nat.le_trans h8 (by decide)
  have hw : ∀ h : Int, 0 ≤ h → h < l.length → W32 (l.getD h.toNat 0) := fun h a b => (hl.2 h a (by rw [← hl.1]; exact b)).1
  have c : (decide (0 ≤ (List.length l : Int)) && decide ((List.length l : Int) ≤ (List.length l : Int)) && decide ((List.length l : Int) ≤ ((lim : Nat) : Int))) = true := by
    rw [decide_eq_true (show (0 : Int) ≤ (List.length l : Int) by omega), decide_eq_true (Int.le_refl _), decide_eq_true (show (List.length l : Int) ≤ ((lim : Nat) : Int) by show (List.length l : Int) ≤ ((4294967296 : Nat) : Int); omega)]; rfl
  simp only [loop_Deep_f, loop_Deep_p, hl2, Option.bind_some, bne_self_eq_false, cond_false, c, cond_true, Int.toNat_natCast]
  have key := loop_inv (n := l.length) (F := fun fu t (o : List Int) => loop_Deep_l0 BIG (l, 0, ()) fu l o t) (fun t o => DeepOK l t.toNat 0 o) ?_ BIG 0 (List.replicate l.length 0) (Int.le_refl _) (by omega) (by simp only [BIG]; omega) ⟨by simp, fun i hi => by
    rw [if_neg (by omega), List.getD_eq_getElem?_getD, List.getElem?_replicate]
    simp [hi, deepN, cnt]⟩
  · obtain ⟨fu, o, ho, h⟩ := key
    refine ⟨o, by simpa using ho, h.trans ?_⟩
    simp only [loop_Deep_l0]
    unfold loop_Deep_b0
    simp
  · intro fu t o a b ho
    obtain ⟨o', h1, h2⟩ := deep_l2 h8 hw a b (l, 0, ()) ho (fun l' out t23 => loop_Deep_l0 BIG (l, 0, ()) fu l' out t23)
    refine ⟨o', ?_, h1⟩
    simp only [loop_Deep_l0]
    unfold loop_Deep_b0
    simp only [b, decide_true, cond_true, inb_ok a b]
    exact h2

theorem deeps_l2 (hW : WayOK next) {l : List Int} (hl : OutOK BIG next (backs next) l) {o : List Int} (ho : DeepOK l l.length 0 o) (rr : List Int × Int × Unit) {i : Int} (h0 : 0 ≤ i) (h1 : i < l.length) (g : List Int → Int → Option (Bool × Unit)) :
    law_LoopDeeps_l2 BIG next rr i g BIG o 0 0 = g o (i + 1) := by
  have h8 := hW.few
  have hm : next.length ≤ maxLen := Nat.le_trans h8 (by decide)
  have key := loop_inv (n := next.length) (F := fun fu t (k : Int) => law_LoopDeeps_l2 BIG next rr i g fu o k t) (fun t k => k = ((deepN l i.toNat t.toNat : Nat) : Int)) ?_ BIG 0 0 (Int.le_refl _) (by omega) (by simp only [BIG]; omega) rfl
  · obtain ⟨fu, k, rfl, h⟩ := key
    refine h.trans ?_
    have hd := ho.2 i.toNat (by omega)
    rw [if_neg (by omega), hl.1] at hd
    simp only [law_LoopDeeps_l2]
    unfold law_LoopDeeps_b2
    simp only [Int.lt_irrefl, decide_false, cond_false, Int.toNat_natCast, hd, bne_self_eq_false, inb_ok h0 (show i < (o.length : Int) by rw [ho.1]; exact h1), cond_true, wrap_step h0 h1 (by rw [hl.1]; exact hm)]
  · rintro fu t k a b rfl
    obtain ⟨hw, _⟩ := hl.2 t a b
    have hd := deepN_le l i.toNat t.toNat
    refine ⟨_, ?_, rfl⟩
    simp only [law_LoopDeeps_l2]
    unfold law_LoopDeeps_b2
    simp only [b, decide_true, cond_true, ref_loop_eq hW (show 100 ≤ BIG by simp only [BIG]; omega) hl a b, bit_F _ hw h0, Option.bind_some, wrap_step a b hm]
    rw [show (t + 1).toNat = t.toNat + 1 by omega]
    simp only [deepN, cnt]
    rw [show IntKind.i64.wrap (((cnt (fun h => bt (l.getD h 0) i.toNat) t.toNat : Nat) : Int) + 1) = ((cnt (fun h => bt (l.getD h 0) i.toNat) t.toNat : Nat) : Int) + 1 from Go.IntWalk.i64_in _ (by simp only [deepN] at hd; omega)]
    by_cases hbt : bt (l.getD t.toNat 0) i.toNat = true
    · rw [if_pos hbt, hbt]; rfl
    · rw [if_neg hbt, Bool.not_eq_true _ |>.mp hbt]; rfl

theorem loopDeeps_main (next : List (List Int)) : law_LoopDeeps_f BIG next = some (true, ()) := by
  simp only [law_LoopDeeps_f, law_LoopDeeps_p, ref_WayCheck_F (show 9 ≤ BIG by simp only [BIG]; omega), Option.bind_some]
  by_cases h : wayCode next = 0
  · have hW := wayCode_ok h
    have h8 := hW.few
    have hm : next.length ≤ maxLen := Nat.le_trans h8 (by decide)
    obtain ⟨l, hl, hl2⟩ := loops_F h
    obtain ⟨o, ho, ho2⟩ := deep_F h hl hl2
    have e : o.length = next.length := ho.1.trans hl.1
    simp only [ho2, h, Option.bind_some, bne_self_eq_false, cond_false]
    refine (loop_chk (n := next.length) (F := fun fu t => law_LoopDeeps_l0 BIG next (o, 0, ()) fu o t) (yes := some (true, ())) (no := some (false, ())) (fun _ => true) ?_ ?_ BIG 0 (Int.le_refl _) (by omega) (by simp only [BIG]; omega)).trans ?_
    · intro fu t a b
      have b' : t < (o.length : Int) := by rw [e]; exact b
      simp only [law_LoopDeeps_l0]
      unfold law_LoopDeeps_b0
      simp only [b, b', decide_true, cond_true]
      exact deeps_l2 hW hl ho (o, 0, ()) a (by rw [hl.1]; exact b) _
    · intro fu
      simp only [law_LoopDeeps_l0]
      unfold law_LoopDeeps_b0
      simp [e]
    · rw [chk_iff.2 fun _ _ _ => rfl]; rfl
  · simp only [loop_Deep_f, loop_Deep_p, loops_bad (show 9 ≤ BIG by simp only [BIG]; omega) h, Option.bind_some, bne_t h, beq_self_eq_true, cond_true]
    rfl

theorem loopDeeps_law (x : denPs (lawPs [.sl (.sl (.int .i64))])) (_ : wfPs [.sl (.sl (.int .i64))] x) : ∃ n, law_LoopDeeps_F n x = some (true, ()) := by
  obtain ⟨next, _⟩ := x
  exact ⟨BIG, loopDeeps_main next⟩
end Go.Proofs.Ytccbcbhiblohgaa
