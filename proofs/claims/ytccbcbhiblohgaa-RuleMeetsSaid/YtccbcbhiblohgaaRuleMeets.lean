/- rule.Meet tells where ways from given nodes meet. -/
import Derived.Test.YtccbcbhiblohgaaEdges
import Derived.Test.YtccbcbhiblohgaaAbLaw
namespace Go.Proofs.Ytccbcbhiblohgaa
open Go Go.Ab S

variable {next : List (List Int)} {nf : Nat}

/-- one round, up to node t -/
def passGo (nf : Nat) (next : List (List Int)) (s w : Int) : Nat → Int
  | 0 => w
  | t + 1 => bif bt (or32 s (passGo nf next s w t)) t then or32 (passGo nf next s w t) (edgeW nf next t) else passGo nf next s w t
def pass (nf : Nat) (next : List (List Int)) (s w : Int) : Int := passGo nf next s w next.length
def passN (nf : Nat) (next : List (List Int)) (s : Int) : Nat → Int
  | 0 => 0
  | k + 1 => pass nf next s (passN nf next s k)

theorem passGo_w {s w : Int} (h : W32 w) : ∀ t, W32 (passGo nf next s w t)
  | 0 => h
  | t + 1 => by
    simp only [passGo]
    cases bt (or32 s (passGo nf next s w t)) t
    · exact passGo_w h t
    · exact or32_w _ _
theorem passN_w {s : Int} : ∀ k, W32 (passN nf next s k)
  | 0 => W32_zero
  | k + 1 => passGo_w (passN_w k) _
theorem passGo_up {s w : Int} (h : W32 w) : ∀ t k, bt w k = true → bt (passGo nf next s w t) k = true
  | 0, _, hk => hk
  | t + 1, k, hk => by
    have ih := passGo_up (s := s) h t k hk
    simp only [passGo]
    cases bt (or32 s (passGo nf next s w t)) t
    · exact ih
    · rw [cond_true, or32_bt (passGo_w h t) edgeW_w, ih]; rfl
theorem edge_small (hW : WayOK next) (i : Int) (k : Nat) (hk : next.length ≤ k) : bt (edgeW nf next i) k = false := by
  have hstep : ∀ (l : List Int) (w : Int), (∀ x ∈ l, 0 ≤ x ∧ x < next.length) → W32 w → bt w k = false → bt (l.foldl (edgeStep nf next i) w) k = false := by
    intro l
    induction l with
    | nil => intro w _ _ h; exact h
    | cons x l ih =>
      intro w hl hw h
      have h8 := hW.few
      have hx := hl x (by simp)
      refine ih _ (fun y hy => hl y (by simp [hy])) (edgeStep_w hw) ?_
      unfold edgeStep
      cases (x == i || !domB nf next i x)
      · exact h
      · rw [cond_true, or32_bt hw (one_w hx.1 (by omega)), one_bt hx.1 (by omega), h, decide_eq_false (by omega)]; rfl
  have key : ∀ t, t ≤ next.length → bt (edgeGo nf next i t) k = false := by
    intro t
    induction t with
    | zero => intro _; exact bt_zero k
    | succ t ih =>
      intro ht
      simp only [edgeGo, edgeRow]
      cases domB nf next i (t : Int)
      · exact ih (by omega)
      · exact hstep _ _ (hW.good _ (nexts_mem (by omega) (by omega))) (edgeGo_w t) (ih (by omega))
  exact key _ (Nat.le_refl _)
theorem passGo_small (hW : WayOK next) {s w : Int} (h : W32 w) (k : Nat) (hk : next.length ≤ k) (hw : bt w k = false) : ∀ t, bt (passGo nf next s w t) k = false
  | 0 => hw
  | t + 1 => by
    have ih := passGo_small hW h k hk hw (s := s) t
    simp only [passGo]
    cases bt (or32 s (passGo nf next s w t)) t
    · exact ih
    · rw [cond_true, or32_bt (passGo_w h t) edgeW_w, ih, edge_small hW _ k hk]; rfl
theorem passN_small (hW : WayOK next) {s : Int} (k : Nat) (hk : next.length ≤ k) : ∀ m, bt (passN nf next s m) k = false
  | 0 => bt_zero k
  | m + 1 => passGo_small hW (passN_w m) k hk (passN_small hW k hk m) _

/-- a word with all its bits in another one, not the same -/
theorem sub_diff {v w : Int} (hv : W32 v) (hw : W32 w) (h : ∀ k, bt v k = true → bt w k = true) (hne : v ≠ w) : ∃ k : Nat, k < 32 ∧ bt v k = false ∧ bt w k = true := by
  apply Classical.byContradiction
  intro hn
  refine hne (bt_ext hv hw fun k hk => ?_)
  cases h1 : bt v k with
  | true => exact (h k h1).symm
  | false =>
    cases h2 : bt w k with
    | false => rfl
    | true => exact absurd ⟨k, hk, h1, h2⟩ hn
theorem passN_cnt (hW : WayOK next) {s : Int} : ∀ m, (∀ k, k < m → passN nf next s k ≠ passN nf next s (k + 1)) → m ≤ cnt (bt (passN nf next s m)) next.length
  | 0, _ => Nat.zero_le _
  | m + 1, h => by
    have ih := passN_cnt hW (s := s) m fun k hk => h k (by omega)
    obtain ⟨k, _, h1, h2⟩ := sub_diff (passN_w m) (passN_w (m + 1)) (fun k hk => passGo_up (passN_w m) _ k hk) (h m (by omega))
    have hk : k < next.length := by
      apply Classical.byContradiction
      intro hk
      rw [passN_small hW k (by omega)] at h2
      cases h2
    have := cnt_lt (n := next.length) (fun k _ hk => passGo_up (s := s) (nf := nf) (next := next) (passN_w m) next.length k hk) ⟨k, hk, h1, h2⟩
    exact Nat.lt_of_le_of_lt ih this
theorem passN_fix {s : Int} {m : Nat} (h : passN nf next s m = passN nf next s (m + 1)) : ∀ d, passN nf next s (m + d) = passN nf next s m
  | 0 => rfl
  | d + 1 => by
    show pass nf next s (passN nf next s (m + d)) = _
    rw [passN_fix h d]
    exact h.symm
theorem passN_end (hW : WayOK next) {s : Int} : passN nf next s (next.length + 1) = passN nf next s (next.length + 1 + 1) := by
  apply Classical.byContradiction
  intro hn
  have : ∀ k, k < next.length + 1 → passN nf next s k ≠ passN nf next s (k + 1) := by
    intro k hk he
    have h1 := passN_fix he (next.length + 1 - k)
    have h2 := passN_fix he (next.length + 1 + 1 - k)
    rw [show k + (next.length + 1 - k) = next.length + 1 by omega] at h1
    rw [show k + (next.length + 1 + 1 - k) = next.length + 1 + 1 by omega] at h2
    exact hn (h1.trans h2.symm)
  have h1 := passN_cnt hW _ this
  have h2 := cnt_n (bt (passN nf next s (next.length + 1))) next.length
  omega
theorem passN_same (hW : WayOK next) {s : Int} {m : Nat} (h : passN nf next s m = passN nf next s (m + 1)) : passN nf next s m = passN nf next s (next.length + 1) := by
  by_cases hm : m ≤ next.length + 1
  · have := passN_fix h (next.length + 1 - m)
    rw [show m + (next.length + 1 - m) = next.length + 1 by omega] at this
    exact this.symm
  · have := passN_fix (passN_end (nf := nf) (s := s) hW) (m - (next.length + 1))
    rw [show next.length + 1 + (m - (next.length + 1)) = m by omega] at this
    exact this

theorem meet_l2 (hW : WayOK next) (hn : 12 ≤ nf) {s : Int} (hs : W32 s) {o : List Int} (ho : EdgesOK nf next o) {w : Int} (hw : W32 w) (g : List Int → Int → Bool → Option (Int × Int × Unit)) :
    rule_Meet_l2 nf s w o g nf o w 0 = g o (pass nf next s w) (pass nf next s w != w) := by
  have h8 := hW.few
  have hm : next.length ≤ maxLen := Nat.le_trans h8 (by decide)
  have key := loop_inv (n := next.length) (F := fun fu t (q : Int) => rule_Meet_l2 nf s w o g fu o q t)
    (fun t q => q = passGo nf next s w t.toNat) ?_ nf 0 w (Int.le_refl _) (by omega) (by omega) rfl
  · obtain ⟨fu', q, h1, h5⟩ := key
    subst h1
    rw [h5, rule_Meet_l2, rule_Meet_b2]
    simp only [ho.1, Int.lt_irrefl, decide_false, cond_false, pass, Int.toNat_natCast]
  · rintro fu t q ht0 ht1 rfl
    refine ⟨_, ?_, rfl⟩
    have hq := passGo_w (nf := nf) (next := next) (s := s) hw t.toNat
    have hb := shr_and_beq1 (or32_w s (passGo nf next s w t.toNat)) ht0 (show t < 32 by omega)
    unfold and32 or32 at hb
    rw [show (t + 1).toNat = t.toNat + 1 by omega, passGo, rule_Meet_l2, rule_Meet_b2]
    rw [hb, ho.2 t ht0 ht1, inb_ok (t := t) (n := o.length) ht0 (by rw [ho.1]; exact ht1)]
    simp only [ho.1, ht1, ht0, decide_true, cond_true, wrap_step ht0 ht1 hm]
    rw [show ((t.toNat : Nat) : Int) = t by omega]
    unfold or32
    cases bt (IntKind.u32.wrap ((BitVec.ofInt IntKind.u32.bits s ||| BitVec.ofInt IntKind.u32.bits (passGo nf next s w t.toNat)).toNat : Int)) t.toNat <;> rfl

theorem word_lt {v w : Int} (hv : W32 v) (hw : W32 w) (h : ∀ k, bt v k = true → bt w k = true) (hne : v ≠ w) : v.toNat < w.toNat := by
  have h1 : v.toNat ≤ w.toNat := Nat.le_of_testBit fun k hk => h k hk
  have := hv.1
  have := hw.1
  omega

theorem meet_l0 (hW : WayOK next) (hn : 12 ≤ nf) {s : Int} (hs : W32 s) {o : List Int} (ho : EdgesOK nf next o) : ∀ (fu m : Nat), 4294967296 + 1 < fu + (passN nf next s m).toNat →
    rule_Meet_l0 nf s fu o (passN nf next s m) true = some (passN nf next s (next.length + 1), 0, ())
  | 0, m, h => by have := (passN_w (nf := nf) (next := next) (s := s) m).2; omega
  | fu + 1, m, h => by
    rw [rule_Meet_l0, rule_Meet_b0, cond_true]
    refine (meet_l2 hW hn hs ho (passN_w m) (fun l' out more => rule_Meet_l0 nf s fu l' out more)).trans ?_
    by_cases he : passN nf next s m = passN nf next s (m + 1)
    · have he' : pass nf next s (passN nf next s m) = passN nf next s m := he.symm
      rw [he', bne_self_eq_false]
      have := (passN_w (nf := nf) (next := next) (s := s) m).2
      obtain ⟨fu', rfl⟩ : ∃ f, fu = f + 1 := ⟨fu - 1, by omega⟩
      rw [rule_Meet_l0, rule_Meet_b0, cond_false, passN_same hW he]
    · have he' : ¬ pass nf next s (passN nf next s m) = passN nf next s m := fun h => he h.symm
      rw [bne_t he']
      have := word_lt (passN_w m) (passN_w (m + 1)) (fun k hk => passGo_up (passN_w m) _ k hk) he
      exact meet_l0 hW hn hs ho fu (m + 1) (by omega)

theorem ruleMeets_l2 (hW : WayOK next) (hn : 12 ≤ nf) {s : Int} (hs : W32 s) (rr : Int × Int × Unit) {k' : Int} (hk : 0 ≤ k' ∧ k' ≤ next.length) {w : Int} (hw : W32 w) (g : Int → Int → Option (Bool × Unit)) :
    law_RuleMeets_l2 nf next s rr k' g nf w 0 = g (pass nf next s w) (k' + 1) := by
  have h8 := hW.few
  have hm : next.length ≤ maxLen := Nat.le_trans h8 (by decide)
  have key := loop_inv (n := next.length) (F := fun fu t (q : Int) => law_RuleMeets_l2 nf next s rr k' g fu q t)
    (fun t q => q = passGo nf next s w t.toNat) ?_ nf 0 w (Int.le_refl _) (by omega) (by omega) rfl
  · obtain ⟨fu', q, h1, h5⟩ := key
    subst h1
    rw [h5, law_RuleMeets_l2, law_RuleMeets_b2, wrap_step (n := 9) hk.1 (by omega) (by decide)]
    simp only [Int.lt_irrefl, decide_false, cond_false, pass, Int.toNat_natCast]
  · rintro fu t q ht0 ht1 rfl
    refine ⟨_, ?_, rfl⟩
    have hb := bit_F nf (or32_w s (passGo nf next s w t.toNat)) ht0
    unfold or32 at hb
    rw [show (t + 1).toNat = t.toNat + 1 by omega, passGo, law_RuleMeets_l2, law_RuleMeets_b2]
    simp only [ht1, decide_true, cond_true, hb, ref_Edge_F hW hn, Option.bind_some, wrap_step ht0 ht1 hm]
    rw [show ((t.toNat : Nat) : Int) = t by omega]
    unfold or32
    cases bt (IntKind.u32.wrap ((BitVec.ofInt IntKind.u32.bits s ||| BitVec.ofInt IntKind.u32.bits (passGo nf next s w t.toNat)).toNat : Int)) t.toNat <;> rfl

theorem shr_zero {s : Int} (hs : W32 s) {n : Int} (h0 : 0 ≤ n) (h1 : n < 32) : (shrI .u32 s n != 0) = !decide (s < ((2 ^ n.toNat : Nat) : Int)) := by
  rw [shr_nat hs h0 h1, Nat.shiftRight_eq_div_pow]
  have h2 := hs.1
  have hp : 0 < 2 ^ n.toNat := Nat.pos_of_ne_zero (by simp)
  by_cases h : s < ((2 ^ n.toNat : Nat) : Int)
  · rw [decide_eq_true h, Nat.div_eq_of_lt (by omega)]; rfl
  · rw [decide_eq_false h]
    have : 0 < s.toNat / 2 ^ n.toNat := Nat.div_pos (by omega) hp
    exact bne_t (by omega)

theorem ruleMeets_main (hn : 100000000000 ≤ nf) (next : List (List Int)) {s : Int} (hs : W32 s) : law_RuleMeets_f nf next s = some (true, ()) := by
  simp only [law_RuleMeets_f, law_RuleMeets_p, ref_WayCheck_F (show 9 ≤ nf by omega)]
  by_cases h : wayCode next = 0
  · have hW := wayCode_ok h
    have h8 := hW.few
    have hp := hW.pos
    obtain ⟨o, h1, h2⟩ := edge_F h hn
    simp only [rule_Meet_f, rule_Meet_p, h2, h, Option.bind_some, show ((0 : Int) != 0) = false from rfl, show ((0 : Int) == 0) = true from rfl, cond_false, cond_true, shr_zero hs (show (0 : Int) ≤ (next.length : Int) by omega) (show (next.length : Int) < 32 by omega),
      fits_F nf (show (0 : Int) ≤ (next.length : Int) by omega) (show (next.length : Int) < 32 by omega)]
    cases hf : decide (s < ((2 ^ ((next.length : Int).toNat) : Nat) : Int)) with
    | false => rfl
    | true =>
      have h0 := meet_l0 hW (show 12 ≤ nf by omega) hs h1 nf 0 (by simp [passN]; omega)
      rw [show passN nf next s 0 = 0 from rfl] at h0
      simp only [Bool.not_true, cond_false, h0, Option.bind_some]
      have key := loop_inv (n := next.length + 1) (F := fun fu t (q : Int) => law_RuleMeets_l0 nf next s (passN nf next s (next.length + 1), 0, ()) fu q t) (fun t q => q = passN nf next s t.toNat) (fun fu t q ht0 ht1 hq => by
        subst hq
        refine ⟨_, ?_, rfl⟩
        rw [show (t + 1).toNat = t.toNat + 1 by omega, passN, law_RuleMeets_l0, law_RuleMeets_b0]
        simp only [show t ≤ (next.length : Int) by omega, decide_true, cond_true]
        exact ruleMeets_l2 hW (show 12 ≤ nf by omega) hs _ ⟨ht0, by omega⟩ (passN_w _) (fun want k' => law_RuleMeets_l0 nf next s (passN nf next s (next.length + 1), 0, ()) fu want k')) nf 0 0 (Int.le_refl _) (by omega) (by omega) rfl
      obtain ⟨fu', s', g1, g5⟩ := key
      subst g1
      rw [g5, law_RuleMeets_l0, law_RuleMeets_b0]
      simp only [show ¬ (next.length : Int) + 1 ≤ (next.length : Int) by omega, decide_false, cond_false, show ((next.length : Int) + 1).toNat = next.length + 1 by omega]
      simp
  · simp only [rule_Meet_f, rule_Meet_p, rule_Edge_f, rule_Edge_p, way_Check_F (show 9 ≤ nf by omega), Option.bind_some, bne_t h, beq_f h, cond_true, cond_false]
    simp

theorem ruleMeets_law (x : denPs (lawPs [.sl (.sl (.int .i64)), .int .u32])) (hx : wfPs [.sl (.sl (.int .i64)), .int .u32] x) : ∃ n, law_RuleMeets_F n x = some (true, ()) := by
  obtain ⟨next, s, _⟩ := x
  obtain ⟨_, ⟨h1, h2⟩, _⟩ := hx
  refine ⟨100000000000, ruleMeets_main (Nat.le_refl _) next ?_⟩
  have e1 : IntKind.u32.min = 0 := by decide
  have e2 : IntKind.u32.max = 4294967295 := by decide
  rw [e1] at h1
  rw [e2] at h2
  exact ⟨h1, Int.lt_of_le_of_lt h2 (by decide)⟩
end Go.Proofs.Ytccbcbhiblohgaa
