/- single.Run and the document's run go alike. -/
import Derived.Test.YtfbiknjadkpamaaSingle
import Derived.Test.YtfbiknjadkpamaaOps
import Derived.Test.YtfbiknjadkpamaaFn2
import Derived.Test.YtfbiknjadkpamaaAbLaw
namespace Go.Proofs.Ytfbiknjadkpamaa
open Go Go.Ab S

variable {nf : Nat}

/-- the registers -/
structure Regs (v : List Int) : Prop where
  len : v.length = 128
  ok : ∀ x ∈ v, isV x
theorem Regs.get {v : List Int} (h : Regs v) {i : Int} (h0 : 0 ≤ i) (h1 : i < 128) : isV (v.getD i.toNat 0) := h.ok _ (getD_mem h0 (by rw [h.len]; exact h1))
theorem Regs.set {v : List Int} (h : Regs v) (i : Nat) {x : Int} (hx : isV x) : Regs (v.set i x) := by
  refine ⟨by simpa using h.len, fun y hy => ?_⟩
  rcases List.mem_or_eq_of_mem_set hy with h2 | rfl
  · exact h.ok y h2
  · exact hx
theorem Regs.inb {v : List Int} (h : Regs v) {i : Int} (h0 : 0 ≤ i) (h1 : i < 128) : inb i v.length = true := inb_ok h0 (by rw [h.len]; exact h1)

/-- what is so of a block of a program that may be -/
structure BOK (vars n : Int) (m : Nat) (b : Sg) : Prop where
  jns : ∀ j ∈ b.1, j.2.1.length = m ∧ 0 ≤ j.1 ∧ j.1 < 128 ∧ ∀ x ∈ j.2.1, 0 ≤ x ∧ x < 128
  stps : ∀ s ∈ b.2.1, stpCode s = 0
  test : -1 ≤ b.2.2.1 ∧ b.2.2.1 < 128
  outs : ∀ x ∈ b.2.2.2.2.2.1, 0 ≤ x ∧ x < 128
  outl : (b.2.2.2.2.2.1.length : Int) = vars
  yes : (0 ≤ b.2.2.2.1 ∧ b.2.2.2.1 < n) ∨ (b.2.2.1 = -1 ∧ b.2.2.2.1 = -1)
  no : b.2.2.1 = -1 ∨ (0 ≤ b.2.2.2.2.1 ∧ b.2.2.2.2.1 < n)

theorem jnsGo_ok {m : Int} : ∀ {l : List Jn}, jnsGo m l = 0 → ∀ j ∈ l, jnCode m j = 0
  | [], _, j, h => by cases h
  | k :: r, h, j, hj => by
    simp only [jnsGo] at h
    split at h
    · rename_i h1
      rcases List.mem_cons.1 hj with rfl | hj
      · exact h1
      · exact jnsGo_ok h j hj
    · rename_i h1; exact absurd h h1
theorem stpsGo_ok : ∀ {l : List Step6}, stpsGo l = 0 → ∀ s ∈ l, stpCode s = 0
  | [], _, j, h => by cases h
  | k :: r, h, j, hj => by
    simp only [stpsGo] at h
    split at h
    · rename_i h1
      rcases List.mem_cons.1 hj with rfl | hj
      · exact h1
      · exact stpsGo_ok h j hj
    · rename_i h1; exact absurd h h1
theorem sgGo_ok {l : List Sg} {fr : List (List Int)} : ∀ {k : Nat} {t : Int}, sgGo l fr k t = 0 → ∀ i, t ≤ i → i < t + k → inCode (fr.getD i.toNat []).length (l.getD i.toNat S0) = 0
  | 0, t, _, i, h0, h1 => by omega
  | k + 1, t, h, i, h0, h1 => by
    simp only [sgGo] at h
    split at h
    · rename_i h2
      by_cases hi : i = t
      · rw [hi]; exact h2
      · exact sgGo_ok h i (by omega) (by omega)
    · rename_i h2; exact absurd h h2

theorem bok {vars : Int} {l : List Sg} (h : sCode vars l = 0) : 1 ≤ vars ∧ vars ≤ 6 ∧ 1 ≤ l.length ∧ l.length ≤ 8 ∧ l.all (okEnds vars l.length) = true ∧ ∀ i : Int, 0 ≤ i → i < l.length → BOK vars l.length ((sFroms l).getD i.toNat []).length (l.getD i.toNat S0) := by
  unfold sCode at h
  split at h
  · omega
  · rename_i hb
    simp only [largeB, Bool.or_eq_true, decide_eq_true_eq, not_or] at hb
    split at h
    · rename_i hall
      refine ⟨by omega, by omega, by omega, by omega, hall, fun i h0 h1 => ?_⟩
      have h2 := sgGo_ok h i h0 (by omega)
      have h3 := List.all_eq_true.1 hall _ (getD_mem (d := S0) h0 h1)
      simp only [okEnds, Bool.and_eq_true, Bool.or_eq_true, decide_eq_true_eq] at h3
      unfold inCode at h2
      split at h2
      · rename_i g1
        split at h2
        · rename_i g2
          unfold endCode at h2
          split at h2
          · rename_i g3
            refine ⟨fun j hj => ?_, stpsGo_ok g2, ⟨h3.1, g3.1⟩, within_mem g3.2, h3.2.1.1, h3.2.1.2, h3.2.2⟩
            have h4 := jnsGo_ok g1 j hj
            unfold jnCode at h4
            split at h4
            · omega
            · rename_i h5
              split at h4
              · rename_i h6
                simp only [Bool.and_eq_true] at h6
                have a1 := within_mem h6.1 j.1 (by simp)
                exact ⟨by omega, a1.1, a1.2, within_mem h6.2⟩
              · omega
          · omega
        · rename_i g2; exact absurd h2 g2
      · rename_i g1; exact absurd h2 g1
    · omega

/-- the joins, at once -/
def jnsDo (i0 : Nat) (v : List Int) (js : List Jn) (w : List Int) : List Int := js.foldl (fun w j => w.set j.1.toNat (v.getD (j.2.1.getD i0 0).toNat 0)) w
def stpDo (w : List Int) (s : Step6) : List Int := w.set s.2.1.toNat (if s.1 = 1 then s.2.2.2.2.1 else if s.1 = 2 then w.getD s.2.2.2.2.1.toNat 0 else opV s.1 (w.getD s.2.2.1.toNat 0) (w.getD s.2.2.2.1.toNat 0))

theorem stp_ok {s : Step6} (h : stpCode s = 0) : 1 ≤ s.1 ∧ s.1 ≤ 6 ∧ 0 ≤ s.2.1 ∧ s.2.1 < 128 ∧ (s.1 = 1 → isV s.2.2.2.2.1) ∧ (s.1 = 2 → 0 ≤ s.2.2.2.2.1 ∧ s.2.2.2.2.1 < 128) ∧ (3 ≤ s.1 → 0 ≤ s.2.2.1 ∧ s.2.2.1 < 128 ∧ 0 ≤ s.2.2.2.1 ∧ s.2.2.2.1 < 128) := by
  unfold stpCode at h
  split at h
  · omega
  · rename_i h1
    split at h
    · omega
    · rename_i h2
      split at h
      · rename_i h3
        simp only [Bool.and_eq_true] at h3
        have a1 := within_mem h3.1 s.2.1 (by simp)
        refine ⟨by omega, by omega, a1.1, a1.2, fun ho => ?_, fun ho => ?_, fun ho => ?_⟩
        · unfold isV
          by_cases hk : 0 ≤ s.2.2.2.2.1 ∧ s.2.2.2.2.1 ≤ 255
          · exact hk
          · exact absurd ⟨ho, hk⟩ h2
        · exact within_mem h3.2 s.2.2.2.2.1 (by unfold usesOf; rw [if_neg (by omega), if_pos ho]; simp)
        · have b1 := within_mem h3.2 s.2.2.1 (by unfold usesOf; rw [if_neg (by omega), if_neg (by omega)]; simp)
          have b2 := within_mem h3.2 s.2.2.2.1 (by unfold usesOf; rw [if_neg (by omega), if_neg (by omega)]; simp)
          exact ⟨b1.1, b1.2, b2.1, b2.2⟩
      · omega

theorem stpDo_regs {w : List Int} (hw : Regs w) {s : Step6} (h : stpCode s = 0) : Regs (stpDo w s) := by
  obtain ⟨h1, h2, h3, h4, h5, h6, h7⟩ := stp_ok h
  refine hw.set _ ?_
  split
  · rename_i ho; exact h5 ho
  · split
    · rename_i ho; have := h6 ho; exact hw.get this.1 this.2
    · exact opV_isV _ _ _

theorem do_l0 {code : List Step6} (hc : ∀ s ∈ code, stpCode s = 0) (hm : code.length ≤ maxLen) : ∀ (fu : Nat) (w : List Int) (t : Int), Regs w → 0 ≤ t → t ≤ code.length → code.length < t + fu →
    block_Do_l0 nf code fu w t = some ((code.drop t.toNat).foldl stpDo w, ()) ∧ ref_Doing_l0 nf code fu w t = some ((code.drop t.toNat).foldl stpDo w, ()) ∧ Regs ((code.drop t.toNat).foldl stpDo w) := by
  intro fu
  induction fu with
  | zero => intro w t hw h1 h2 h3; omega
  | succ fu ih =>
    intro w t hw h1 h2 h3
    rw [block_Do_l0, block_Do_b0, ref_Doing_l0, ref_Doing_b0]
    by_cases ht : t < code.length
    · have hs := hc _ (getD_mem (d := ((0 : Int), (0 : Int), (0 : Int), (0 : Int), (0 : Int), ())) h1 ht)
      obtain ⟨i1, i2, i3⟩ := ih _ (t + 1) (stpDo_regs hw hs) (by omega) (by omega) (by omega)
      rw [drop_step code t (0, 0, 0, 0, 0, ()) h1 ht]
      simp only [List.foldl_cons]
      refine ⟨Eq.trans ?_ i1, Eq.trans ?_ i2, i3⟩
      all_goals
        simp only [ht, decide_true, cond_true, inb_ok h1 ht, wrap_step h1 ht hm]
        clear i1 i2 i3
        generalize code.getD t.toNat (0, 0, 0, 0, 0, ()) = s at *
        obtain ⟨o1, o2, r1, r2, k1, k2, k3⟩ := stp_ok hs
        have b0 := hw.inb r1 r2
        by_cases c1 : s.1 = 1
        · simp only [c1, cond_true, cond_false, Int.reduceBEq, b0, stpDo, if_true, Int.reduceGE, decide_false]
        · by_cases c2 : s.1 = 2
          · have k2' := k2 c2
            simp only [c2, cond_true, cond_false, Int.reduceBEq, b0, hw.inb k2'.1 k2'.2, stpDo, if_true, Int.reduceEq, if_false, Int.reduceGE, decide_false]
          · have k3' := k3 (by omega)
            have va := hw.get k3'.1 k3'.2.1
            have vb := hw.get k3'.2.2.1 k3'.2.2.2
            have b1 := hw.inb k3'.1 k3'.2.1
            have b2 := hw.inb k3'.2.2.1 k3'.2.2.2
            have d1 := do_F (nf := nf) (op := s.1) va vb
            have d2 := op_F (nf := nf) (op := s.1) (by omega) (by omega) va vb
            simp only [beq_f c1, beq_f c2, cond_true, cond_false, b0, b1, b2, d1, d2, Option.bind_some, stpDo, c1, c2, if_false, show s.1 ≥ 3 by omega, decide_true]
    · have he : code.drop t.toNat = [] := List.drop_eq_nil_of_le (by omega)
      simp only [ht, decide_false, cond_false, he, List.foldl_nil]
      exact ⟨trivial, trivial, hw⟩

/-- the first place of a number that stands once in a list -/
theorem index_F {s : List Int} {v : Int} (hm : s.length ≤ 100) (hn : 140 ≤ nf) (hv : v ∈ s) : ∃ i0 : Nat, i0 < s.length ∧ s.getD i0 0 = v ∧ slices_Index_f nf s v = some ((i0 : Int), ()) := by
  have key : ∀ (fu : Nat) (t : Int), 0 ≤ t → t ≤ s.length → s.length < t + fu → v ∈ s.drop t.toNat → ∃ i0 : Nat, i0 < s.length ∧ s.getD i0 0 = v ∧ slices_Index_l0 nf s v fu t = some ((i0 : Int), ()) := by
    intro fu
    induction fu with
    | zero => intro t h1 h2 h3; omega
    | succ fu ih =>
      intro t h1 h2 h3 h4
      rw [slices_Index_l0, slices_Index_b0]
      by_cases ht : t < s.length
      · rw [drop_step s t 0 h1 ht] at h4
        simp only [ht, decide_true, cond_true, inb_ok h1 ht, wrap_step h1 ht (Nat.le_trans hm (by decide))]
        by_cases he : v = s.getD t.toNat 0
        · refine ⟨t.toNat, by omega, he.symm, ?_⟩
          rw [← he, beq_self_eq_true, cond_true, show ((t.toNat : Nat) : Int) = t by omega]
        · rw [beq_f he]
          exact ih (t + 1) (by omega) (by omega) (by omega) ((List.mem_cons.1 h4).resolve_left he)
      · rw [List.drop_eq_nil_of_le (by omega)] at h4; cases h4
  exact key nf 0 (by omega) (by omega) (by omega) (by simpa using hv)

section
variable {l : List Sg} {vars : Int}

theorem jns_step {b : Sg} {n : Int} {m : Nat} (hb : BOK vars n m b) {i0 : Nat} (hi : i0 < m) {v : List Int} (hv : Regs v) {j : Jn} (hj : j ∈ b.1) : 0 ≤ j.2.1.getD i0 0 ∧ j.2.1.getD i0 0 < 128 ∧ isV (v.getD (j.2.1.getD i0 0).toNat 0) ∧ i0 < j.2.1.length := by
  obtain ⟨h1, _, _, h2⟩ := hb.jns j hj
  have hm := getD_mem (l := j.2.1) (t := (i0 : Int)) (d := 0) (by omega) (by omega)
  rw [Int.toNat_natCast] at hm
  have := h2 _ hm
  exact ⟨this.1, this.2, hv.get this.1 this.2, by omega⟩

theorem jns_l2 {at' t42 : Int} {fr : List (List Int)} {g0 : List (List Int) → List Int → Int → Int → Int → Option (List Int × Int × Unit)} {n : Int} {m : Nat} (hb : BOK vars n m (l.getD at'.toNat S0)) (hfit : (l.getD at'.toNat S0).1.length ≤ maxLen) {i0 : Nat} (hi : i0 < m) {v : List Int} (hv : Regs v)
    {R : Nat → List Int → Option (List Int × Int × Unit)} (hR : ∀ fu w, Regs w → single_Run_l2 nf l at' ((i0 : Int), ()) t42 g0 (fu + 1) fr w (l.getD at'.toNat S0) v ((l.getD at'.toNat S0).1.length : Int) = R fu w) :
    ∀ (fu : Nat) (w : List Int) (t : Int), Regs w → 0 ≤ t → t ≤ (l.getD at'.toNat S0).1.length → (l.getD at'.toNat S0).1.length < t + fu →
    ∃ fu', single_Run_l2 nf l at' ((i0 : Int), ()) t42 g0 fu fr w (l.getD at'.toNat S0) v t = R fu' (jnsDo i0 v ((l.getD at'.toNat S0).1.drop t.toNat) w) ∧ Regs (jnsDo i0 v ((l.getD at'.toNat S0).1.drop t.toNat) w) := by
  intro fu
  induction fu with
  | zero => intro w t hw h1 h2 h3; omega
  | succ fu ih =>
    intro w t hw h1 h2 h3
    by_cases ht : t < (l.getD at'.toNat S0).1.length
    · have hj := getD_mem (d := ((0 : Int), ([] : List Int), ())) h1 ht
      obtain ⟨a1, a2, a3, a4⟩ := jns_step hb hi hv hj
      obtain ⟨_, c1, c2, _⟩ := hb.jns _ hj
      obtain ⟨fu', i1, i2⟩ := ih (w.set ((l.getD at'.toNat S0).1.getD t.toNat (0, [], ())).1.toNat (v.getD ((((l.getD at'.toNat S0).1.getD t.toNat (0, [], ())).2.1.getD i0 0).toNat) 0)) (t + 1) (hw.set _ a3) (by omega) (by omega) (by omega)
      rw [drop_step _ t (0, [], ()) h1 ht]
      refine ⟨fu', ?_, i2⟩
      rw [single_Run_l2, single_Run_b2]
      simp only [ht, decide_true, cond_true, inb_ok h1 ht, inb_ok (t := (i0 : Int)) (n := (((l.getD at'.toNat S0).1.getD t.toNat (0, [], ())).2.1).length) (by omega) (by omega), Int.toNat_natCast, hv.inb a1 a2, hw.inb c1 c2, wrap_step h1 ht hfit]
      exact i1
    · obtain rfl : t = ((l.getD at'.toNat S0).1.length : Int) := by omega
      rw [List.drop_eq_nil_of_le (by omega)]
      exact ⟨fu, hR fu w hw, hw⟩

theorem rj_l6 {at' last k' t52 : Int} {fr : List (List Int)} {g4 : List (List Int) → List Int → List Int → Int → Option (List Int × Bool × Unit)} {g2 : List (List Int) → List Int → Int → Int → Int → Option (List Int × Bool × Unit)}
    {i0 : Nat} (hi : i0 < (fr.getD at'.toNat []).length) (hi' : (fr.getD at'.toNat []).getD i0 0 = last) (hnd : (fr.getD at'.toNat []).Nodup) (hlen : (fr.getD at'.toNat []).length ≤ 100) {v : List Int} (hv : Regs v) {j : Jn} (hj1 : j.2.1.length = (fr.getD at'.toNat []).length) (hj2 : 0 ≤ j.1 ∧ j.1 < 128) (hj3 : 0 ≤ j.2.1.getD i0 0 ∧ j.2.1.getD i0 0 < 128) :
    ∀ (fu : Nat) (w : List Int) (t : Int), Regs w → 0 ≤ t → t ≤ (fr.getD at'.toNat []).length → (fr.getD at'.toNat []).length < t + fu →
    ref_SingleRun_l6 nf l at' last k' t52 fr g4 g2 fu fr v w j t = g4 fr v (if t ≤ i0 then w.set j.1.toNat (v.getD (j.2.1.getD i0 0).toNat 0) else w) (IntKind.i64.wrap (t52 + 1)) := by
  intro fu
  induction fu with
  | zero => intro w t hw h1 h2 h3; omega
  | succ fu ih =>
    intro w t hw h1 h2 h3
    rw [ref_SingleRun_l6, ref_SingleRun_b6]
    by_cases ht : t < (fr.getD at'.toNat []).length
    · simp only [ht, decide_true, cond_true, inb_ok h1 ht, wrap_step h1 ht (Nat.le_trans hlen (by decide))]
      by_cases he : t = i0
      · subst he
        rw [Int.toNat_natCast, hi', beq_self_eq_true, cond_true]
        have hx := hv.get hj3.1 hj3.2
        simp only [inb_ok (t := (i0 : Int)) (n := j.2.1.length) (by omega) (by omega), hv.inb hj3.1 hj3.2, hw.inb hj2.1 hj2.2, cond_true]
        rw [ih _ _ (hw.set _ hx) (by omega) (by omega) (by omega), if_neg (by omega), if_pos (by omega)]
      · have hne : ¬ (fr.getD at'.toNat []).getD t.toNat 0 = last := by
          intro h4
          rw [← hi'] at h4
          have g1 := getD_nat (fr.getD at'.toNat []) t 0 h1 ht
          have g2 := getD_nat (fr.getD at'.toNat []) (i0 : Int) 0 (by omega) (by omega)
          simp only [Int.toNat_natCast] at g2
          rw [g1, g2] at h4
          have := (List.getElem_inj hnd).1 h4
          omega
        rw [beq_f hne, cond_false, ih _ _ hw (by omega) (by omega) (by omega)]
        by_cases hlt : t ≤ i0
        · rw [if_pos hlt, if_pos (by omega)]
        · rw [if_neg hlt, if_neg (by omega)]
    · simp only [ht, decide_false, cond_false]
      rw [if_neg (by omega)]

theorem rj_l4 {at' last k' : Int} {fr : List (List Int)} {g2 : List (List Int) → List Int → Int → Int → Int → Option (List Int × Bool × Unit)} {n : Int} (hb : BOK vars n (fr.getD at'.toNat []).length (l.getD at'.toNat S0)) (hfit : (l.getD at'.toNat S0).1.length ≤ maxLen)
    {i0 : Nat} (hi : i0 < (fr.getD at'.toNat []).length) (hi' : (fr.getD at'.toNat []).getD i0 0 = last) (hnd : (fr.getD at'.toNat []).Nodup) (hlen : (fr.getD at'.toNat []).length ≤ 100) (hn : 140 ≤ nf) (hat : inb at' fr.length = true) {v : List Int} (hv : Regs v)
    {R : Nat → List Int → Option (List Int × Bool × Unit)} (hR : ∀ fu w, Regs w → ref_SingleRun_l4 nf l at' last k' g2 (fu + 1) fr v w ((l.getD at'.toNat S0).1.length : Int) = R fu w) :
    ∀ (fu : Nat) (w : List Int) (t : Int), Regs w → 0 ≤ t → t ≤ (l.getD at'.toNat S0).1.length → (l.getD at'.toNat S0).1.length < t + fu →
    ∃ fu', ref_SingleRun_l4 nf l at' last k' g2 fu fr v w t = R fu' (jnsDo i0 v ((l.getD at'.toNat S0).1.drop t.toNat) w) := by
  intro fu
  induction fu with
  | zero => intro w t hw h1 h2 h3; omega
  | succ fu ih =>
    intro w t hw h1 h2 h3
    by_cases ht : t < (l.getD at'.toNat S0).1.length
    · have hj := getD_mem (d := ((0 : Int), ([] : List Int), ())) h1 ht
      obtain ⟨a1, a2, a3, a4⟩ := jns_step hb hi hv hj
      obtain ⟨c0, c1, c2, _⟩ := hb.jns _ hj
      obtain ⟨fu', i1⟩ := ih (w.set ((l.getD at'.toNat S0).1.getD t.toNat (0, [], ())).1.toNat (v.getD ((((l.getD at'.toNat S0).1.getD t.toNat (0, [], ())).2.1.getD i0 0).toNat) 0)) (t + 1) (hw.set _ a3) (by omega) (by omega) (by omega)
      have h6 := rj_l6 (nf := nf) (l := l) (at' := at') (last := last) (k' := k') (t52 := t) (fr := fr) (g4 := fun from'3 v3 w t52 => ref_SingleRun_l4 nf l at' last k' g2 fu from'3 v3 w t52) (g2 := g2) hi hi' hnd hlen hv c0 ⟨c1, c2⟩ ⟨a1, a2⟩ nf w 0 hw (by omega) (by omega) (by omega)
      rw [if_pos (by omega)] at h6
      rw [drop_step _ t (0, [], ()) h1 ht]
      refine ⟨fu', ?_⟩
      rw [ref_SingleRun_l4, ref_SingleRun_b4]
      simp only [ht, decide_true, cond_true, inb_ok h1 ht, hat]
      refine Eq.trans h6 ?_
      rw [wrap_step h1 ht hfit]
      exact i1
    · obtain rfl : t = ((l.getD at'.toNat S0).1.length : Int) := by omega
      rw [List.drop_eq_nil_of_le (by omega)]
      exact ⟨fu, hR fu w hw⟩

/-- the results -/
theorem outs_l4 {b : Sg} {g0 : List (List Int) → List Int → Int → Int → Int → Option (List Int × Int × Unit)} (ho : ∀ x ∈ b.2.2.2.2.2.1, 0 ≤ x ∧ x < 128) (hl : b.2.2.2.2.2.1.length ≤ 6) {v : List Int} (hv : Regs v) : ∀ (fu : Nat) (out : List Int) (t : Int), 0 ≤ t → t ≤ b.2.2.2.2.2.1.length → b.2.2.2.2.2.1.length < t + fu → out.length ≤ t →
    single_Run_l4 nf b l g0 fu v b out t = some (out ++ (b.2.2.2.2.2.1.drop t.toNat).map (fun x => v.getD x.toNat 0), 0, ()) := by
  intro fu
  induction fu with
  | zero => intro out t h1 h2 h3; omega
  | succ fu ih =>
    intro out t h1 h2 h3 h4
    rw [single_Run_l4, single_Run_b4]
    by_cases ht : t < b.2.2.2.2.2.1.length
    · have hx := ho _ (getD_mem (d := 0) h1 ht)
      have hbl : ∀ y : Int, (bimp false (!List.isEmpty [y]) && Nat.ble (out.length + [y].length) lim) = true := fun y => by rw [ble_ok (by simp; omega)]; rfl
      simp only [ht, decide_true, cond_true, inb_ok h1 ht, hv.inb hx.1 hx.2, hbl, wrap_step h1 ht (Nat.le_trans hl (by decide))]
      rw [ih _ _ (by omega) (by omega) (by omega) (by simp; omega), drop_step _ t 0 h1 ht]
      simp
    · simp only [ht, decide_false, cond_false, List.drop_eq_nil_of_le (show b.2.2.2.2.2.1.length ≤ t.toNat by omega), List.map_nil, List.append_nil]

theorem outs_l8 {at' : Int} {g2 : List (List Int) → List Int → Int → Int → Int → Option (List Int × Bool × Unit)} (ho : ∀ x ∈ (l.getD at'.toNat S0).2.2.2.2.2.1, 0 ≤ x ∧ x < 128) (hl : (l.getD at'.toNat S0).2.2.2.2.2.1.length ≤ 6) {v : List Int} (hv : Regs v) : ∀ (fu : Nat) (out : List Int) (t : Int), 0 ≤ t → t ≤ (l.getD at'.toNat S0).2.2.2.2.2.1.length → (l.getD at'.toNat S0).2.2.2.2.2.1.length < t + fu → out.length ≤ t →
    ref_SingleRun_l8 nf l at' g2 fu v out t = some (out ++ ((l.getD at'.toNat S0).2.2.2.2.2.1.drop t.toNat).map (fun x => v.getD x.toNat 0), true, ()) := by
  intro fu
  induction fu with
  | zero => intro out t h1 h2 h3; omega
  | succ fu ih =>
    intro out t h1 h2 h3 h4
    rw [ref_SingleRun_l8, ref_SingleRun_b8]
    by_cases ht : t < (l.getD at'.toNat S0).2.2.2.2.2.1.length
    · have hx := ho _ (getD_mem (d := 0) h1 ht)
      have hbl : ∀ y : Int, (bimp false (!List.isEmpty [y]) && Nat.ble (out.length + [y].length) lim) = true := fun y => by rw [ble_ok (by simp; omega)]; rfl
      simp only [ht, decide_true, cond_true, inb_ok h1 ht, hv.inb hx.1 hx.2, hbl, wrap_step h1 ht (Nat.le_trans hl (by decide))]
      rw [ih _ _ (by omega) (by omega) (by omega) (by simp; omega), drop_step _ t 0 h1 ht]
      simp
    · simp only [ht, decide_false, cond_false, List.drop_eq_nil_of_le (show (l.getD at'.toNat S0).2.2.2.2.2.1.length ≤ t.toNat by omega), List.map_nil, List.append_nil]
end

theorem next_from {l : List Sg} {i j : Int} (h0 : 0 ≤ i) (h1 : i < l.length) (j0 : 0 ≤ j) (j1 : j < l.length) (hm : j ∈ nextOf (bareOf (l.getD i.toNat S0))) : i ∈ (sFroms l).getD j.toNat [] := by
  have hnx : ((l.map bareOf).map nextOf).getD i.toNat [] = nextOf (bareOf (l.getD i.toNat S0)) := by
    rw [getD_nat l i S0 h0 h1, List.getD_eq_getElem?_getD]
    simp [show i.toNat < l.length by omega]
  unfold sFroms
  rw [fromsOf_get (by simp; omega)]
  have key : i ∈ frm ((l.map bareOf).map nextOf) j ((l.map bareOf).map nextOf).length := by
    have := frm_in (nx := (l.map bareOf).map nextOf) (j := j) (i := i.toNat) (by rw [hnx]; exact hm) ((l.map bareOf).map nextOf).length (by simp; omega)
    rwa [show ((i.toNat : Nat) : Int) = i by omega] at this
  rw [show ((j.toNat : Nat) : Int) = j by omega]
  split
  · rename_i hj
    have : j = 0 := by omega
    subst this
    exact List.mem_cons_of_mem _ key
  · exact key

theorem rounds {vars : Int} {l : List Sg} (h6 : vars ≤ 6) (h8 : l.length ≤ 8) (hn : 500 ≤ nf) (hf : ∀ b ∈ l, SFit nf b) (hb : ∀ i : Int, 0 ≤ i → i < l.length → BOK vars l.length ((sFroms l).getD i.toNat []).length (l.getD i.toNat S0)) :
    ∀ (fu : Nat) (v : List Int) (at' last t : Int), Regs v → 0 ≤ at' → at' < l.length → last ∈ (sFroms l).getD at'.toNat [] → 0 ≤ t → t ≤ 200 → 200 < t + fu →
    ∃ out ok, out.length ≤ 6 ∧ single_Run_l0 nf l fu (sFroms l) v at' last t = some (out, if ok = true then 0 else 7, ()) ∧ ref_SingleRun_l2 nf l fu (sFroms l) v at' last t = some (out, ok, ()) := by
  have hfl : (sFroms l).length = l.length := by simp [sFroms, fromsOf_len]
  intro fu
  induction fu with
  | zero => intro v at' last t hv a0 a1 hl t0 t1 t2; omega
  | succ fu ih =>
    intro v at' last t hv a0 a1 hl t0 t1 t2
    rw [single_Run_l0, single_Run_b0, ref_SingleRun_l2, ref_SingleRun_b2]
    by_cases ht : t < 200
    · have hbt := hb at' a0 a1
      have hfit := hf _ (getD_mem (d := S0) a0 a1)
      have hfj : at'.toNat < ((l.map bareOf).map nextOf).length := by simp; omega
      have hnd : ((sFroms l).getD at'.toNat []).Nodup := fromsOf_nodup hfj
      have hlen : ((sFroms l).getD at'.toNat []).length ≤ 100 := by
        have := fromsOf_lens hfj
        simp only [List.length_map] at this
        exact Nat.le_trans this (by omega)
      obtain ⟨i0, e1, e2, e3⟩ := index_F (nf := nf) hlen (by omega) hl
      have hvn : (!v.isEmpty) = true := by
        cases v with
        | nil => have := hv.len; simp at this
        | cons x r => rfl
      have hcl : slices_Clone_f nf v = some (v, ()) := by
        simp only [slices_Clone_f, slices_Clone_p, hvn, cond_true]
        rw [ble_ok (by have := hv.len; simp; omega)]
        rfl
      have hvb : (bimp false (!v.isEmpty) && Nat.ble ((List.length ([] : List Unit)) + v.length) lim) = true := by
        rw [hvn, ble_ok (by have := hv.len; simp; omega)]; rfl
      have hwt : IntKind.i64.wrap (t + 1) = t + 1 := wrap_step (n := 200) t0 (by omega) (by decide)
      -- the program's joins
      obtain ⟨fu1, p1, p2⟩ := jns_l2 (nf := nf) (l := l) (at' := at') (t42 := t) (fr := sFroms l) (g0 := fun from' v at' last t42 => single_Run_l0 nf l fu from' v at' last t42) hbt hfit.j0 e1 hv
        (R := fun m w => single_Run_l2 nf l at' ((i0 : Int), ()) t (fun from' v at' last t42 => single_Run_l0 nf l fu from' v at' last t42) (m + 1) (sFroms l) w (l.getD at'.toNat S0) v ((l.getD at'.toNat S0).1.length : Int)) (fun _ _ _ => rfl) nf v 0 hv (by omega) (by omega) (by have := hfit.j1; omega)
      obtain ⟨fu2, q1⟩ := rj_l4 (nf := nf) (l := l) (at' := at') (last := last) (k' := t) (fr := sFroms l) (g2 := fun from'2 v2 at' last k' => ref_SingleRun_l2 nf l fu from'2 v2 at' last k') hbt hfit.j0 e1 e2 hnd hlen (by omega) (inb_ok a0 (by omega)) hv
        (R := fun fu2 w => ref_SingleRun_l4 nf l at' last t (fun from'2 v2 at' last k' => ref_SingleRun_l2 nf l fu from'2 v2 at' last k') (fu2 + 1) (sFroms l) v w ((l.getD at'.toNat S0).1.length : Int)) (fun _ _ _ => rfl) nf v 0 hv (by omega) (by omega) (by have := hfit.j1; omega)
      rw [Int.toNat_zero, List.drop_zero] at p1 p2 q1
      simp only [ht, decide_true, cond_true, inb_ok a0 a1, inb_ok (t := at') (n := (sFroms l).length) a0 (by omega), e3, hcl, hvb, Option.bind_some, List.nil_append]
      rw [p1, q1]
      rw [single_Run_l2, single_Run_b2, ref_SingleRun_l4, ref_SingleRun_b4]
      clear p1 q1
      generalize jnsDo i0 v (l.getD at'.toNat S0).1 v = w at p2
      obtain ⟨d1, d2, d3⟩ := do_l0 (nf := nf) hbt.stps hfit.s0 nf w 0 p2 (by omega) (by omega) (by have := hfit.s1; omega)
      rw [Int.toNat_zero, List.drop_zero] at d1 d2 d3
      have hwn : (bimp false (!w.isEmpty) && Nat.ble ((List.length ([] : List Unit)) + w.length) lim) = true := by
        have : (!w.isEmpty) = true := by
          cases w with
          | nil => have := p2.len; simp at this
          | cons x r => rfl
        rw [this, ble_ok (by have := p2.len; simp; omega)]; rfl
      have hdo : block_Do_f nf (l.getD at'.toNat S0).2.1 w = some ((l.getD at'.toNat S0).2.1.foldl stpDo w, ()) := d1
      have hrd : ref_Doing_f nf (l.getD at'.toNat S0).2.1 w = some ((l.getD at'.toNat S0).2.1.foldl stpDo w, ()) := by
        simp only [ref_Doing_f, ref_Doing_p, hwn, cond_true]
        exact d2
      simp only [Int.lt_irrefl, decide_false, cond_false, hdo, hrd, Option.bind_some, inb_ok a0 a1, cond_true, hwt]
      generalize (l.getD at'.toNat S0).2.1.foldl stpDo w = x at d3
      have outs6 : (l.getD at'.toNat S0).2.2.2.2.2.1.length ≤ 6 := by have := hbt.outl; omega
      have stop : ∃ out ok, out.length ≤ 6 ∧ single_Run_l4 nf (l.getD at'.toNat S0) l (fun from' v at' last t42 => single_Run_l0 nf l fu from' v at' last t42) nf x (l.getD at'.toNat S0) [] 0 = some (out, if ok = true then 0 else 7, ()) ∧ ref_SingleRun_l8 nf l at' (fun from'2 v2 at' last k' => ref_SingleRun_l2 nf l fu from'2 v2 at' last k') nf x [] 0 = some (out, ok, ()) := by
        have o1 := outs_l4 (nf := nf) (l := l) (b := l.getD at'.toNat S0) (g0 := fun from' v at' last t42 => single_Run_l0 nf l fu from' v at' last t42) hbt.outs outs6 d3 nf [] 0 (by omega) (by omega) (by omega) (by simp)
        have o2 := outs_l8 (nf := nf) (l := l) (at' := at') (g2 := fun from'2 v2 at' last k' => ref_SingleRun_l2 nf l fu from'2 v2 at' last k') hbt.outs outs6 d3 nf [] 0 (by omega) (by omega) (by omega) (by simp)
        exact ⟨_, true, by simpa using outs6, o1, o2⟩
      have go : ∀ j : Int, 0 ≤ j → j < l.length → j ∈ nextOf (bareOf (l.getD at'.toNat S0)) → ∃ out ok, out.length ≤ 6 ∧ single_Run_l0 nf l fu (sFroms l) x j at' (t + 1) = some (out, if ok = true then 0 else 7, ()) ∧ ref_SingleRun_l2 nf l fu (sFroms l) x j at' (t + 1) = some (out, ok, ()) :=
        fun j j0 j1 hj => ih x j at' (t + 1) d3 j0 j1 (next_from a0 a1 j0 j1 hj) (by omega) (by omega) (by omega)
      have hts := hbt.test
      have hyes := hbt.yes
      have hno := hbt.no
      by_cases c1 : (l.getD at'.toNat S0).2.2.1 ≥ 0
      · have hin := d3.inb c1 hts.2
        simp only [c1, decide_true, cond_true, hin]
        by_cases c2 : x.getD (l.getD at'.toNat S0).2.2.1.toNat 0 = 0
        · have c3 : ¬ (l.getD at'.toNat S0).2.2.2.2.1 < 0 := by omega
          have c4 : ¬ (l.getD at'.toNat S0).2.2.2.2.1 = -1 := by omega
          rw [c2]
          simp only [beq_self_eq_true, cond_true, c3, decide_false, cond_false, beq_f c4]
          refine go _ (by omega) (by omega) ?_
          unfold nextOf bareOf
          simp only
          by_cases c5 : (l.getD at'.toNat S0).2.2.2.2.1 = (l.getD at'.toNat S0).2.2.2.1
          · rw [List.mem_append]; left
            rw [c5, if_pos (show (l.getD at'.toNat S0).2.2.2.1 ≥ 0 by omega)]; simp
          · rw [List.mem_append]; right
            rw [if_pos ⟨c1, c5⟩]; simp
        · have c3 : ¬ (l.getD at'.toNat S0).2.2.2.1 < 0 := by omega
          have c4 : ¬ (l.getD at'.toNat S0).2.2.2.1 = -1 := by omega
          rw [beq_f c2]
          simp only [cond_false, c3, decide_false, beq_f c4]
          refine go _ (by omega) (by omega) ?_
          unfold nextOf bareOf
          simp only
          rw [List.mem_append]; left
          rw [if_pos (show (l.getD at'.toNat S0).2.2.2.1 ≥ 0 by omega)]; simp
      · simp only [c1, decide_false, cond_false]
        by_cases c3 : (l.getD at'.toNat S0).2.2.2.1 < 0
        · have c4 : (l.getD at'.toNat S0).2.2.2.1 = -1 := by omega
          rw [c4]
          simp only [show decide ((-1 : Int) < 0) = true from rfl, cond_true, beq_self_eq_true]
          exact stop
        · have c4 : ¬ (l.getD at'.toNat S0).2.2.2.1 = -1 := by omega
          simp only [c3, decide_false, cond_false, beq_f c4]
          refine go _ (by omega) (by omega) ?_
          unfold nextOf bareOf
          simp only
          rw [List.mem_append]; left
          rw [if_pos (show (l.getD at'.toNat S0).2.2.2.1 ≥ 0 by omega)]; simp
    · simp only [ht, decide_false, cond_false]
      exact ⟨[], false, by simp, rfl, rfl⟩

theorem begins {have' v : List Int} (hl : have'.length ≤ 128) (h : v.length = 128) (hc : ∀ i, i < 128 → v.getD i 0 = if i < have'.length then have'.getD i 0 else 0) :
    v = have' ++ List.replicate (128 - have'.length) 0 := by
  refine List.ext_getElem (by simp; omega) fun i h1 h2 => ?_
  have := hc i (by omega)
  rw [List.getD_eq_getElem?_getD, List.getElem?_eq_getElem h1, Option.getD_some] at this
  rw [this]
  split
  · rename_i h3
    rw [List.getElem_append_left h3, List.getD_eq_getElem?_getD, List.getElem?_eq_getElem h3, Option.getD_some]
  · rename_i h3
    rw [List.getElem_append_right (by omega)]
    simp

theorem sr_l0 {l : List Sg} {have' : List Int} {fr : List (List Int)} (hl : have'.length ≤ 6) (hn : 40 ≤ nf) :
    ref_SingleRun_l0 nf (have'.length : Int) l have' nf fr (List.replicate 128 0) 0 = ref_SingleRun_l2 nf l nf fr (have' ++ List.replicate (128 - have'.length) 0) 0 (-1) 0 := by
  have := loop_inv (n := (have'.length : Int)) (F := fun fu t v => ref_SingleRun_l0 nf (have'.length : Int) l have' fu fr v t) (fun t v => v.length = 128 ∧ ∀ i : Nat, i < 128 → v.getD i 0 = if (i : Int) < t then have'.getD i 0 else 0) (by
    intro fu t v h0 h1 ⟨h2, h3⟩
    refine ⟨v.set t.toNat (have'.getD t.toNat 0), ?_, by simpa using h2, fun i hi => ?_⟩
    · show ref_SingleRun_l0 nf (have'.length : Int) l have' (fu + 1) fr v t = _
      rw [ref_SingleRun_l0, ref_SingleRun_b0]
      simp only [h1, decide_true, cond_true, inb_ok h0 h1, inb_ok (n := v.length) h0 (by omega), wrap_step h0 h1 (Nat.le_trans hl (by decide))]
    · rw [getD_upd (by omega)]
      by_cases hh : i = t.toNat
      · rw [if_pos hh, if_pos (by omega), hh]
      · rw [if_neg hh, h3 i hi]
        by_cases hi2 : (i : Int) < t
        · rw [if_pos hi2, if_pos (by omega)]
        · rw [if_neg hi2, if_neg (by omega)]) nf 0 (List.replicate 128 0) (by omega) (by omega) (by omega) ⟨List.length_replicate, fun i hi => by
          rw [if_neg (by omega), List.getD_eq_getElem?_getD, List.getElem?_replicate, if_pos hi]; rfl⟩
  obtain ⟨fu', s', ⟨g1, g2⟩, g3⟩ := this
  refine Eq.trans g3 ?_
  show ref_SingleRun_l0 nf (have'.length : Int) l have' (fu' + 1) fr s' (have'.length : Int) = _
  rw [ref_SingleRun_l0, ref_SingleRun_b0]
  have e := begins (have' := have') (by omega) g1 fun i hi => by
    rw [g2 i hi]
    by_cases h : i < have'.length
    · rw [if_pos (by omega), if_pos h]
    · rw [if_neg (by omega), if_neg h]
  rw [e]
  simp

theorem singleRuns_aux {vars : Int} {l : List Sg} {have' : List Int} (hl : l.length ≤ maxLen) (hh : have'.length ≤ maxLen) (hn : l.length + have'.length + 500 ≤ nf) (hf : ∀ b ∈ l, SFit nf b) : law_SingleRuns_f nf vars l have' = some (true, ()) := by
  obtain ⟨c1, c2⟩ := scheck_F (nf := nf) (vars := vars) hl (by omega) hf
  have hnil : ref_Ints_f nf [] [] = some (true, ()) := by rw [ints_F [] [] (by simp) (by simp; omega)]; rfl
  simp only [law_SingleRuns_f, law_SingleRuns_p, single_Run_f, single_Run_p, c1, c2, Option.bind_some, have_F _ _ hh (show have'.length < nf by omega), haveCheck_F _ _ hh (show have'.length < nf by omega)]
  by_cases h1 : sCode vars l = 0
  · obtain ⟨b1, b2, b3, b4, b5, b6⟩ := bok h1
    simp only [h1, show ((0 : Int) != 0) = false from rfl, show ((0 : Int) == 0) = true from rfl, cond_false, cond_true]
    by_cases h2 : haveCode vars have' = 0
    · obtain ⟨v1, v2⟩ := haveCode_ok h2
      obtain ⟨⟨p, nx, a1, a2, a3⟩, ⟨p', nx', r1, r2, r3⟩⟩ := froms_F (nf := nf) b3 b4 (by omega) b5
      have h6 : have'.length ≤ 6 := by omega
      have hm : (128 : Nat).min have'.length = have'.length := Nat.min_eq_right (by omega)
      have hreg : Regs (have' ++ List.replicate (128 - have'.length) 0) := ⟨by simp; omega, fun x hx => by
        rcases List.mem_append.1 hx with h | h
        · exact v2 x h
        · rw [List.eq_of_mem_replicate h]; exact ⟨by omega, by omega⟩⟩
      have hlast : (-1 : Int) ∈ (sFroms l).getD (0 : Int).toNat [] := by
        unfold sFroms
        rw [Int.toNat_zero, fromsOf_get (by simp; omega), if_pos rfl]
        simp
      obtain ⟨out, ok, g1, g2, g3⟩ := rounds (nf := nf) (vars := vars) b2 b4 (by omega) hf b6 nf _ 0 (-1) 0 hreg (by omega) (by omega) hlast (by omega) (by omega) (by omega)
      have hsr : ref_SingleRun_f nf vars l have' = some (out, ok, ()) := by
        simp only [ref_SingleRun_f, ref_SingleRun_p, r1, r2, r3, Option.bind_some, ← v1]
        rw [sr_l0 h6 (by omega)]
        exact g3
      simp only [h2, show ((0 : Int) != 0) = false from rfl, show ((0 : Int) == 0) = true from rfl, cond_false, cond_true, a1, a2, a3, Option.bind_some, List.take_zero, List.nil_append, Option.getD_none, List.length_replicate, hm, Nat.zero_add, List.take_length, List.drop_replicate, g2, hsr]
      have hi := ints_F (nf := nf) out out (Nat.le_trans g1 (by decide)) (by omega)
      cases ok with
      | true => simp [hi]
      | false => simp [hi]
    · simp only [bne_t h2, beq_f h2, cond_false, cond_true, Option.bind_some, beq_self_eq_true, hnil]
  · simp only [bne_t h1, beq_f h1, cond_false, cond_true, Option.bind_some, beq_self_eq_true, hnil]

/-- what the lists of a program are -/
theorem fit_of {l : List Sg} {n : Nat} (hn : sfuel l ≤ n) (h2 : ∀ i, i < l.length → wfD (.pair (.sl (.pair (.int .i64) (.pair (.sl (.int .i64)) .unit))) (.pair (.sl (.pair (.int .i64) (.pair (.int .i64) (.pair (.int .i64) (.pair (.int .i64) (.pair (.int .i64) .unit)))))) (.pair (.int .i64) (.pair (.int .i64) (.pair (.int .i64) (.pair (.sl (.int .i64)) .unit)))))) (List.getD l i (dflt (.pair (.sl (.pair (.int .i64) (.pair (.sl (.int .i64)) .unit))) (.pair (.sl (.pair (.int .i64) (.pair (.int .i64) (.pair (.int .i64) (.pair (.int .i64) (.pair (.int .i64) .unit)))))) (.pair (.int .i64) (.pair (.int .i64) (.pair (.int .i64) (.pair (.sl (.int .i64)) .unit))))))))) : ∀ b ∈ l, SFit n b := by
  intro b hb
  obtain ⟨k1, k2⟩ := sfuel_ok l
  obtain ⟨i, hi, rfl⟩ := List.mem_iff_getElem.1 hb
  have := h2 i hi
  have e : List.getD l i (dflt (.pair (.sl (.pair (.int .i64) (.pair (.sl (.int .i64)) .unit))) (.pair (.sl (.pair (.int .i64) (.pair (.int .i64) (.pair (.int .i64) (.pair (.int .i64) (.pair (.int .i64) .unit)))))) (.pair (.int .i64) (.pair (.int .i64) (.pair (.int .i64) (.pair (.sl (.int .i64)) .unit))))))) = l[i] := by simp [List.getD, hi]
  rw [e] at this
  obtain ⟨⟨w1, w2⟩, ⟨w3, _⟩, _, _, _, ⟨w4, _⟩, _⟩ := this
  obtain ⟨g1, g2, g3, g4⟩ := k2 _ hb
  refine ⟨w1, by omega, w3, by omega, w4, by omega, fun j hj => ?_, fun j hj => by have := g4 j hj; omega⟩
  obtain ⟨i', hi', rfl⟩ := List.mem_iff_getElem.1 hj
  have := w2 i' hi'
  have e : List.getD l[i].1 i' (dflt (.pair (.int .i64) (.pair (.sl (.int .i64)) .unit))) = l[i].1[i'] := by simp [List.getD, hi']
  rw [e] at this
  exact this.2.1.1

theorem singleRuns_law (x : denPs (lawPs [.int .i64, .sl (.pair (.sl (.pair (.int .i64) (.pair (.sl (.int .i64)) .unit))) (.pair (.sl (.pair (.int .i64) (.pair (.int .i64) (.pair (.int .i64) (.pair (.int .i64) (.pair (.int .i64) .unit)))))) (.pair (.int .i64) (.pair (.int .i64) (.pair (.int .i64) (.pair (.sl (.int .i64)) .unit)))))), .sl (.int .i64)])) (h : wfPs [.int .i64, .sl (.pair (.sl (.pair (.int .i64) (.pair (.sl (.int .i64)) .unit))) (.pair (.sl (.pair (.int .i64) (.pair (.int .i64) (.pair (.int .i64) (.pair (.int .i64) (.pair (.int .i64) .unit)))))) (.pair (.int .i64) (.pair (.int .i64) (.pair (.int .i64) (.pair (.sl (.int .i64)) .unit)))))), .sl (.int .i64)] x) : ∃ n, law_SingleRuns_F n x = some (true, ()) := by
  obtain ⟨vars, l, hv, _⟩ := x
  obtain ⟨_, ⟨h1, h2⟩, ⟨h3, _⟩, _⟩ := h
  obtain ⟨k1, _⟩ := sfuel_ok l
  exact ⟨sfuel l + hv.length, singleRuns_aux (vars := vars) (l := l) (have' := hv) h1 h3 (by omega) (fit_of (by omega) h2)⟩
end Go.Proofs.Ytfbiknjadkpamaa
