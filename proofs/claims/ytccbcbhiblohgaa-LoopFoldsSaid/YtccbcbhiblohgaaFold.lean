/- Ways: node by node is put into another one, until none can be. -/
import Derived.Test.YtccbcbhiblohgaaInto
import Derived.Test.YtccbcbhiblohgaaOnes
import Derived.Test.YtccbcbhiblohgaaRed
namespace Go.Proofs.Ytccbcbhiblohgaa
open Go Go.Ab S

variable {next : List (List Int)} {nf : Nat}

/-- words that tell of a graph -/
structure Rep (n : Nat) (g : Gr) (F : List Int) (L : Int) : Prop where
  len : F.length = n
  w : ∀ b : Nat, b < n → W32 (F.getD b 0)
  wl : W32 L
  left : ∀ x : Nat, bt L x = true ↔ g.1 x
  low : ∀ a, g.1 a → 0 ≤ a ∧ a < n
  edge : ∀ b : Nat, g.1 b → ∀ a : Nat, (a ≠ b ∧ bt (F.getD b 0) a = true) ↔ g.2 a b

theorem Rep.clear {n : Nat} {g : Gr} {F : List Int} {L : Int} (h : Rep n g F L) (h8 : n ≤ 8) {t : Nat} (ht : t < n) :
    Rep n g (F.set t (not32 (F.getD t 0) (shlI .u32 1 t))) L ∧ bt ((F.set t (not32 (F.getD t 0) (shlI .u32 1 t))).getD t 0) t = false := by
  have hl := h.len
  have hb := fun i => not32_bt (h.w t ht) (one_w (i := (t : Int)) (by omega) (by omega)) i
  have ho := fun i => one_bt (i := (t : Int)) (by omega) (by omega) i
  simp only [Int.toNat_natCast] at ho
  refine ⟨⟨by simpa using hl, fun b hb2 => ?_, h.wl, h.left, h.low, fun b hb2 a => ?_⟩, ?_⟩
  · rw [getD_upd (by omega)]
    split
    · exact not32_w _ _
    · exact h.w b hb2
  · rw [getD_upd (by omega), ← h.edge b hb2 a]
    split
    · rename_i hbt
      subst hbt
      rw [hb, ho]
      constructor
      · rintro ⟨h1, h2⟩
        rw [Bool.and_eq_true] at h2
        exact ⟨h1, h2.1⟩
      · rintro ⟨h1, h2⟩
        exact ⟨h1, by rw [h2]; simp [h1]⟩
    · rfl
  · rw [getD_upd (by omega), if_pos rfl, hb, ho]
    simp

theorem Rep.only_iff {n : Nat} {g : Gr} {F : List Int} {L : Int} (h : Rep n g F L) (hg : g.Good) (h8 : n ≤ 8) {t : Nat} (hgt : g.1 t) (hs : bt (F.getD t 0) t = false) :
    cnt (bt (F.getD t 0)) 32 = 1 ↔ ∃ j, g.only t j := by
  have hlow := h.low t hgt
  have hw := h.w t (by omega)
  have he : ∀ a : Nat, bt (F.getD t 0) a = true ↔ g.2 a t := fun a => by
    rw [← h.edge t hgt a]
    constructor
    · intro h1
      exact ⟨fun e => (by subst e; rw [hs] at h1; cases h1), h1⟩
    · exact fun h1 => h1.2
  constructor
  · intro hc
    obtain ⟨j, j1, j2⟩ := cnt_pos (p := bt (F.getD t 0)) (n := 32) (by omega)
    refine ⟨j, (he j).1 j2, fun a ha => ?_⟩
    have hal := h.low a (hg.mem _ _ ha).1
    have e : ((a.toNat : Nat) : Int) = a := by omega
    have := cnt_uniq (p := bt (F.getD t 0)) (n := 32) (a := j) (b := a.toNat) (by omega) j1 (by omega) j2 ((he a.toNat).2 (by rw [e]; exact ha))
    omega
  · rintro ⟨j, hj, hu⟩
    have hjl := h.low j (hg.mem _ _ hj).1
    have e : ((j.toNat : Nat) : Int) = j := by omega
    refine cnt_one (a := j.toNat) (by omega) ((he j.toNat).2 (by rw [e]; exact hj)) fun b _ hb => ?_
    have := hu b ((he b).1 hb)
    omega

/-- the words when t is put into j -/
theorem Rep.fold {n : Nat} {g : Gr} {F F' : List Int} {L : Int} (h : Rep n g F L) (hg : g.Good) (h8 : n ≤ 8) {t : Nat} {j : Int} (ht0 : (t : Int) ≠ 0) (ho : g.only t j) (hs : bt (F.getD t 0) t = false) (hl' : F'.length = n)
    (hF' : ∀ b : Nat, b < n → F'.getD b 0 = if bt (F.getD b 0) t = true then or32 (not32 (F.getD b 0) (shlI .u32 1 t)) (F.getD t 0) else F.getD b 0) :
    Rep n (g.fold t j) F' (not32 L (shlI .u32 1 t)) ∧ cnt (bt (not32 L (shlI .u32 1 t))) 32 + 1 = cnt (bt L) 32 := by
  have hgt := (hg.mem _ _ ho.1).2.1
  have hlow := h.low t hgt
  have hj := h.low j (hg.mem _ _ ho.1).1
  have hjt := (hg.mem _ _ ho.1).2.2
  have w1 : W32 (shlI .u32 1 (t : Int)) := one_w (by omega) (by omega)
  have b1 := fun i => one_bt (i := (t : Int)) (by omega) (by omega) i
  simp only [Int.toNat_natCast] at b1
  have hL := fun i => not32_bt h.wl w1 i
  have he : ∀ a : Nat, bt (F.getD t 0) a = true ↔ (a : Int) = j := fun a => by
    constructor
    · intro h1
      exact ho.2 a ((h.edge t hgt a).1 ⟨fun e => (by subst e; rw [hs] at h1; cases h1), h1⟩)
    · intro h1
      have := (h.edge t hgt a).2 (by rw [h1]; exact ho.1)
      exact this.2
  refine ⟨⟨hl', fun b hb => ?_, not32_w _ _, fun x => ?_, fun a ha => h.low a ha.1, fun b hb a => ?_⟩, ?_⟩
  · rw [hF' b hb]
    split
    · exact or32_w _ _
    · exact h.w b hb
  · rw [hL, b1, Bool.and_eq_true, h.left x]
    constructor
    · rintro ⟨a1, a2⟩
      exact ⟨a1, fun e => by simp at a2; omega⟩
    · rintro ⟨a1, a2⟩
      exact ⟨a1, by simp; omega⟩
  · obtain ⟨hb1, hb2⟩ := hb
    have hbl := h.low b hb1
    have hbt : b ≠ t := fun e => hb2 (by omega)
    have hEt := h.edge b hb1 t
    have hEa := h.edge b hb1 a
    rw [hF' b (by omega)]
    show _ ↔ ((a : Int) ≠ t ∧ (b : Int) ≠ t ∧ (a : Int) ≠ b ∧ (g.2 a b ∨ ((a : Int) = j ∧ g.2 t b)))
    rw [← hEa, ← hEt]
    by_cases hc : bt (F.getD b 0) t = true
    · rw [if_pos hc, or32_bt (not32_w _ _) (h.w t (by omega)), not32_bt (h.w b (by omega)) w1, b1, Bool.or_eq_true, Bool.and_eq_true, he]
      constructor
      · rintro ⟨h1, ⟨h2, h3⟩ | h2⟩
        · exact ⟨fun e => by simp at h3; omega, by omega, by omega, .inl ⟨h1, h2⟩⟩
        · exact ⟨by omega, by omega, by omega, .inr ⟨h2, fun e => hbt e.symm, hc⟩⟩
      · rintro ⟨h1, h2, h3, h4 | ⟨h4, _⟩⟩
        · exact ⟨h4.1, .inl ⟨h4.2, by simp; omega⟩⟩
        · exact ⟨by omega, .inr h4⟩
    · rw [if_neg hc]
      constructor
      · rintro ⟨h1, h2⟩
        exact ⟨fun e => hc (by rwa [show a = t by omega] at h2), by omega, by omega, .inl ⟨h1, h2⟩⟩
      · rintro ⟨h1, h2, h3, h4 | ⟨_, _, h4⟩⟩
        · exact h4
        · exact absurd h4 hc
  · refine (cnt_flip (p := bt L) (i := t) ((h.left t).2 hgt) ?_ (fun x hx hne => ?_) (by omega)).symm
    · rw [hL, b1]; simp
    · rw [hL, b1]; simp [hne]

theorem fold_l4 {n : Nat} (h8 : n ≤ 8) (hn : 20 ≤ nf) {F F0 : List Int} (hF : F.length = n) (hw : ∀ b : Nat, b < n → W32 (F.getD b 0)) {t : Nat} (ht : t < n) (hl0 : (F0.set t (not32 (F0.getD t 0) (shlI .u32 1 t))).length = n) (hs : bt (F.getD t 0) t = false) (L : Int)
    (g2 : List Int → Int → Bool → Int → Option (Int × Int × Unit)) (g0 : List Int → Int → Bool → Option (Int × Int × Unit)) :
    ∃ F' : List Int, F'.length = n ∧ (∀ b : Nat, b < n → F'.getD b 0 = if bt (F.getD b 0) t = true then or32 (not32 (F.getD b 0) (shlI .u32 1 t)) (F.getD t 0) else F.getD b 0) ∧
      loop_Fold_l4 nf next L t F0 g2 g0 nf F 0 = g2 F' (not32 L (shlI .u32 1 t)) true ((t : Int) + 1) := by
  obtain ⟨fu', q, ⟨q1, q2⟩, e⟩ := loop_inv (n := n) (F := fun fu u (q : List Int) => loop_Fold_l4 nf next L t F0 g2 g0 fu q u)
    (fun u q => q.length = n ∧ ∀ b : Nat, b < n → q.getD b 0 = if (b : Int) < u ∧ bt (F.getD b 0) t = true then or32 (not32 (F.getD b 0) (shlI .u32 1 t)) (F.getD t 0) else F.getD b 0) (fun fu u q h0 hu hI => by
      obtain ⟨i1, i2⟩ := hI
      obtain ⟨u, rfl⟩ : ∃ k : Nat, u = (k : Int) := ⟨u.toNat, by omega⟩
      have hqu : q.getD u 0 = F.getD u 0 := by rw [i2 u (by omega), if_neg (fun h => by omega)]
      have hqt : q.getD t 0 = F.getD t 0 := by rw [i2 t ht, if_neg (fun h => by rw [hs] at h; cases h.2)]
      have hst : loop_Fold_l4 nf next L t F0 g2 g0 (fu + 1) q u = loop_Fold_b4 nf next L t F0 g2 g0 (loop_Fold_l4 nf next L t F0 g2 g0 fu) q u := rfl
      have hbb := shr_and_beq1 (hw u (by omega)) (i := (t : Int)) (by omega) (by omega)
      simp only [and32, Int.toNat_natCast] at hbb
      unfold loop_Fold_b4 at hst
      simp only [not32] at hl0
      simp only [hl0, hu, decide_true, cond_true, inb_ok (n := q.length) (t := (u : Int)) h0 (by omega), inb_ok (n := q.length) (t := (t : Int)) (by omega) (by omega), Int.toNat_natCast, show (0 : Int) ≤ (t : Int) by omega, hqu, hqt, hbb, wrap_step h0 hu (Nat.le_trans h8 (by decide))] at hst
      cases hc : bt (F.getD u 0) t with
      | true =>
        rw [hc, cond_true] at hst
        refine ⟨q.set u (or32 (not32 (F.getD u 0) (shlI .u32 1 t)) (F.getD t 0)), hst, by simpa using i1, fun b hb => ?_⟩
        rw [getD_upd (by omega)]
        by_cases hbu : b = u
        · subst hbu; rw [if_pos rfl, if_pos ⟨by omega, hc⟩]
        · rw [if_neg hbu, i2 b hb]
          have : ((b : Int) < (u : Int) ∧ bt (F.getD b 0) t = true) ↔ ((b : Int) < (u : Int) + 1 ∧ bt (F.getD b 0) t = true) := ⟨fun h => ⟨by omega, h.2⟩, fun h => ⟨by omega, h.2⟩⟩
          simp only [this]
      | false =>
        rw [hc, cond_false] at hst
        refine ⟨q, hst, i1, fun b hb => ?_⟩
        rw [i2 b hb]
        have : ((b : Int) < (u : Int) ∧ bt (F.getD b 0) t = true) ↔ ((b : Int) < (u : Int) + 1 ∧ bt (F.getD b 0) t = true) := ⟨fun h => ⟨by omega, h.2⟩, fun h => ⟨by
          by_cases hbu : b = u
          · subst hbu; rw [hc] at h; cases h.2
          · omega, h.2⟩⟩
        simp only [this]) nf 0 F (by omega) (by omega) (by omega) ⟨hF, fun b hb => by rw [if_neg (fun h => by omega)]⟩
  refine ⟨q, q1, fun b hb => ?_, ?_⟩
  · rw [q2 b hb]
    have : ((b : Int) < ((n : Nat) : Int) ∧ bt (F.getD b 0) t = true) ↔ (bt (F.getD b 0) t = true) := ⟨fun h => h.2, fun h => ⟨by omega, h⟩⟩
    simp only [this]
  · rw [e, loop_Fold_l4]
    unfold loop_Fold_b4
    simp only [not32] at hl0
    simp only [hl0, Int.lt_irrefl, decide_false, cond_false, Int.toNat_natCast, show (0 : Int) ≤ (t : Int) by omega, decide_true, cond_true, wrap_step (show (0 : Int) ≤ (t : Int) by omega) (show (t : Int) < (n : Int) by omega) (Nat.le_trans h8 (by decide))]
    rfl

/-- one round over all nodes -/
theorem fold_l2 {n : Nat} (hlen : next.length = n) (h8 : n ≤ 8) (hn : 20 ≤ nf) {gs : Gr} (hg : gs.Good) {F : List Int} {L : Int} (h : Rep n gs F L) (g0 : List Int → Int → Bool → Option (Int × Int × Unit)) :
    ∃ (F' : List Int) (L' : Int) (m : Bool) (k : Nat) (g : Gr), Redu gs k g ∧ Rep n g F' L' ∧ cnt (bt L') 32 + k = cnt (bt L) 32 ∧ (m = false → gs.Stuck ∧ g = gs) ∧ (m = true → 0 < k) ∧ loop_Fold_l2 nf next g0 nf F L false 0 = g0 F' L' m := by
  obtain ⟨fu', q, ⟨k, g, q1, q2, q3, q4, q5⟩, e⟩ := loop_inv (n := n) (F := fun fu t (q : List Int × Int × Bool) => loop_Fold_l2 nf next g0 fu q.1 q.2.1 q.2.2 t)
    (fun t q => ∃ (k : Nat) (g : Gr), Redu gs k g ∧ Rep n g q.1 q.2.1 ∧ cnt (bt q.2.1) 32 + k = cnt (bt L) 32 ∧ (q.2.2 = false → g = gs ∧ ∀ i : Nat, (i : Int) < t → i ≠ 0 → gs.1 i → ∀ j, ¬ gs.only i j) ∧ (q.2.2 = true → 0 < k)) (fun fu t q h0 ht hI => by
      obtain ⟨k, g, i1, i2, i3, i4, i5⟩ := hI
      obtain ⟨t, rfl⟩ : ∃ k : Nat, t = (k : Int) := ⟨t.toNat, by omega⟩
      obtain ⟨c1, c2⟩ := i2.clear h8 (show t < n by omega)
      have hl := i2.len
      have hg' := i1.good hg
      have hst : loop_Fold_l2 nf next g0 (fu + 1) q.1 q.2.1 q.2.2 t = loop_Fold_b2 nf (fun _ p1 p2 p3 v0 v1 => loop_Fold_l4 nf next p1 p2 p3 (fun from'2 left2 more2 t22 => loop_Fold_l2 nf next g0 fu from'2 left2 more2 t22) g0 nf v0 v1) next g0 (loop_Fold_l2 nf next g0 fu) q.1 q.2.1 q.2.2 t := rfl
      have hlb := shr_and_beq0 i2.wl (i := (t : Int)) (by omega) (by omega)
      have hones := ones_F nf (c1.w t (by omega))
      simp only [and32, Int.toNat_natCast] at hlb
      simp only [not32] at hones
      unfold loop_Fold_b2 at hst
      simp only [hlen, ht, decide_true, cond_true, inb_ok (n := q.1.length) h0 (by omega), Int.toNat_natCast, h0, hlb, List.length_set, hones, Option.bind_some, wrap_step h0 ht (Nat.le_trans h8 (by decide))] at hst
      -- nothing is done here
      have skip : loop_Fold_l2 nf next g0 (fu + 1) q.1 q.2.1 q.2.2 t = loop_Fold_l2 nf next g0 fu (q.1.set t (not32 (q.1.getD t 0) (shlI .u32 1 t))) q.2.1 q.2.2 ((t : Int) + 1) → (g = gs → t ≠ 0 → gs.1 t → ∀ j, ¬ gs.only t j) →
          ∃ s' : List Int × Int × Bool, loop_Fold_l2 nf next g0 (fu + 1) q.1 q.2.1 q.2.2 t = loop_Fold_l2 nf next g0 fu s'.1 s'.2.1 s'.2.2 ((t : Int) + 1) ∧ ∃ (k : Nat) (g : Gr), Redu gs k g ∧ Rep n g s'.1 s'.2.1 ∧ cnt (bt s'.2.1) 32 + k = cnt (bt L) 32 ∧ (s'.2.2 = false → g = gs ∧ ∀ i : Nat, (i : Int) < (t : Int) + 1 → i ≠ 0 → gs.1 i → ∀ j, ¬ gs.only i j) ∧ (s'.2.2 = true → 0 < k) := fun h1 h2 =>
        ⟨(q.1.set t (not32 (q.1.getD t 0) (shlI .u32 1 t)), q.2.1, q.2.2), h1, k, g, i1, c1, i3, fun hm => ⟨(i4 hm).1, fun i hi hi0 hgi => by
          by_cases hit : i = t
          · subst hit; exact h2 (i4 hm).1 hi0 hgi
          · exact (i4 hm).2 i (by omega) hi0 hgi⟩, i5⟩
      by_cases ht0 : t = 0
      · rw [show ((t : Int) == 0) = true by rw [beq_iff_eq]; omega, cond_true] at hst
        exact skip hst fun _ h => absurd ht0 h
      · rw [beq_f (show ¬ (t : Int) = 0 by omega), cond_false] at hst
        cases hgt : bt q.2.1 t with
        | false =>
          rw [hgt] at hst
          simp only [Bool.not_false, cond_true] at hst
          exact skip hst fun e _ h => by
            have := (i2.left t).2 (e ▸ h)
            rw [hgt] at this; cases this
        | true =>
          have hgt' := (i2.left t).1 hgt
          have hiff := c1.only_iff hg' h8 hgt' c2
          rw [hgt] at hst
          simp only [Bool.not_true, cond_false] at hst
          by_cases hc : cnt (bt ((q.1.set t (not32 (q.1.getD t 0) (shlI .u32 1 t))).getD t 0)) 32 = 1
          · obtain ⟨j, hj⟩ := hiff.1 hc
            simp only [not32] at hc
            rw [hc, show (((1 : Nat) : Int) != 1) = false from rfl, cond_false] at hst
            obtain ⟨F', f1, f2, f3⟩ := fold_l4 (nf := nf) (next := next) h8 hn (F := q.1.set t (not32 (q.1.getD t 0) (shlI .u32 1 t))) (F0 := q.1) c1.len c1.w (show t < n by omega) c1.len c2 q.2.1 (fun from'2 left2 more2 t22 => loop_Fold_l2 nf next g0 fu from'2 left2 more2 t22) g0
            obtain ⟨r1, r2⟩ := c1.fold hg' h8 (by omega) hj c2 f1 f2
            exact ⟨(F', not32 q.2.1 (shlI .u32 1 t), true), hst.trans f3, k + 1, g.fold t j, i1.snoc ⟨t, j, by omega, hj, rfl⟩, r1, (by show cnt (bt (not32 q.2.1 (shlI .u32 1 t))) 32 + (k + 1) = _; omega), fun h => (by cases h), fun _ => (by omega)⟩
          · have hne : (((cnt (bt ((q.1.set t (not32 (q.1.getD t 0) (shlI .u32 1 t))).getD t 0)) 32 : Nat) : Int) != 1) = true := bne_t (by omega)
            simp only [not32] at hne
            rw [hne, cond_true] at hst
            exact skip hst fun e _ _ j hj => hc (hiff.2 ⟨j, e ▸ hj⟩)) nf 0 (F, L, false) (by omega) (by omega) (by omega) ⟨0, gs, .none gs, h, rfl, fun _ => ⟨rfl, fun i hi => (by omega)⟩, fun h => (by cases h)⟩
  refine ⟨q.1, q.2.1, q.2.2, k, g, q1, q2, q3, fun hm => ⟨?_, (q4 hm).1⟩, q5, ?_⟩
  · rintro g' ⟨i, j, hi, ho, _⟩
    have hgi := (hg.mem _ _ ho.1).2.1
    have hlow := h.low i hgi
    have e : ((i.toNat : Nat) : Int) = i := by omega
    exact (q4 hm).2 i.toNat (by omega) (by omega) (by rw [e]; exact hgi) j (by rw [e]; exact ho)
  · rw [show loop_Fold_l2 nf next g0 nf F L false 0 = _ from e, loop_Fold_l2]
    unfold loop_Fold_b2
    simp only [hlen, Int.lt_irrefl, decide_false, cond_false]

theorem fold_l0 {n : Nat} (hlen : next.length = n) (h8 : n ≤ 8) (hn : 20 ≤ nf) : ∀ (fu : Nat) (gs : Gr) (F : List Int) (L : Int), gs.Good → Rep n gs F L → cnt (bt L) 32 + 2 ≤ fu →
    ∃ (k : Nat) (h : Gr) (F' : List Int) (L' : Int), Redu gs k h ∧ h.Stuck ∧ Rep n h F' L' ∧ loop_Fold_l0 nf next fu F L true = some (((cnt (bt L') 32 : Nat) : Int), 0, ())
  | 0, _, _, _, _, _, hfu => by omega
  | fu + 1, gs, F, L, hg, h, hfu => by
    obtain ⟨F', L', m, k, g, r1, r2, r3, r4, r5, r6⟩ := fold_l2 (nf := nf) hlen h8 hn hg h (fun from' left more => loop_Fold_l0 nf next fu from' left more)
    have hst : loop_Fold_l0 nf next (fu + 1) F L true = loop_Fold_l0 nf next fu F' L' m := r6
    rw [hst]
    cases m with
    | true =>
      obtain ⟨k', h', F2, L2, s1, s2, s3, s4⟩ := fold_l0 hlen h8 hn fu g F' L' (r1.good hg) r2 (by have := r5 rfl; omega)
      exact ⟨k + k', h', F2, L2, r1.trans s1, s2, s3, s4⟩
    | false =>
      obtain ⟨s1, s2⟩ := r4 rfl
      subst s2
      refine ⟨0, g, F', L', .none g, s1, r2, ?_⟩
      obtain ⟨fu', rfl⟩ : ∃ k, fu = k + 1 := ⟨fu - 1, by omega⟩
      rw [loop_Fold_l0, loop_Fold_b0, ones_F nf r2.wl]
      rfl
end Go.Proofs.Ytccbcbhiblohgaa
