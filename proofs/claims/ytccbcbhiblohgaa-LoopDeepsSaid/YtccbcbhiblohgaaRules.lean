/- rule.Rules computes who is on each way to whom. -/
import Derived.Test.YtccbcbhiblohgaaFn3
import Derived.Test.YtccbcbhiblohgaaDom
namespace Go.Proofs.Ytccbcbhiblohgaa
open Go Go.Ab S

variable {next : List (List Int)} {nf : Nat}

/-- the rounds so far: what is done (P) was done already, or something has changed -/
structure Rd (next : List (List Int)) (base : List Int) (P : Int → Int → Prop) (r : List Int) (m : Bool) : Prop where
  ri : RI next r
  no : m = false → r = base ∧ ∀ i j, P i j → Done base i j
  yes : m = true → total r < total base

theorem Rd.done {base : List Int} {P P' : Int → Int → Prop} {r : List Int} {m : Bool} (h : Rd next base P r m) {i j : Int} (hd : Done r i j) (hP : ∀ a b, P' a b → P a b ∨ (a = i ∧ b = j)) : Rd next base P' r m := by
  refine ⟨h.ri, fun hm => ?_, h.yes⟩
  obtain ⟨h1, h2⟩ := h.no hm
  refine ⟨h1, fun a b hab => ?_⟩
  rcases hP a b hab with h3 | ⟨rfl, rfl⟩
  · exact h2 a b h3
  · rw [← h1]; exact hd
theorem Rd.more {base : List Int} {P P' : Int → Int → Prop} {r : List Int} {m : Bool} (h : Rd next base P r m) (hW : WayOK next) {i j : Int} (hc : Come next i) (hj : j ∈ nexts next i) (hd : ¬ Done r i j) : Rd next base P' (r.set j.toNat (less r i j)) true := by
  refine ⟨h.ri.step hW hc hj, fun hm => by (cases hm), fun _ => ?_⟩
  have h1 := less_total h.ri (come_good hW hc) (come_good hW (come_next hW hc hj)) hd
  cases hm : m with
  | false => rw [← (h.no hm).1]; exact h1
  | true => exact Nat.lt_trans h1 (h.yes hm)
theorem Rd.weak {base : List Int} {P P' : Int → Int → Prop} {r : List Int} {m : Bool} (h : Rd next base P r m) (hP : ∀ a b, P' a b → P a b) : Rd next base P' r m :=
  ⟨h.ri, fun hm => ⟨(h.no hm).1, fun a b hab => (h.no hm).2 a b (hP a b hab)⟩, h.yes⟩

/-- the edges before node t, and the first k of t -/
def Upto (next : List (List Int)) (t : Int) (k : Nat) (i j : Int) : Prop := Come next i ∧ ((i < t ∧ j ∈ nexts next i) ∨ (i = t ∧ j ∈ (nexts next t).take k))

theorem rules_l6 (hW : WayOK next) (hn : 12 ≤ nf) {w0 : Int × Unit} {t : Int} (hc : Come next t) {base r : List Int} {m : Bool} (h : Rd next base (Upto next t 0) r m) (g4 : List Int → Bool → Int → Option (List Int × Unit)) (g2 : List Int → Bool → Option (List Int × Unit)) :
    ∃ r' m', Rd next base (Upto next (t + 1) 0) r' m' ∧ rule_Rules_l6 nf next w0 t g4 g2 nf r m 0 = g4 r' m' (t + 1) := by
  have ht := come_good hW hc
  have h8 := hW.few
  have hmem : nexts next t ∈ next := nexts_mem ht.1 ht.2
  have hthin := hW.thin _ hmem
  have hgood := hW.good _ hmem
  have hlen : (nexts next t).length ≤ maxLen := Nat.le_trans hthin (by decide)
  have key := loop_inv (n := (nexts next t).length) (F := fun fu k (q : List Int × Bool) => rule_Rules_l6 nf next w0 t g4 g2 fu q.1 q.2 k)
    (fun k q => Rd next base (Upto next t k.toNat) q.1 q.2) ?_ nf 0 (r, m) (Int.le_refl _) (by omega) (by omega) h
  · obtain ⟨fu', ⟨r', m'⟩, h1, h5⟩ := key
    refine ⟨r', m', h1.weak fun a b hab => ⟨hab.1, ?_⟩, ?_⟩
    · rcases hab.2 with ⟨h2, h3⟩ | ⟨h2, h3⟩
      · by_cases hat : a = t
        · subst hat; refine .inr ⟨rfl, ?_⟩; rw [Int.toNat_natCast, List.take_length]; exact h3
        · exact .inl ⟨by omega, h3⟩
      · simp at h3
    · rw [h5, rule_Rules_l6, rule_Rules_b6, wrap_step ht.1 ht.2 (Nat.le_trans h8 (by decide))]
      simp only [nexts, Int.lt_irrefl, decide_false, cond_false]
  · rintro fu k ⟨q, mq⟩ hk0 hk1 h1
    simp only at h1 ⊢
    have hx := hgood _ (getD_mem (l := nexts next t) (t := k) (d := 0) hk0 hk1)
    have hxm : (nexts next t).getD k.toNat 0 ∈ nexts next t := getD_mem hk0 hk1
    have hstep : ∀ a b, Upto next t (k + 1).toNat a b → Upto next t k.toNat a b ∨ (a = t ∧ b = (nexts next t).getD k.toNat 0) := by
      rintro a b ⟨h2, h3 | ⟨h3, h4⟩⟩
      · exact .inl ⟨h2, .inl h3⟩
      · rw [show (k + 1).toNat = k.toNat + 1 by omega, List.take_succ_eq_append_getElem (by omega), List.mem_append] at h4
        rcases h4 with h4 | h4
        · exact .inl ⟨h2, .inr ⟨h3, h4⟩⟩
        · simp only [List.mem_singleton] at h4
          exact .inr ⟨h3, by rw [h4, getD_nat _ _ _ hk0 hk1]⟩
    have hl := h1.ri.len
    have hk1' : k < ((next.getD t.toNat []).length : Int) := hk1
    have e : ∀ fu, rule_Rules_l6 nf next w0 t g4 g2 (fu + 1) q mq k = bif less q t ((nexts next t).getD k.toNat 0) != q.getD ((nexts next t).getD k.toNat 0).toNat 0 then rule_Rules_l6 nf next w0 t g4 g2 fu (q.set ((nexts next t).getD k.toNat 0).toNat (less q t ((nexts next t).getD k.toNat 0))) true (k + 1) else rule_Rules_l6 nf next w0 t g4 g2 fu q mq (k + 1) := by
      intro fu
      rw [rule_Rules_l6, rule_Rules_b6]
      have hx' : 0 ≤ List.getD (next.getD t.toNat []) k.toNat 0 ∧ List.getD (next.getD t.toNat []) k.toNat 0 < next.length := hx
      rw [inb_ok hk0 hk1', inb_ok (t := t) (n := q.length) ht.1 (by omega), inb_ok (n := q.length) hx'.1 (by omega), wrap_step (n := (next.getD t.toNat []).length) hk0 hk1' hlen]
      simp only [hk1', hx'.1, decide_true, cond_true]
      rfl
    generalize (nexts next t).getD k.toNat 0 = x at hx hxm hstep e
    by_cases hd : Done q t x
    · refine ⟨(q, mq), ?_, h1.done hd hstep⟩
      rw [e fu, show (less q t x != q.getD x.toNat 0) = false from (by unfold Done at hd; rw [hd, bne_self_eq_false]), cond_false]
    · refine ⟨(q.set x.toNat (less q t x), true), ?_, h1.more hW hc hxm hd⟩
      rw [e fu, bne_t hd, cond_true]

theorem rules_l4 (hW : WayOK next) (hn : 12 ≤ nf) {base : List Int} (h : RI next base) (g2 : List Int → Bool → Option (List Int × Unit)) :
    ∃ r' m', Rd next base (Upto next next.length 0) r' m' ∧ rule_Rules_l4 nf next (wd (reach nf next 0 (-1)), ()) g2 nf base false 0 = g2 r' m' := by
  have h8 := hW.few
  have hm : next.length ≤ maxLen := Nat.le_trans h8 (by decide)
  have key := loop_inv (n := next.length) (F := fun fu t (q : List Int × Bool) => rule_Rules_l4 nf next (wd (reach nf next 0 (-1)), ()) g2 fu q.1 q.2 t)
    (fun t q => Rd next base (Upto next t 0) q.1 q.2) ?_ nf 0 (base, false) (Int.le_refl _) (by omega) (by omega) ⟨h, fun _ => ⟨rfl, fun i j hij => by
      rcases hij.2 with ⟨h1, _⟩ | ⟨_, h2⟩
      · have := come_good hW hij.1; omega
      · simp at h2⟩, fun hm => by (cases hm)⟩
  · obtain ⟨fu', ⟨r', m'⟩, h1, h5⟩ := key
    refine ⟨r', m', h1, ?_⟩
    rw [h5, rule_Rules_l4, rule_Rules_b4]
    simp only [Int.lt_irrefl, decide_false, cond_false]
  · rintro fu t ⟨q, mq⟩ ht0 ht1 h1
    simp only at h1 ⊢
    obtain ⟨hw, hb⟩ := reachw (nf := nf) (wo := -1) hW (zero_good hW) t.toNat
    have hs := shr_and_beq0 hw ht0 (show t < 32 by omega)
    rw [hb] at hs
    unfold and32 at hs
    by_cases hc : Come next t
    · obtain ⟨r', m', h2, h3⟩ := rules_l6 (nf := nf) (w0 := (wd (reach nf next 0 (-1)), ())) hW hn hc h1 (fun rules3 more2 t37 => rule_Rules_l4 nf next (wd (reach nf next 0 (-1)), ()) g2 fu rules3 more2 t37) g2
      refine ⟨(r', m'), ?_, h2⟩
      rw [rule_Rules_l4, rule_Rules_b4]
      simp only [ht1, ht0, decide_true, cond_true, inb_ok ht0 ht1]
      rw [hs, decide_eq_true (show ((t.toNat : Nat) : Int) ∈ reach nf next 0 (-1) by rw [show ((t.toNat : Nat) : Int) = t by omega]; exact (mem_reach hW hn (zero_good hW) t).2 hc)]
      exact h3
    · refine ⟨(q, mq), ?_, h1.weak fun a b hab => ⟨hab.1, ?_⟩⟩
      · rw [rule_Rules_l4, rule_Rules_b4]
        simp only [ht1, ht0, decide_true, cond_true, inb_ok ht0 ht1]
        rw [hs, decide_eq_false (show ¬ ((t.toNat : Nat) : Int) ∈ reach nf next 0 (-1) by rw [show ((t.toNat : Nat) : Int) = t by omega]; exact fun h => hc ((mem_reach hW hn (zero_good hW) t).1 h)), wrap_step ht0 ht1 hm]
        rfl
      · rcases hab.2 with ⟨h2, h3⟩ | ⟨_, h3⟩
        · by_cases hat : a = t
          · subst hat; exact absurd hab.1 hc
          · exact .inl ⟨by omega, h3⟩
        · simp at h3

theorem rules_l2 (hW : WayOK next) (hn : 12 ≤ nf) : ∀ (fu : Nat) {base : List Int}, RI next base → total base + 1 < fu →
    ∃ r, RI next r ∧ (∀ i, Come next i → ∀ j ∈ nexts next i, Done r i j) ∧ rule_Rules_l2 nf next (wd (reach nf next 0 (-1)), ()) fu base true = some (r, ())
  | 0, _, _, h => by omega
  | fu + 1, base, h, hf => by
    obtain ⟨r', m', h1, h2⟩ := rules_l4 (nf := nf) hW hn h (fun rules2 more => rule_Rules_l2 nf next (wd (reach nf next 0 (-1)), ()) fu rules2 more)
    have e : rule_Rules_l2 nf next (wd (reach nf next 0 (-1)), ()) (fu + 1) base true = rule_Rules_l2 nf next (wd (reach nf next 0 (-1)), ()) fu r' m' := by
      rw [rule_Rules_l2, rule_Rules_b2]; exact h2
    rw [e]
    cases hm : m' with
    | true => exact rules_l2 hW hn fu h1.ri (by have := h1.yes hm; omega)
    | false =>
      obtain ⟨h3, h4⟩ := h1.no hm
      subst h3
      refine ⟨r', h, fun i hi j hj => h4 i j ⟨hi, .inl ⟨(come_good hW hi).2, hj⟩⟩, ?_⟩
      obtain ⟨fu', rfl⟩ : ∃ f, fu = f + 1 := ⟨fu - 1, by omega⟩
      rw [rule_Rules_l2, rule_Rules_b2]; rfl

/-- is i on each way to j? -/
def domB (nf : Nat) (next : List (List Int)) (i j : Int) : Bool := decide (i ∈ reach nf next 0 (-1)) && (decide (j ∈ reach nf next 0 (-1)) && (decide (i = j) || !decide (j ∈ reach nf next 0 i)))
theorem domB_iff (hW : WayOK next) (hn : 12 ≤ nf) {i j : Int} : domB nf next i j = true ↔ Dom next i j := by
  have hz := zero_good hW
  simp only [domB, Bool.and_eq_true, Bool.or_eq_true, decide_eq_true_eq, Bool.not_eq_true', decide_eq_false_iff_not, mem_reach hW hn hz]
  constructor
  · rintro ⟨h1, h2, h3⟩
    refine ⟨h1, h2, ?_⟩
    rcases h3 with rfl | h3
    · exact fun h => no_dom h rfl
    · exact h3
  · rintro ⟨h1, h2, h3⟩
    exact ⟨h1, h2, .inr h3⟩

theorem ref_Rules_F (hW : WayOK next) (hn : 12 ≤ nf) {i j : Int} : ref_Rules_f nf next i j = some (domB nf next i j, ()) := by
  have hz := zero_good hW
  have h8 := hW.few
  have hl : ∀ wo, (reach nf next 0 wo).length ≤ maxLen ∧ (reach nf next 0 wo).length < nf := fun wo => by
    have := (reach_nodes (nf := nf) (wo := wo) hW hz).len
    exact ⟨Nat.le_trans this (Nat.le_trans h8 (by decide)), by omega⟩
  simp only [ref_Rules_f, ref_Rules_p, reach_F hW hn hz, Option.bind_some, has_F _ _ (hl _).1 (hl _).2, domB]
  by_cases h1 : i ∈ reach nf next 0 (-1)
  · by_cases h2 : j ∈ reach nf next 0 (-1)
    · by_cases h3 : i = j
      · subst h3; simp [h1]
      · simp [h1, h2, h3, beq_f h3]
    · simp [h1, h2]
  · simp [h1]

/-- what rule.Rules computes -/
def RulesOK (nf : Nat) (next : List (List Int)) (r : List Int) : Prop := r.length = next.length ∧ ∀ j : Int, 0 ≤ j → j < next.length → W32 (r.getD j.toNat 0) ∧ ∀ k : Nat, bt (r.getD j.toNat 0) k = domB nf next k j

theorem rules_F (hW : WayOK next) (hn : 100000000000 ≤ nf) : ∃ r, RulesOK nf next r ∧ rule_Rules_f nf next = some (r, ()) := by
  have h12 : 12 ≤ nf := by omega
  have hz := zero_good hW
  have h8 := hW.few
  have hp := hW.pos
  have hm : next.length ≤ maxLen := Nat.le_trans h8 (by decide)
  have hwd := fun k => reachw (nf := nf) (wo := -1) hW hz k
  have hmem := fun j => mem_reach (nf := nf) (wo := -1) hW h12 hz j
  simp only [rule_Rules_f, rule_Rules_p, from_F hW h12 hz, Option.bind_some]
  have c : (decide (0 ≤ (List.length next : Int)) && decide ((List.length next : Int) ≤ (List.length next : Int)) && decide ((List.length next : Int) ≤ ((lim : Nat) : Int))) = true := by
    rw [decide_eq_true (show (0 : Int) ≤ (List.length next : Int) by omega), decide_eq_true (Int.le_refl _), decide_eq_true (show (List.length next : Int) ≤ ((lim : Nat) : Int) by show (List.length next : Int) ≤ ((4294967296 : Nat) : Int); omega)]; rfl
  rw [c, cond_true, Int.toNat_natCast]
  have key := loop_inv (n := next.length) (F := fun fu t (q : List Int) => rule_Rules_l0 nf next (wd (reach nf next 0 (-1)), ()) fu q t)
    (fun t q => q.length = next.length ∧ ∀ i : Int, 0 ≤ i → i < next.length → q.getD i.toNat 0 = if i < t ∧ i ∈ reach nf next 0 (-1) then wd (reach nf next 0 (-1)) else 0)
    ?_ nf 0 (List.replicate next.length 0) (Int.le_refl _) (by omega) (by omega) ⟨by simp, fun i a b => by rw [if_neg (by omega), List.getD_eq_getElem?_getD, List.getElem?_replicate]; split <;> rfl⟩
  · obtain ⟨fu', q, ⟨h1, h2⟩, h5⟩ := key
    have hg : ∀ y : Nat, (q.set 0 1).getD y 0 = if y = 0 then 1 else q.getD y 0 := fun y => getD_upd (by omega) y
    have hri : RI next (q.set 0 1) := by
      refine ⟨by simp [h1], fun j a b => ?_, fun j a b hj => ?_, fun j a b k hk => ?_, fun j a b k hk => ?_, by rw [hg]; rfl⟩
      · rw [hg]; split
        · exact W32_one
        · rw [h2 j a b]; split
          · exact (hwd 0).1
          · exact W32_zero
      · rw [hg]; split
        · exact absurd (show Come next j by rw [show j = 0 by omega]; exact come_zero) hj
        · rw [h2 j a b, if_neg fun h => hj ((hmem j).1 h.2)]
      · rw [hg] at hk
        split at hk
        · rw [bt_one] at hk
          have : k = 0 := by simpa using hk
          subst this; exact come_zero
        · rw [h2 j a b] at hk
          split at hk
          · rw [(hwd k).2] at hk; exact (hmem k).1 (by simpa using hk)
          · rw [bt_zero] at hk; cases hk
      · rw [hg]; split
        · rw [bt_one, decide_eq_true_eq]
          have hj0 : j = 0 := by omega
          subst hj0
          apply Classical.byContradiction
          intro hk0
          exact hk.2.2 (.here (by omega))
        · rw [h2 j a b, if_pos ⟨b, (hmem j).2 hk.2.1⟩, (hwd k).2]
          exact decide_eq_true ((hmem k).2 hk.1)
    have htot : total (q.set 0 1) ≤ (q.set 0 1).length * 4294967296 := total_le fun x hx => by
      obtain ⟨y, hy, rfl⟩ := List.mem_iff_getElem.1 hx
      have := hri.w y (by omega) (by rw [← hri.len]; omega)
      rw [Int.toNat_natCast, List.getD_eq_getElem?_getD, List.getElem?_eq_getElem hy] at this
      exact this
    rw [hri.len] at htot
    obtain ⟨r, g1, g2, g3⟩ := rules_l2 hW h12 nf hri (by omega)
    refine ⟨r, ⟨g1.len, fun j a b => ⟨g1.w j a b, fun k => ?_⟩⟩, ?_⟩
    · rw [Bool.eq_iff_iff, g1.fin hW g2 j ⟨a, b⟩ k, domB_iff hW h12]
    · rw [h5, rule_Rules_l0, rule_Rules_b0]
      have e : ((List.replicate (List.length next : Int).toNat (0 : Int)).length : Int) = (next.length : Int) := by simp
      rw [e, inb_ok (Int.le_refl 0) (by omega)]
      simp only [Int.lt_irrefl, decide_false, cond_false, cond_true]
      exact g3
  · rintro fu t q ht0 ht1 ⟨h1, h2⟩
    have hs := shr_and_beq1 (hwd t.toNat).1 ht0 (show t < 32 by omega)
    rw [(hwd t.toNat).2, show ((t.toNat : Nat) : Int) = t by omega] at hs
    unfold and32 at hs
    have e : ((List.replicate (List.length next : Int).toNat (0 : Int)).length : Int) = (next.length : Int) := by simp
    by_cases hc : t ∈ reach nf next 0 (-1)
    · refine ⟨q.set t.toNat (wd (reach nf next 0 (-1))), ?_, by simp [h1], fun i a b => ?_⟩
      · rw [rule_Rules_l0, rule_Rules_b0, e]
        simp only [hs, ht1, ht0, hc, decide_true, cond_true, inb_ok (t := t) (n := q.length) ht0 (by omega), wrap_step ht0 ht1 hm]
      · rw [getD_upd (by omega)]
        by_cases hit : i = t
        · subst hit; rw [if_pos rfl, if_pos ⟨by omega, hc⟩]
        · rw [if_neg (by omega), h2 i a b]
          congr 1
          rw [eq_iff_iff]
          constructor
          · rintro ⟨h3, h4⟩; exact ⟨by omega, h4⟩
          · rintro ⟨h3, h4⟩; exact ⟨by omega, h4⟩
    · refine ⟨q, ?_, h1, fun i a b => ?_⟩
      · rw [rule_Rules_l0, rule_Rules_b0, e]
        simp only [hs, ht1, ht0, hc, decide_true, decide_false, cond_true, cond_false, wrap_step ht0 ht1 hm]
      · rw [h2 i a b]
        congr 1
        rw [eq_iff_iff]
        constructor
        · rintro ⟨h3, h4⟩; exact ⟨by omega, h4⟩
        · rintro ⟨h3, h4⟩
          refine ⟨?_, h4⟩
          by_cases hit : i = t
          · subst hit; exact absurd h4 hc
          · omega

theorem table_F (h : wayCode next = 0) (hn : 100000000000 ≤ nf) : ∃ r, RulesOK nf next r ∧ rule_Table_f nf next = some (r, 0, ()) := by
  obtain ⟨r, h1, h2⟩ := rules_F (wayCode_ok h) hn
  refine ⟨r, h1, ?_⟩
  simp only [rule_Table_f, rule_Table_p, way_Check_F (show 9 ≤ nf by omega), h, Option.bind_some, h2]
  rfl
end Go.Proofs.Ytccbcbhiblohgaa
