/- Ways: of each node those that lead to it. -/
import Derived.Test.YtccbcbhiblohgaaPath
namespace Go.Proofs.Ytccbcbhiblohgaa
open Go Go.Ab S

variable {next : List (List Int)} {nf : Nat}

/-- one comes to j from the first node -/
def Come (next : List (List Int)) (j : Int) : Prop := Path next (-1) 0 j
theorem path_good (hW : WayOK next) {wo i j : Int} (hi : 0 ≤ i ∧ i < next.length) (h : Path next wo i j) : 0 ≤ j ∧ j < next.length := by
  induction h with
  | here _ => exact hi
  | step _ h2 _ ih => exact hW.good _ (nexts_mem ih.1 ih.2) _ h2
theorem zero_good (hW : WayOK next) : (0 : Int) ≤ 0 ∧ (0 : Int) < next.length := ⟨Int.le_refl _, by have := hW.pos; omega⟩
theorem come_good (hW : WayOK next) {j : Int} (h : Come next j) : 0 ≤ j ∧ j < next.length := path_good hW (zero_good hW) h
theorem come_zero : Come next 0 := .here (by decide)
theorem come_next (hW : WayOK next) {i j : Int} (h : Come next i) (hj : j ∈ nexts next i) : Come next j :=
  .step h hj (by have := hW.good _ (nexts_mem (come_good hW h).1 (come_good hW h).2) _ hj; omega)
theorem reachw (hW : WayOK next) {i wo : Int} (hi : 0 ≤ i ∧ i < next.length) (k : Nat) : W32 (wd (reach nf next i wo)) ∧ bt (wd (reach nf next i wo)) k = decide ((k : Int) ∈ reach nf next i wo) := by
  have hN := reach_nodes (nf := nf) (wo := wo) hW hi
  have h8 := hW.few
  have : ∀ x ∈ reach nf next i wo, 0 ≤ x ∧ x < 32 := fun x hx => by have := hN.good x hx; omega
  exact ⟨wd_w this, wd_bt this k⟩

/-- the edges before node t, and the first k of t -/
def Upto (next : List (List Int)) (t : Int) (k : Nat) (i j : Int) : Prop := Come next i ∧ ((i < t ∧ j ∈ nexts next i) ∨ (i = t ∧ j ∈ (nexts next t).take k))

theorem take_snoc {α : Type} {l : List α} {t : Int} {d : α} (h0 : 0 ≤ t) (h1 : t < l.length) : l.take (t + 1).toNat = l.take t.toNat ++ [l.getD t.toNat d] := by
  rw [show (t + 1).toNat = t.toNat + 1 by omega, List.take_succ_eq_append_getElem (by omega), getD_nat l t d h0 h1]

/-- of each node those that lead to it, up to node t, and the first k of t -/
def FromOK (next : List (List Int)) (t : Int) (k : Nat) (r : List Int) : Prop := r.length = next.length ∧ ∀ j : Int, 0 ≤ j → j < next.length → W32 (r.getD j.toNat 0) ∧ ∀ x : Nat, bt (r.getD j.toNat 0) x = true ↔ Upto next t k x j

theorem to_l2 (hW : WayOK next) (hn : 100 ≤ nf) {t : Int} (ht : 0 ≤ t ∧ t < next.length) {r : List Int} (hr : FromOK next t 0 r) (g : List Int → Int → Option (List Int × Unit)) :
    ∃ r', FromOK next (t + 1) 0 r' ∧ loop_to_l2 nf next (wd (reach nf next 0 (-1)), ()) t g nf r 0 = g r' (t + 1) := by
  have h8 := hW.few
  have hz := zero_good hW
  have hmem : nexts next t ∈ next := nexts_mem ht.1 ht.2
  have hthin := hW.thin _ hmem
  have hgood := hW.good _ hmem
  have hm : next.length ≤ maxLen := Nat.le_trans h8 (by decide)
  have hlen : (nexts next t).length ≤ maxLen := Nat.le_trans hthin (by decide)
  obtain ⟨hw, hb⟩ := reachw (nf := nf) (wo := -1) hW hz t.toNat
  have hcome := mem_reach (nf := nf) (wo := -1) hW (by omega) hz t
  have key := loop_inv (n := (nexts next t).length) (F := fun fu u (r : List Int) => loop_to_l2 nf next (wd (reach nf next 0 (-1)), ()) t g fu r u) (fun u r => FromOK next t u.toNat r) ?_ nf 0 r (Int.le_refl _) (by omega) (by omega) hr
  · obtain ⟨fu, r', hr', h⟩ := key
    refine ⟨r', ?_, h.trans ?_⟩
    · refine ⟨hr'.1, fun j a b => ⟨(hr'.2 j a b).1, fun x => ((hr'.2 j a b).2 x).trans ?_⟩⟩
      simp only [Upto, Int.toNat_natCast, List.take_length, List.take_zero, List.not_mem_nil, and_false, or_false]
      constructor
      · rintro ⟨h1, h2 | ⟨h2, h3⟩⟩
        · exact ⟨h1, by omega, h2.2⟩
        · exact ⟨h1, by omega, h2 ▸ h3⟩
      · rintro ⟨h1, h2, h3⟩
        refine ⟨h1, ?_⟩
        by_cases hx : (x : Int) = t
        · exact .inr ⟨hx, hx ▸ h3⟩
        · exact .inl ⟨by omega, h3⟩
    · simp only [loop_to_l2]
      unfold loop_to_b2
      simp only [nexts, Int.lt_irrefl, decide_false, cond_false, wrap_step ht.1 ht.2 hm]
  · intro fu u r a b hr
    have a' : u < ((next.getD t.toNat []).length : Int) := b
    have hj := hgood _ (getD_mem (d := 0) a b)
    have hsnoc := take_snoc (d := (0 : Int)) a b
    obtain ⟨hrw, hrb⟩ := hr.2 _ hj.1 hj.2
    have hin : inb ((nexts next t).getD u.toNat 0) r.length = true := by rw [hr.1]; exact inb_ok hj.1 hj.2
    have hshr := shr_and hw ht.1 (show t < 32 by omega)
    simp only [and32] at hshr
    refine ⟨if t ∈ reach nf next 0 (-1) then r.set ((nexts next t).getD u.toNat 0).toNat (or32 (r.getD ((nexts next t).getD u.toNat 0).toNat 0) (shlI .u32 1 t)) else r, ?_, ?_, fun j c d => ?_⟩
    · simp only [loop_to_l2]
      unfold loop_to_b2
      simp only [nexts] at hin hlen
      simp only [a', decide_true, cond_true, inb_ok a a', ht.1, hshr, hb, hin, wrap_step a a' hlen, Int.toNat_of_nonneg ht.1]
      by_cases hc : t ∈ reach nf next 0 (-1)
      · simp only [hc, decide_true, if_true, beq_self_eq_true, cond_true]; rfl
      · simp only [hc, decide_false, if_false, Bool.false_eq_true]; rfl
    · split <;> simp [hr.1]
    · have hd := hr.2 j c d
      have hu : ∀ x : Nat, Upto next t (u + 1).toNat x j ↔ Upto next t u.toNat x j ∨ (Come next x ∧ (x : Int) = t ∧ j = (nexts next t).getD u.toNat 0) := by
        intro x
        simp only [Upto, hsnoc, List.mem_append, List.mem_singleton]
        constructor
        · rintro ⟨h1, h2 | ⟨h2, h3 | h3⟩⟩
          · exact .inl ⟨h1, .inl h2⟩
          · exact .inl ⟨h1, .inr ⟨h2, h3⟩⟩
          · exact .inr ⟨h1, h2, h3⟩
        · rintro (⟨h1, h2 | ⟨h2, h3⟩⟩ | ⟨h1, h2, h3⟩)
          · exact ⟨h1, .inl h2⟩
          · exact ⟨h1, .inr ⟨h2, .inl h3⟩⟩
          · exact ⟨h1, .inr ⟨h2, .inr h3⟩⟩
      by_cases hc : t ∈ reach nf next 0 (-1)
      · rw [if_pos hc, getD_upd (by rw [hr.1]; omega)]
        by_cases hjj : j.toNat = ((nexts next t).getD u.toNat 0).toNat
        · rw [if_pos hjj]
          refine ⟨or32_w _ _, fun x => ?_⟩
          rw [or32_bt hrw (one_w ht.1 (by omega)), one_bt ht.1 (by omega), Bool.or_eq_true, hrb, decide_eq_true_eq, hu, show (nexts next t).getD u.toNat 0 = j by omega]
          constructor
          · rintro (h | h)
            · exact .inl h
            · exact .inr ⟨by rw [show (x : Int) = t by omega]; exact hcome.1 hc, by omega, rfl⟩
          · rintro (h | ⟨_, h, _⟩)
            · exact .inl h
            · exact .inr (by omega)
        · rw [if_neg hjj]
          refine ⟨hd.1, fun x => (hd.2 x).trans ?_⟩
          rw [hu]
          constructor
          · exact .inl
          · rintro (h | ⟨_, _, h⟩)
            · exact h
            · exact absurd (by rw [h]) hjj
      · rw [if_neg hc]
        refine ⟨hd.1, fun x => (hd.2 x).trans ?_⟩
        rw [hu]
        constructor
        · exact .inl
        · rintro (h | ⟨h, h2, _⟩)
          · exact h
          · exact absurd (hcome.2 (h2 ▸ h)) hc

/-- all that lead to a node -/
def FromAll (next : List (List Int)) (r : List Int) : Prop := r.length = next.length ∧ ∀ j : Int, 0 ≤ j → j < next.length → W32 (r.getD j.toNat 0) ∧ ∀ x : Nat, bt (r.getD j.toNat 0) x = true ↔ Come next x ∧ j ∈ nexts next x

theorem to_F (hW : WayOK next) (hn : 100 ≤ nf) : ∃ r, FromAll next r ∧ loop_to_f nf next = some (r, ()) := by
  have h8 := hW.few
  have hz := zero_good hW
  have hm : next.length ≤ maxLen := Nat.le_trans h8 (by decide)
  simp only [loop_to_f, loop_to_p, from_F hW (show 12 ≤ nf by omega) hz, Option.bind_some]
  have c : (decide (0 ≤ (List.length next : Int)) && decide ((List.length next : Int) ≤ (List.length next : Int)) && decide ((List.length next : Int) ≤ ((lim : Nat) : Int))) = true := by
    rw [decide_eq_true (show (0 : Int) ≤ (List.length next : Int) by omega), decide_eq_true (Int.le_refl _), decide_eq_true (show (List.length next : Int) ≤ ((lim : Nat) : Int) by show (List.length next : Int) ≤ ((4294967296 : Nat) : Int); omega)]; rfl
  rw [c, cond_true, Int.toNat_natCast]
  have key := loop_inv (n := next.length) (F := fun fu u (r : List Int) => loop_to_l0 nf next (wd (reach nf next 0 (-1)), ()) fu r u) (fun u r => FromOK next u 0 r) ?_ nf 0 (List.replicate next.length 0) (Int.le_refl _) (by omega) (by omega) ?_
  · obtain ⟨fu, r, hr, h⟩ := key
    refine ⟨r, ⟨hr.1, fun j a b => ⟨(hr.2 j a b).1, fun x => ((hr.2 j a b).2 x).trans ?_⟩⟩, h.trans ?_⟩
    · simp only [Upto, List.take_zero, List.not_mem_nil, and_false, or_false]
      exact ⟨fun ⟨h1, _, h2⟩ => ⟨h1, h2⟩, fun ⟨h1, h2⟩ => ⟨h1, (come_good hW h1).2, h2⟩⟩
    · simp only [loop_to_l0]
      unfold loop_to_b0
      simp
  · intro fu u r a b hr
    obtain ⟨r', h1, h2⟩ := to_l2 hW hn ⟨a, b⟩ hr (fun out t16 => loop_to_l0 nf next (wd (reach nf next 0 (-1)), ()) fu out t16)
    refine ⟨r', ?_, h1⟩
    simp only [loop_to_l0]
    unfold loop_to_b0
    simp only [b, decide_true, cond_true, inb_ok a b]
    exact h2
  · refine ⟨by simp, fun j a b => ?_⟩
    have e : (List.replicate next.length (0 : Int)).getD j.toNat 0 = 0 := by
      rw [List.getD_eq_getElem?_getD, List.getElem?_replicate]; split <;> rfl
    rw [e]
    refine ⟨W32_zero, fun x => ?_⟩
    rw [bt_zero]
    simp only [Upto, Bool.false_eq_true, List.take_zero, List.not_mem_nil, and_false, or_false, false_iff]
    rintro ⟨h1, h2, _⟩
    omega
end Go.Proofs.Ytccbcbhiblohgaa
