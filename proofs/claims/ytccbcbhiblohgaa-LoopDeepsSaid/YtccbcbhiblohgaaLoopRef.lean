/- Ways: the loop of a head, as the document tells it. -/
import Derived.Test.YtccbcbhiblohgaaLoops
import Derived.Test.YtccbcbhiblohgaaBits
namespace Go.Proofs.Ytccbcbhiblohgaa
open Go Go.Ab S

variable {next : List (List Int)} {nf : Nat}

theorem bt_iff {x : Int} (hx : W32 x) {y : Int} (hy : W32 y) {P : Nat → Prop} (h1 : ∀ k, bt x k = true ↔ P k) (h2 : ∀ k, bt y k = true ↔ P k) : x = y :=
  bt_ext hx hy fun k _ => by rw [Bool.eq_iff_iff, h1, h2]

theorem u64_ok {i : Int} (h0 : 0 ≤ i) (h1 : i < 32) : IntKind.u64.wrap i = i := Go.IntWalk.u64_in i ⟨h0, by omega⟩

/-- the round of one pair, up to node t -/
theorem ref_loop_l2 (hW : WayOK next) (hn : 100 ≤ nf) {head tail t12 : Int} (hh : 0 ≤ head ∧ head < next.length) {s : Int} (hs : W32 s) (rr : PL × Unit) (tl : PL) (hw : IntKind.i64.wrap (t12 + 1) = t12 + 1) (g0 : Int → PL → Int → Option (Int × Unit)) :
    ∃ s', (W32 s' ∧ ∀ k : Nat, bt s' k = true ↔ bt s k = true ∨ (Come next k ∧ Path next head k tail)) ∧ ref_Loop_l2 nf next head rr t12 g0 nf s (tail, head, ()) 0 tl = g0 s' tl (t12 + 1) := by
  have h8 := hW.few
  have hz := zero_good hW
  have hm : next.length ≤ maxLen := Nat.le_trans h8 (by decide)
  have key := loop_inv (n := next.length) (F := fun fu t (s : Int) => ref_Loop_l2 nf next head rr t12 g0 fu s (tail, head, ()) t tl) (fun t s' => W32 s' ∧ ∀ k : Nat, bt s' k = true ↔ bt s k = true ∨ ((k : Int) < t ∧ Come next k ∧ Path next head k tail)) ?_ nf 0 s (Int.le_refl _) (by omega) (by omega)
    ⟨hs, fun k => ⟨.inl, fun h => h.elim id fun h => by omega⟩⟩
  · obtain ⟨fu, s', ⟨h1, h2⟩, h⟩ := key
    refine ⟨s', ⟨h1, fun k => (h2 k).trans (or_congr Iff.rfl ⟨fun h => h.2, fun h => ⟨(come_good hW h.1).2, h⟩⟩)⟩, h.trans ?_⟩
    simp only [ref_Loop_l2]
    unfold ref_Loop_b2
    simp only [Int.lt_irrefl, decide_false, cond_false, hw]
  · rintro fu t s' a b ⟨h1, h2⟩
    have hl : ∀ {i : Int} (wo), (0 ≤ i ∧ i < next.length) → (reach nf next i wo).length ≤ maxLen ∧ (reach nf next i wo).length < nf := fun wo hi => by
      have := (reach_nodes (nf := nf) (wo := wo) hW hi).len
      exact ⟨Nat.le_trans this hm, by omega⟩
    have m1 := mem_reach (nf := nf) (wo := -1) hW (by omega) hz t
    have m2 := mem_reach (nf := nf) (wo := head) hW (by omega) ⟨a, b⟩ tail
    refine ⟨if t ∈ reach nf next 0 (-1) ∧ tail ∈ reach nf next t head then or32 s' (shlI .u32 1 t) else s', ?_, ?_⟩
    · simp only [ref_Loop_l2]
      unfold ref_Loop_b2
      simp only [b, decide_true, cond_true, reach_F hW (show 12 ≤ nf by omega) hz, reach_F hW (show 12 ≤ nf by omega) ⟨a, b⟩, Option.bind_some, has_F _ _ (hl (-1) hz).1 (hl (-1) hz).2, has_F _ _ (hl head ⟨a, b⟩).1 (hl head ⟨a, b⟩).2,
        u64_ok a (show t < 32 by omega), a, wrap_step a b hm]
      by_cases c1 : t ∈ reach nf next 0 (-1)
      · by_cases c2 : tail ∈ reach nf next t head
        · simp only [c1, c2, decide_true, cond_true, and_self, if_true]; rfl
        · simp only [c1, c2, decide_true, decide_false, cond_true, cond_false, and_false, if_false]
      · simp only [c1, decide_false, cond_false, false_and, if_false]
    · split
      · rename_i hc
        refine ⟨or32_w _ _, fun k => ?_⟩
        rw [or32_bt h1 (one_w a (by omega)), one_bt a (by omega), Bool.or_eq_true, h2, decide_eq_true_eq]
        constructor
        · rintro ((h | h) | h)
          · exact .inl h
          · exact .inr ⟨by omega, h.2⟩
          · have : (k : Int) = t := by omega
            exact .inr ⟨by omega, this ▸ m1.1 hc.1, this ▸ m2.1 hc.2⟩
        · rintro (h | ⟨h3, h⟩)
          · exact .inl (.inl h)
          · by_cases hk : (k : Int) < t
            · exact .inl (.inr ⟨hk, h⟩)
            · exact .inr (by omega)
      · rename_i hc
        refine ⟨h1, fun k => (h2 k).trans (or_congr Iff.rfl ⟨fun h => ⟨by omega, h.2⟩, fun h => ⟨?_, h.2⟩⟩)⟩
        by_cases hk : (k : Int) = t
        · exact absurd ⟨m1.2 (hk ▸ h.2.1), m2.2 (hk ▸ h.2.2)⟩ hc
        · omega

theorem ref_loop_F (hW : WayOK next) (hn : 100 ≤ nf) {head : Int} (hh : 0 ≤ head ∧ head < next.length) : ∃ s, (W32 s ∧ ∀ k : Nat, bt s k = true ↔ InL nf next (backs next) head k) ∧ ref_Loop_f nf next head = some (s, ()) := by
  have h8 := hW.few
  have hl := backs_len hW
  have hm : (backs next).length ≤ maxLen := Nat.le_trans hl (by decide)
  simp only [ref_Loop_f, ref_Loop_p, pairs_F hW hn, Option.bind_some]
  have key := loop_inv (n := (backs next).length) (F := fun fu t (s : Int) => ref_Loop_l0 nf next head (backs next, ()) fu s (backs next) t) (fun t s => W32 s ∧ ∀ k : Nat, bt s k = true ↔ InL nf next ((backs next).take t.toNat) head k) ?_ nf 0 0 (Int.le_refl _) (by omega) (by omega)
    ⟨W32_zero, fun k => by rw [bt_zero]; simp [InL]⟩
  · obtain ⟨fu, s, hs, h⟩ := key
    refine ⟨s, by simpa using hs, h.trans ?_⟩
    simp only [ref_Loop_l0]
    unfold ref_Loop_b0
    simp
  · rintro fu t s a b ⟨h1, h2⟩
    obtain ⟨⟨tail, hd, _⟩, hp⟩ : ∃ p, p = (backs next).getD t.toNat (0, 0, ()) := ⟨_, rfl⟩
    have hsnoc := take_snoc (d := ((0, 0, ()) : Int × Int × Unit)) a b
    rw [← hp] at hsnoc
    by_cases hhd : hd = head
    · subst hhd
      cases hdm : domB nf next hd tail with
      | true =>
        have h1w := one_w hh.1 (show hd < 32 by omega)
        obtain ⟨s', ⟨h3, h4⟩, h5⟩ := ref_loop_l2 (tail := tail) hW hn hh (or32_w s (shlI .u32 1 hd)) (backs next, ()) (backs next) (wrap_step a b hm) (fun s t10 t12 => ref_Loop_l0 nf next hd (backs next, ()) fu s t10 t12)
        refine ⟨s', ?_, h3, fun k => ?_⟩
        · simp only [ref_Loop_l0]
          unfold ref_Loop_b0
          simp only [b, decide_true, cond_true, inb_ok a b, ← hp, bne_self_eq_false, cond_false, ref_Rules_F hW (show 12 ≤ nf by omega), hdm, Option.bind_some, Bool.not_true, u64_ok hh.1 (show hd < 32 by omega), hh.1]
          exact h5
        · rw [h4, or32_bt h1 h1w, one_bt hh.1 (by omega), Bool.or_eq_true, h2, decide_eq_true_eq, hsnoc, InL.snoc]
          constructor
          · rintro ((h | h) | h)
            · exact .inl h
            · exact .inr ⟨rfl, hdm, .inl (by omega)⟩
            · exact .inr ⟨rfl, hdm, .inr h⟩
          · rintro (h | ⟨_, _, h | h⟩)
            · exact .inl (.inl h)
            · exact .inl (.inr (by omega))
            · exact .inr h
      | false =>
        refine ⟨s, ?_, h1, fun k => (h2 k).trans ?_⟩
        · simp only [ref_Loop_l0]
          unfold ref_Loop_b0
          simp only [b, decide_true, cond_true, inb_ok a b, ← hp, bne_self_eq_false, cond_false, ref_Rules_F hW (show 12 ≤ nf by omega), hdm, Option.bind_some, Bool.not_false, wrap_step a b hm]
        · rw [hsnoc, InL.snoc]
          exact ⟨.inl, fun h => h.elim id fun h => by rw [hdm] at h; cases h.2.1⟩
    · refine ⟨s, ?_, h1, fun k => (h2 k).trans ?_⟩
      · simp only [ref_Loop_l0]
        unfold ref_Loop_b0
        simp only [b, decide_true, cond_true, inb_ok a b, ← hp, bne_t hhd, wrap_step a b hm]
      · rw [hsnoc, InL.snoc]
        exact ⟨.inl, fun h => h.elim id fun h => absurd h.1 hhd⟩

theorem ref_loop_eq (hW : WayOK next) (hn : 100 ≤ nf) {out : List Int} (ho : OutOK nf next (backs next) out) {h : Int} (h0 : 0 ≤ h) (h1 : h < next.length) : ref_Loop_f nf next h = some (out.getD h.toNat 0, ()) := by
  obtain ⟨s, ⟨h2, h3⟩, h4⟩ := ref_loop_F hW hn ⟨h0, h1⟩
  obtain ⟨h5, h6⟩ := ho.2 h h0 h1
  rw [h4, bt_iff h2 h5 h3 h6]
end Go.Proofs.Ytccbcbhiblohgaa
