/- Ways: the loop of each head. -/
import Derived.Test.YtccbcbhiblohgaaTame
namespace Go.Proofs.Ytccbcbhiblohgaa
open Go Go.Ab S

variable {next : List (List Int)} {nf : Nat}

/-- k is in the loop of a head that one goes back to from a tail -/
def InLoop (next : List (List Int)) (head tail k : Int) : Prop := k = head ∨ (Come next k ∧ Path next head k tail)
/-- k is in a head's loop, by the pairs in l -/
def InL (nf : Nat) (next : List (List Int)) (l : PL) (head k : Int) : Prop := ∃ p ∈ l, p.2.1 = head ∧ domB nf next head p.1 = true ∧ InLoop next head p.1 k
theorem InL.snoc {l : PL} {p : Int × Int × Unit} {head k : Int} : InL nf next (l ++ [p]) head k ↔ InL nf next l head k ∨ (p.2.1 = head ∧ domB nf next head p.1 = true ∧ InLoop next head p.1 k) := by
  unfold InL
  constructor
  · rintro ⟨q, hq, h⟩
    rcases List.mem_append.1 hq with hq | hq
    · exact .inl ⟨q, hq, h⟩
    · simp only [List.mem_singleton] at hq; subst hq; exact .inr h
  · rintro (⟨q, hq, h⟩ | h)
    · exact ⟨q, List.mem_append_left _ hq, h⟩
    · exact ⟨p, by simp, h⟩
theorem take_snoc {α : Type} {l : List α} {t : Int} {d : α} (h0 : 0 ≤ t) (h1 : t < l.length) : l.take (t + 1).toNat = l.take t.toNat ++ [l.getD t.toNat d] := by
  rw [show (t + 1).toNat = t.toNat + 1 by omega, List.take_succ_eq_append_getElem (by omega), getD_nat l t d h0 h1]

theorem Path.trans {wo i j k : Int} (h1 : Path next wo i j) (h2 : Path next wo j k) : Path next wo i k := by
  induction h2 with
  | here _ => exact h1
  | step _ h3 h4 ih => exact .step ih h3 h4
theorem path_end {wo i j : Int} (h : Path next wo i j) : j ≠ wo := by
  cases h with
  | here h => exact h
  | step _ _ h => exact h

/-- of each node those that lead to it, up to node t, and the first k of t -/
def FromOK (next : List (List Int)) (t : Int) (k : Nat) (r : List Int) : Prop := r.length = next.length ∧ ∀ j : Int, 0 ≤ j → j < next.length → W32 (r.getD j.toNat 0) ∧ ∀ x : Nat, bt (r.getD j.toNat 0) x = true ↔ Upto next t k x j

theorem to_l2 (hW : WayOK next) (hn : 100 ≤ nf) {t : Int} (ht : 0 ≤ t ∧ t < next.length) {r : List Int} (hr : FromOK next t 0 r) (g : List Int → Int → Option (List Int × Unit)) :
    ∃ r', FromOK next (t + 1) 0 r' ∧ loop_to_l2 nf next (wd (reach nf next 0 (-1)), ()) t g nf r 0 = g r' (t + 1) := by
  have h8 := hW.few
  have hz := zero_good hW
  have hmem : nexts next t ∈ next := nexts_mem ht.1 ht.2
  have hthin := hW.thin _ hmem
  have hgood := hW.good _ hmem
  have hm : next.length ≤ maxLen := Nat.le_trans h8 (by decide)
  have hlen : (nexts next t).length ≤ maxLen := Nat.le_trans hthin (by decide)
  obtain ⟨hw, hb⟩ := reachw (nf := nf) (wo := -1) hW hz t.toNat
  have hcome := mem_reach (nf := nf) (wo := -1) hW (by omega) hz t
  have key := loop_inv (n := (nexts next t).length) (F := fun fu u (r : List Int) => loop_to_l2 nf next (wd (reach nf next 0 (-1)), ()) t g fu r u) (fun u r => FromOK next t u.toNat r) ?_ nf 0 r (Int.le_refl _) (by omega) (by omega) hr
  · obtain ⟨fu, r', hr', h⟩ := key
    refine ⟨r', ?_, h.trans ?_⟩
    · refine ⟨hr'.1, fun j a b => ⟨(hr'.2 j a b).1, fun x => ((hr'.2 j a b).2 x).trans ?_⟩⟩
      simp only [Upto, Int.toNat_natCast, List.take_length, List.take_zero, List.not_mem_nil, and_false, or_false]
      constructor
      · rintro ⟨h1, h2 | ⟨h2, h3⟩⟩
        · exact ⟨h1, by omega, h2.2⟩
        · exact ⟨h1, by omega, h2 ▸ h3⟩
      · rintro ⟨h1, h2, h3⟩
        refine ⟨h1, ?_⟩
        by_cases hx : (x : Int) = t
        · exact .inr ⟨hx, hx ▸ h3⟩
        · exact .inl ⟨by omega, h3⟩
    · simp only [loop_to_l2]
      unfold loop_to_b2
      simp only [nexts, Int.lt_irrefl, decide_false, cond_false, wrap_step ht.1 ht.2 hm]
  · intro fu u r a b hr
    have a' : u < ((next.getD t.toNat []).length : Int) := b
    have hj := hgood _ (getD_mem (d := 0) a b)
    have hsnoc := take_snoc (d := (0 : Int)) a b
    obtain ⟨hrw, hrb⟩ := hr.2 _ hj.1 hj.2
    have hin : inb ((nexts next t).getD u.toNat 0) r.length = true := by rw [hr.1]; exact inb_ok hj.1 hj.2
    have hshr := shr_and hw ht.1 (show t < 32 by omega)
    simp only [and32] at hshr
    refine ⟨if t ∈ reach nf next 0 (-1) then r.set ((nexts next t).getD u.toNat 0).toNat (or32 (r.getD ((nexts next t).getD u.toNat 0).toNat 0) (shlI .u32 1 t)) else r, ?_, ?_, fun j c d => ?_⟩
    · simp only [loop_to_l2]
      unfold loop_to_b2
      simp only [nexts] at hin hlen
      simp only [a', decide_true, cond_true, inb_ok a a', ht.1, hshr, hb, hin, wrap_step a a' hlen, Int.toNat_of_nonneg ht.1]
      by_cases hc : t ∈ reach nf next 0 (-1)
      · simp only [hc, decide_true, if_true, beq_self_eq_true, cond_true]; rfl
      · simp only [hc, decide_false, if_false, Bool.false_eq_true]; rfl
    · split <;> simp [hr.1]
    · have hd := hr.2 j c d
      have hu : ∀ x : Nat, Upto next t (u + 1).toNat x j ↔ Upto next t u.toNat x j ∨ (Come next x ∧ (x : Int) = t ∧ j = (nexts next t).getD u.toNat 0) := by
        intro x
        simp only [Upto, hsnoc, List.mem_append, List.mem_singleton]
        constructor
        · rintro ⟨h1, h2 | ⟨h2, h3 | h3⟩⟩
          · exact .inl ⟨h1, .inl h2⟩
          · exact .inl ⟨h1, .inr ⟨h2, h3⟩⟩
          · exact .inr ⟨h1, h2, h3⟩
        · rintro (⟨h1, h2 | ⟨h2, h3⟩⟩ | ⟨h1, h2, h3⟩)
          · exact ⟨h1, .inl h2⟩
          · exact ⟨h1, .inr ⟨h2, .inl h3⟩⟩
          · exact ⟨h1, .inr ⟨h2, .inr h3⟩⟩
      by_cases hc : t ∈ reach nf next 0 (-1)
      · rw [if_pos hc, getD_upd (by rw [hr.1]; omega)]
        by_cases hjj : j.toNat = ((nexts next t).getD u.toNat 0).toNat
        · rw [if_pos hjj]
          refine ⟨or32_w _ _, fun x => ?_⟩
          rw [or32_bt hrw (one_w ht.1 (by omega)), one_bt ht.1 (by omega), Bool.or_eq_true, hrb, decide_eq_true_eq, hu, show (nexts next t).getD u.toNat 0 = j by omega]
          constructor
          · rintro (h | h)
            · exact .inl h
            · exact .inr ⟨by rw [show (x : Int) = t by omega]; exact hcome.1 hc, by omega, rfl⟩
          · rintro (h | ⟨_, h, _⟩)
            · exact .inl h
            · exact .inr (by omega)
        · rw [if_neg hjj]
          refine ⟨hd.1, fun x => (hd.2 x).trans ?_⟩
          rw [hu]
          constructor
          · exact .inl
          · rintro (h | ⟨_, _, h⟩)
            · exact h
            · exact absurd (by rw [h]) hjj
      · rw [if_neg hc]
        refine ⟨hd.1, fun x => (hd.2 x).trans ?_⟩
        rw [hu]
        constructor
        · exact .inl
        · rintro (h | ⟨h, h2, _⟩)
          · exact h
          · exact absurd (hcome.2 (h2 ▸ h)) hc

/-- all that lead to a node -/
def FromAll (next : List (List Int)) (r : List Int) : Prop := r.length = next.length ∧ ∀ j : Int, 0 ≤ j → j < next.length → W32 (r.getD j.toNat 0) ∧ ∀ x : Nat, bt (r.getD j.toNat 0) x = true ↔ Come next x ∧ j ∈ nexts next x

theorem to_F (hW : WayOK next) (hn : 100 ≤ nf) : ∃ r, FromAll next r ∧ loop_to_f nf next = some (r, ()) := by
  have h8 := hW.few
  have hz := zero_good hW
  have hm : next.length ≤ maxLen := Nat.le_trans h8 (by decide)
  simp only [loop_to_f, loop_to_p, from_F hW (show 12 ≤ nf by omega) hz, Option.bind_some]
  have c : (decide (0 ≤ (List.length next : Int)) && decide ((List.length next : Int) ≤ (List.length next : Int)) && decide ((List.length next : Int) ≤ ((lim : Nat) : Int))) = true := by
    rw [decide_eq_true (show (0 : Int) ≤ (List.length next : Int) by omega), decide_eq_true (Int.le_refl _), decide_eq_true (show (List.length next : Int) ≤ ((lim : Nat) : Int) by show (List.length next : Int) ≤ ((4294967296 : Nat) : Int); omega)]; rfl
  rw [c, cond_true, Int.toNat_natCast]
  have key := loop_inv (n := next.length) (F := fun fu u (r : List Int) => loop_to_l0 nf next (wd (reach nf next 0 (-1)), ()) fu r u) (fun u r => FromOK next u 0 r) ?_ nf 0 (List.replicate next.length 0) (Int.le_refl _) (by omega) (by omega) ?_
  · obtain ⟨fu, r, hr, h⟩ := key
    refine ⟨r, ⟨hr.1, fun j a b => ⟨(hr.2 j a b).1, fun x => ((hr.2 j a b).2 x).trans ?_⟩⟩, h.trans ?_⟩
    · simp only [Upto, List.take_zero, List.not_mem_nil, and_false, or_false]
      exact ⟨fun ⟨h1, _, h2⟩ => ⟨h1, h2⟩, fun ⟨h1, h2⟩ => ⟨h1, (come_good hW h1).2, h2⟩⟩
    · simp only [loop_to_l0]
      unfold loop_to_b0
      simp
  · intro fu u r a b hr
    obtain ⟨r', h1, h2⟩ := to_l2 hW hn ⟨a, b⟩ hr (fun out t16 => loop_to_l0 nf next (wd (reach nf next 0 (-1)), ()) fu out t16)
    refine ⟨r', ?_, h1⟩
    simp only [loop_to_l0]
    unfold loop_to_b0
    simp only [b, decide_true, cond_true, inb_ok a b]
    exact h2
  · refine ⟨by simp, fun j a b => ?_⟩
    have e : (List.replicate next.length (0 : Int)).getD j.toNat 0 = 0 := by
      rw [List.getD_eq_getElem?_getD, List.getElem?_replicate]; split <;> rfl
    rw [e]
    refine ⟨W32_zero, fun x => ?_⟩
    rw [bt_zero]
    simp only [Upto, Bool.false_eq_true, List.take_zero, List.not_mem_nil, and_false, or_false, false_iff]
    rintro ⟨h1, h2, _⟩
    omega

/-- what is found so far -/
structure Got (next : List (List Int)) (head tail s : Int) : Prop where
  w : W32 s
  sound : ∀ k : Nat, bt s k = true → InLoop next head tail k
  h : bt s head.toNat = true
  t : bt s tail.toNat = true

theorem got_small (hW : WayOK next) {head tail s : Int} (hh : 0 ≤ head ∧ head < next.length) (h : Got next head tail s) {k : Nat} (hk : bt s k = true) : k < next.length := by
  rcases h.sound k hk with h1 | h1
  · omega
  · have := come_good hW h1.1; omega

/-- nothing leads in that is not in -/
theorem got_all (hW : WayOK next) {fr : List Int} (hf : FromAll next fr) {head tail s : Int} (hh : 0 ≤ head ∧ head < next.length) (ht : 0 ≤ tail ∧ tail < next.length) (h : Got next head tail s) (hc : ∀ m : Nat, m < next.length → (m : Int) ≠ head → bt s m = true → ∀ k, bt (fr.getD m 0) k = true → bt s k = true) (k : Nat) : bt s k = true ↔ InLoop next head tail k := by
  refine ⟨h.sound k, ?_⟩
  rintro (hk | ⟨h1, h2⟩)
  · rw [show k = head.toNat by omega]; exact h.h
  · have key : ∀ x, Path next head (k : Int) x → bt s x.toNat = true → bt s k = true := by
      intro x hp
      induction hp with
      | here _ => intro hx; exact hx
      | @step x j h3 h4 h5 ih =>
        intro hj
        have hx := path_good hW (come_good hW h1) h3
        have hxc : Come next x := by
          have : ∀ y, Path next head (k : Int) y → Come next y := fun y hy => by
            induction hy with
            | here _ => exact h1
            | step _ h6 _ ih2 => exact come_next hW ih2 h6
          exact this x h3
        have hjg := come_good hW (come_next hW hxc h4)
        refine ih (hc j.toNat (by omega) (by omega) hj x.toNat ?_)
        refine ((hf.2 j hjg.1 hjg.2).2 x.toNat).2 ?_
        rw [Int.toNat_of_nonneg hx.1]
        exact ⟨hxc, h4⟩
    exact key tail h2 h.t

/-- one round from start s0: up to t -/
structure Rnd (next : List (List Int)) (fr : List Int) (head tail s0 : Int) (t : Int) (s : Int) : Prop where
  got : Got next head tail s
  up : ∀ k, bt s0 k = true → bt s k = true
  same : s = s0 → ∀ m : Nat, (m : Int) < t → (m : Int) ≠ head → bt s0 m = true → ∀ k, bt (fr.getD m 0) k = true → bt s0 k = true

theorem loops_l4 (hW : WayOK next) (hn : 100 ≤ nf) {fr : List Int} (hf : FromAll next fr) {t35 : Int} {head tail s0 : Int} {back : PL} {rr : PL × Int × Unit} (hp : back.getD t35.toNat (0, 0, ()) = (tail, head, ())) (hh : 0 ≤ head ∧ head < next.length)
    (h : Got next head tail s0) (g2 : PL → List Int → List Int → List Int → Int → Bool → Option (List Int × Int × Unit)) (g0 : PL → List Int → List Int → List Int → Int → Option (List Int × Int × Unit)) (rules out : List Int) :
    ∃ s, Rnd next fr head tail s0 next.length s ∧ loop_Loops_l4 nf back t35 s0 rr fr g2 g0 nf back rules fr out s0 0 = g2 back rules fr out s (s != s0) := by
  have h8 := hW.few
  have hm : fr.length ≤ maxLen := by rw [hf.1]; exact Nat.le_trans h8 (by decide)
  have key := loop_inv (n := fr.length) (F := fun fu t (s : Int) => loop_Loops_l4 nf back t35 s0 rr fr g2 g0 fu back rules fr out s t) (fun t s => Rnd next fr head tail s0 t s) ?_ nf 0 s0 (Int.le_refl _) (by omega) (by rw [hf.1]; omega)
    ⟨h, fun _ hk => hk, fun _ m hm => by omega⟩
  · obtain ⟨fu, s, hs, h5⟩ := key
    rw [hf.1] at hs
    refine ⟨s, hs, h5.trans ?_⟩
    simp only [loop_Loops_l4]
    unfold loop_Loops_b4
    simp
  · intro fu t s a b hs
    have hb : t < (next.length : Int) := by rw [← hf.1]; exact b
    obtain ⟨hfw, hfb⟩ := hf.2 t a hb
    have hshr := shr_and_beq1 hs.got.w a (show t < 32 by omega)
    simp only [and32] at hshr
    refine ⟨if t ≠ head ∧ bt s t.toNat = true then or32 s (fr.getD t.toNat 0) else s, ?_, ?_⟩
    · simp only [loop_Loops_l4]
      unfold loop_Loops_b4
      simp only [b, decide_true, cond_true, inb_ok a b, hp, a, hshr, wrap_step a b hm]
      by_cases h1 : t = head
      · simp [h1]
      · simp only [bne_t h1, cond_true, ne_eq, h1, not_false_eq_true, true_and]
        cases bt s t.toNat
        · rfl
        · rfl
    · split
      · rename_i hc
        have hbt := fun k => or32_bt hs.got.w hfw k
        refine ⟨⟨or32_w _ _, fun k hk => ?_, by rw [hbt, hs.got.h]; rfl, by rw [hbt, hs.got.t]; rfl⟩, fun k hk => by rw [hbt, hs.up k hk]; rfl, fun he m hmt hmh hm0 k hk => ?_⟩
        · rw [hbt, Bool.or_eq_true] at hk
          rcases hk with hk | hk
          · exact hs.got.sound k hk
          · obtain ⟨h1, h2⟩ := (hfb k).1 hk
            have h3 := hs.got.sound t.toNat hc.2
            rw [Int.toNat_of_nonneg a] at h3
            rcases h3 with h3 | h3
            · exact absurd h3 hc.1
            · by_cases hkh : (k : Int) = head
              · exact .inl hkh
              · exact .inr ⟨h1, Path.trans (.step (.here hkh) h2 hc.1) h3.2⟩
        · by_cases hmt2 : (m : Int) < t
          · refine hs.same ?_ m hmt2 hmh hm0 k hk
            refine bt_ext hs.got.w h.w fun i _ => ?_
            cases hi : bt s0 i with
            | true => exact hs.up i hi
            | false =>
              have := hbt i
              rw [he, hi] at this
              cases hsi : bt s i with
              | false => rfl
              | true => rw [hsi] at this; cases this
          · have hmt3 : m = t.toNat := by omega
            have := hbt k
            rw [he, ← hmt3, hk, Bool.or_true] at this
            exact this
      · rename_i hc
        refine ⟨hs.got, hs.up, fun he m hmt hmh hm0 k hk => ?_⟩
        by_cases hmt2 : (m : Int) < t
        · exact hs.same he m hmt2 hmh hm0 k hk
        · exfalso
          have hmt3 : (m : Int) = t := by omega
          refine hc ⟨hmt3 ▸ hmh, ?_⟩
          rw [he, ← hmt3]; exact hm0

theorem loops_l2 (hW : WayOK next) (hn : 100 ≤ nf) {fr : List Int} (hf : FromAll next fr) {t35 : Int} {head tail : Int} {back : PL} {rr : PL × Int × Unit} (hp : back.getD t35.toNat (0, 0, ()) = (tail, head, ())) (hh : 0 ≤ head ∧ head < next.length) (ht : 0 ≤ tail ∧ tail < next.length)
    (g0 : PL → List Int → List Int → List Int → Int → Option (List Int × Int × Unit)) (rules out : List Int) (ho : out.length = next.length) (ht35 : IntKind.i64.wrap (t35 + 1) = t35 + 1) : ∀ (fu : Nat) (s0 : Int), Got next head tail s0 → 34 ≤ fu + cnt (bt s0) 32 →
    ∃ s, (W32 s ∧ ∀ k : Nat, bt s k = true ↔ InLoop next head tail k) ∧ loop_Loops_l2 nf back t35 rr g0 fu back rules fr out s0 true = g0 back rules fr (out.set head.toNat (or32 (out.getD head.toNat 0) s)) (t35 + 1)
  | 0, s0, h, hfu => by
    have := cnt_n (bt s0) 32
    omega
  | fu + 1, s0, h, hfu => by
    have hcn := cnt_n (bt s0) 32
    obtain ⟨s, hs, h5⟩ := loops_l4 (rr := rr) hW hn hf hp hh h (fun back2 rules2 from'2 out2 set' more => loop_Loops_l2 nf back t35 rr g0 fu back2 rules2 from'2 out2 set' more) g0 rules out
    have hdef : loop_Loops_l2 nf back t35 rr g0 (fu + 1) back rules fr out s0 true = loop_Loops_l2 nf back t35 rr g0 fu back rules fr out s (s != s0) := by
      rw [loop_Loops_l2]
      unfold loop_Loops_b2
      rw [cond_true]
      exact h5
    rw [hdef]
    by_cases he : s = s0
    · subst he
      rw [bne_self_eq_false]
      refine ⟨s, ⟨h.w, fun k => got_all hW hf hh ht h (fun m hm hmh hm0 k hk => hs.same rfl m (by omega) hmh hm0 k hk) k⟩, ?_⟩
      obtain ⟨fu, rfl⟩ : ∃ f, fu = f + 1 := ⟨fu - 1, by omega⟩
      rw [loop_Loops_l2]
      unfold loop_Loops_b2
      simp only [cond_false, hp, ho, inb_ok hh.1 hh.2, cond_true, ht35]
      rfl
    · rw [bne_t he]
      refine loops_l2 hW hn hf hp hh ht g0 rules out ho ht35 fu s hs.got ?_
      have : cnt (bt s0) 32 < cnt (bt s) 32 := by
        refine cnt_lt (fun k _ hk => hs.up k hk) ?_
        apply Classical.byContradiction
        intro hne
        refine he (bt_ext hs.got.w h.w fun k hk => ?_)
        cases h1 : bt s k with
        | false =>
          cases h2 : bt s0 k with
          | false => rfl
          | true => rw [hs.up k h2] at h1; cases h1
        | true =>
          cases h2 : bt s0 k with
          | true => rfl
          | false => exact absurd ⟨k, hk, h2, h1⟩ hne
      omega

/-- the loops of all heads, by the first pairs -/
def OutOK (nf : Nat) (next : List (List Int)) (l : PL) (out : List Int) : Prop := out.length = next.length ∧ ∀ h : Int, 0 ≤ h → h < next.length → W32 (out.getD h.toNat 0) ∧ ∀ k : Nat, bt (out.getD h.toNat 0) k = true ↔ InL nf next l h k

theorem loops_l0 (hW : WayOK next) (hn : 100 ≤ nf) {fr rules : List Int} (hf : FromAll next fr) (hr : RulesOK nf next rules) {out : List Int} (ho : OutOK nf next [] out) :
    ∃ out', OutOK nf next (backs next) out' ∧ loop_Loops_l0 nf (backs next, 0, ()) nf (backs next) rules fr out 0 = some (out', 0, ()) := by
  have h8 := hW.few
  have hl := backs_len hW
  have hm : (backs next).length ≤ maxLen := Nat.le_trans hl (by decide)
  have key := loop_inv (n := (backs next).length) (F := fun fu t (o : List Int) => loop_Loops_l0 nf (backs next, 0, ()) fu (backs next) rules fr o t) (fun t o => OutOK nf next ((backs next).take t.toNat) o) ?_ nf 0 out (Int.le_refl _) (by omega) (by omega) (by simpa using ho)
  · obtain ⟨fu, s, hs, h⟩ := key
    refine ⟨s, by simpa using hs, h.trans ?_⟩
    simp only [loop_Loops_l0]
    unfold loop_Loops_b0
    simp
  · intro fu t o a b ho
    obtain ⟨⟨tail, head, _⟩, hp⟩ : ∃ p, p = (backs next).getD t.toNat (0, 0, ()) := ⟨_, rfl⟩
    have hg := backs_good (getD_mem (d := ((0, 0, ()) : Int × Int × Unit)) a b)
    rw [← hp] at hg
    obtain ⟨ht, hh⟩ := hg
    have ht1 : 0 ≤ tail := ht.1
    have ht2 : tail < next.length := ht.2
    have hh1 : 0 ≤ head := hh.1
    have hh2 : head < next.length := hh.2
    have hb := rules_bit hW hr ht hh
    simp only [and32] at hb
    have hsnoc := take_snoc (d := ((0, 0, ()) : Int × Int × Unit)) a b
    rw [← hp] at hsnoc
    cases hd : domB nf next head tail with
    | false =>
      refine ⟨o, ?_, ho.1, fun h c d => ⟨(ho.2 h c d).1, fun k => ((ho.2 h c d).2 k).trans ?_⟩⟩
      · simp only [loop_Loops_l0]
        unfold loop_Loops_b0
        simp only [b, decide_true, cond_true, inb_ok a b, ← hp, hr.1, inb_ok ht.1 ht.2, hh.1, hb, wrap_step a b hm]
        rw [hd]; rfl
      · rw [hsnoc, InL.snoc]
        refine ⟨.inl, ?_⟩
        rintro (h1 | ⟨h1, h2, _⟩)
        · exact h1
        · have h1 : head = h := h1
          subst h1
          rw [hd] at h2; cases h2
    | true =>
      have hdom := (domB_iff hW (show 12 ≤ nf by omega)).1 hd
      have h1w := one_w hh1 (show head < 32 by omega)
      have h2w := one_w ht1 (show tail < 32 by omega)
      have hgot : Got next head tail (or32 (shlI .u32 1 head) (shlI .u32 1 tail)) := by
        have hbt := fun k => or32_bt h1w h2w k
        simp only [one_bt hh1 (show head < 32 by omega), one_bt ht1 (show tail < 32 by omega)] at hbt
        refine ⟨or32_w _ _, fun k hk => ?_, by rw [hbt]; simp, by rw [hbt]; simp⟩
        rw [hbt, Bool.or_eq_true, decide_eq_true_eq, decide_eq_true_eq] at hk
        by_cases hkh : (k : Int) = head
        · exact .inl hkh
        · have hkt : (k : Int) = tail := by omega
          rw [hkt] at hkh ⊢
          exact .inr ⟨hdom.2.1, .here hkh⟩
      obtain ⟨s, ⟨hsw, hsb⟩, h5⟩ := loops_l2 (rr := (backs next, 0, ())) hW hn hf hp.symm ⟨hh1, hh2⟩ ⟨ht1, ht2⟩ (fun back rules from' out t35 => loop_Loops_l0 nf (backs next, 0, ()) fu back rules from' out t35) rules o ho.1 (wrap_step a b hm) nf _ hgot (by omega)
      refine ⟨o.set head.toNat (or32 (o.getD head.toNat 0) s), ?_, by simpa using ho.1, fun h c d => ?_⟩
      · simp only [loop_Loops_l0]
        unfold loop_Loops_b0
        simp only [b, decide_true, cond_true, inb_ok a b, ← hp, hr.1, inb_ok ht1 ht2, hh1, ht1, hb]
        rw [hd, Bool.not_true, cond_false]
        exact h5
      · obtain ⟨c1, c2⟩ := ho.2 h c d
        rw [getD_upd (by rw [ho.1]; omega), hsnoc]
        by_cases hhh : h.toNat = head.toNat
        · have hhe : h = head := by omega
          subst hhe
          rw [if_pos rfl]
          refine ⟨or32_w _ _, fun k => ?_⟩
          rw [or32_bt c1 hsw, Bool.or_eq_true, c2, hsb, InL.snoc]
          refine or_congr Iff.rfl ⟨fun h => ⟨rfl, hd, h⟩, fun h => h.2.2⟩
        · rw [if_neg hhh]
          refine ⟨c1, fun k => (c2 k).trans ?_⟩
          rw [InL.snoc]
          refine ⟨.inl, ?_⟩
          rintro (h1 | ⟨h1, _⟩)
          · exact h1
          · have h1 : head = h := h1
            exact absurd (by rw [h1]) hhh

theorem loops_F (h : wayCode next = 0) : ∃ out, OutOK 100000000000 next (backs next) out ∧ loop_Loops_f 100000000000 next = some (out, 0, ()) := by
  have hW := wayCode_ok h
  have h8 := hW.few
  obtain ⟨rules, hr, hr2⟩ := rules_F hW (nf := 100000000000) (Nat.le_refl _)
  obtain ⟨fr, hf, hf2⟩ := to_F hW (nf := 100000000000) (by omega)
  obtain ⟨out, ho, ho2⟩ := loops_l0 (nf := 100000000000) hW (by omega) hf hr (out := List.replicate next.length 0) ⟨by simp, fun h a b => by
    have e : (List.replicate next.length (0 : Int)).getD h.toNat 0 = 0 := by
      rw [List.getD_eq_getElem?_getD, List.getElem?_replicate]; split <;> rfl
    rw [e]
    refine ⟨W32_zero, fun k => ?_⟩
    rw [bt_zero]
    simp [InL]⟩
  refine ⟨out, ho, ?_⟩
  have c : (decide (0 ≤ (List.length next : Int)) && decide ((List.length next : Int) ≤ (List.length next : Int)) && decide ((List.length next : Int) ≤ ((lim : Nat) : Int))) = true := by
    rw [decide_eq_true (show (0 : Int) ≤ (List.length next : Int) by omega), decide_eq_true (Int.le_refl _), decide_eq_true (show (List.length next : Int) ≤ ((lim : Nat) : Int) by show (List.length next : Int) ≤ ((4294967296 : Nat) : Int); omega)]; rfl
  simp only [loop_Loops_f, loop_Loops_p, back_F h, hr2, hf2, Option.bind_some, bne_self_eq_false, cond_false, c, cond_true, Int.toNat_natCast]
  exact ho2
theorem loops_bad {nf : Nat} (hn : 9 ≤ nf) (h : wayCode next ≠ 0) : loop_Loops_f nf next = some ([], wayCode next, ()) := by
  simp only [loop_Loops_f, loop_Loops_p, back_bad hn h, Option.bind_some, bne_t h, cond_true]
end Go.Proofs.Ytccbcbhiblohgaa
