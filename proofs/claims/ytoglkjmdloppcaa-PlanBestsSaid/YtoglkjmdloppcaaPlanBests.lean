/- The document's search over all choices, and that both tell the same number of turns. -/
import Derived.Test.YtoglkjmdloppcaaPlanSteps
import Derived.Test.YtoglkjmdloppcaaAbLaw
namespace Go.Proofs.Ytoglkjmdloppcaa
open Go Go.Ab S

variable {n hands : Int} {pairs : List Pr} {nf : Nat}

theorem wrapI {x : Int} (h0 : -1000000 ≤ x) (h1 : x ≤ 1000000) : IntKind.i64.wrap x = x := Go.IntWalk.i64_in _ ⟨by omega, by omega⟩
theorem pbit_F (nf : Nat) {w i : Int} (hw : W32 w) (h0 : 0 ≤ i) (h : i < 32) : ref_Bit_f nf w i = some (bt w i.toNat, ()) := by
  simp only [ref_Bit_f, ref_Bit_p]
  have h1 := and_one hw h0 h
  unfold and32 at h1
  rw [Go.IntWalk.u64_in i ⟨h0, by omega⟩]
  simp only [ge_iff_le, h0, h, decide_true, cond_true]
  rw [h1]
theorem psize_F (hn : 300 ≤ nf) {s : Int} (hs : W32 s) : ref_Size_f nf s = some ((sz s : Int), ()) := by
  simp only [ref_Size_f, ref_Size_p]
  have key := loop_inv (n := (32 : Int)) (F := fun fu t (q : Int) => ref_Size_l0 nf s fu q t)
    (fun t q => q = ((cnt (bt s) t.toNat : Nat) : Int)) ?_ nf 0 0 (Int.le_refl _) (by omega) (by omega) rfl
  · obtain ⟨fu', q, h1, h5⟩ := key
    subst h1
    rw [h5, ref_Size_l0, ref_Size_b0]
    simp [sz]
  · rintro fu t q ht0 ht1 rfl
    have hc := cnt_n (bt s) t.toNat
    have e : cnt (bt s) (t.toNat + 1) = cnt (bt s) t.toNat + (if bt s t.toNat = true then 1 else 0) := rfl
    refine ⟨_, ?_, rfl⟩
    rw [show (t + 1).toNat = t.toNat + 1 by omega, e, ref_Size_l0, ref_Size_b0, pbit_F nf hs ht0 ht1, wrapI (by omega) (by omega : t + 1 ≤ 1000000), wrapI (by omega) (by omega : ((cnt (bt s) t.toNat : Nat) : Int) + 1 ≤ 1000000)]
    simp only [ht1, decide_true, cond_true, Option.bind_some]
    cases bt s t.toNat <;> simp
theorem in_F (nf : Nat) {a b : Int} (ha : W32 a) (hb : W32 b) : ∃ q, ref_In_f nf a b = some (q, ()) ∧ (q = true ↔ Sub a b) := by
  refine ⟨_, rfl, ?_⟩
  show (or32 a b == b) = true ↔ _
  rw [beq_iff_eq]
  constructor
  · intro h i hi
    have := or32_bt ha hb i
    rw [h, hi] at this
    rw [this]; rfl
  · intro h
    refine bt_ext (or32_w _ _) hb fun i _ => ?_
    rw [or32_bt ha hb]
    cases h1 : bt a i with
    | true => rw [h i h1]; rfl
    | false => rfl

/-- in so many turns all can be done -/
def Can (n : Int) (pairs : List Pr) (hands : Int) : Nat → Int → Prop
  | 0, d => d = FU n
  | t + 1, d => d = FU n ∨ ∃ e, St n pairs hands d e ∧ Can n pairs hands t e
theorem can_full (t : Nat) : Can n pairs hands t (FU n) := by
  cases t with
  | zero => rfl
  | succ t => exact .inl rfl
theorem can_of_lev : ∀ (k j : Nat) (d : Int), Lev n pairs hands k d → Can n pairs hands j d → Can n pairs hands (k + j) 0
  | 0, j, d, h, hc => by
    have h : d = 0 := h
    rw [← h, Nat.zero_add]; exact hc
  | k + 1, j, d, ⟨e, h1, h2⟩, hc => by
    have := can_of_lev k (j + 1) e h1 (.inr ⟨d, h2, hc⟩)
    rwa [show k + 1 + j = k + (j + 1) by omega]
theorem lev_of_can : ∀ (j t : Nat) (d : Int), Lev n pairs hands t d → Can n pairs hands j d → ∃ m, m ≤ t + j ∧ Lev n pairs hands m (FU n)
  | 0, t, d, h, hc => by
    have hc : d = FU n := hc
    exact ⟨t, by omega, hc ▸ h⟩
  | j + 1, t, d, h, hc => by
    rcases hc with hc | ⟨e, h1, h2⟩
    · exact ⟨t, by omega, hc ▸ h⟩
    · obtain ⟨m, a, b⟩ := lev_of_can j (t + 1) e ⟨d, h, h1⟩ h2
      exact ⟨m, by omega, b⟩
theorem can_sz (h0 : 1 ≤ n) (h8 : n ≤ 8) (hh : 1 ≤ hands) : ∀ (t : Nat) (d : Int), InN n d → Can n pairs hands t d → n ≤ sz d + hands * t
  | 0, d, hd, hc => by
    have hc : d = FU n := hc
    have := (fu_in h0 h8).2.2
    rw [hc, this]; omega
  | t + 1, d, hd, hc => by
    have hmul : hands * ((t + 1 : Nat) : Int) = hands * (t : Int) + hands := by rw [show ((t + 1 : Nat) : Int) = (t : Int) + 1 by omega, Int.mul_add, Int.mul_one]
    have hnn : 0 ≤ hands * (t : Int) := Int.mul_nonneg (by omega) (by omega)
    rcases hc with hc | ⟨e, h1, h2⟩
    · have := (fu_in h0 h8).2.2
      rw [hc, this]; omega
    · obtain ⟨a, _, b⟩ := st_in hd h1
      have := can_sz h0 h8 hh t e a h2
      omega

/-- so many are done at once -/
theorem pick_most {w s : Int} (hs : W32 s) (hw : W32 w) (h : Sub s w) : ((sz s : Int) = hands ∨ ((sz s : Int) < hands ∧ s = w)) ↔ (sz s : Int) = if (sz w : Int) < hands then (sz w : Int) else hands := by
  have hle := sub_sz h
  constructor
  · rintro (h1 | ⟨h1, rfl⟩)
    · rw [if_neg (by omega)]; exact h1
    · rw [if_pos h1]
  · intro h1
    split at h1
    · rename_i hc
      exact .inr ⟨by omega, sub_eq hs hw h (by omega)⟩
    · exact .inl h1

theorem may_l2 (hlen : pairs.length ≤ 28) (h : PairsOK n pairs) (hn : 300 ≤ nf) {self : Int × List Pr × Int × Int × Int × Unit → Option (Bool × Unit)} {d : Int} (hd : W32 d) {turns may i : Int} (h0 : 0 ≤ i) (h1 : i < n) {g0 : Int → Int → Option (Bool × Unit)} :
    ref_Shortest_l2 nf self n pairs hands d turns may i g0 nf (!bt d i.toNat) 0 = (bif rdy n pairs (bt d) i.toNat then g0 (IntKind.u32.wrap (may + shlI .u32 1 i)) (i + 1) else g0 may (i + 1)) := by
  have h8 := h.few
  have hu : IntKind.u64.wrap i = i := wrap_u64 h0 (by omega)
  have hw : IntKind.i64.wrap (i + 1) = i + 1 := wrapI (by omega) (by omega)
  obtain ⟨fu', q, hq, e⟩ := loop_inv (n := (pairs.length : Int)) (F := fun fu t (q : Bool) => ref_Shortest_l2 nf self n pairs hands d turns may i g0 fu q t)
    (fun t q => q = true ↔ bt d i.toNat = false ∧ ∀ k : Int, 0 ≤ k → k < t → (pairs.getD k.toNat P0).2.1 = i → bt d (pairs.getD k.toNat P0).1.toNat = true) (fun fu t q t0 t1 hI => by
      have hwt : IntKind.i64.wrap (t + 1) = t + 1 := wrapI (by omega) (by omega)
      obtain ⟨⟨p0, p1⟩, _⟩ := h.inn _ (getD_mem (d := P0) t0 t1)
      have hP : pairs.getD t.toNat (0, 0, ()) = pairs.getD t.toNat P0 := rfl
      rw [ref_Shortest_l2, ref_Shortest_b2, inb_ok t0 t1, hwt, hP]
      simp only [t1, decide_true, cond_true]
      have hsplit : ∀ (R : Prop), (∀ k : Int, 0 ≤ k → k < t + 1 → (pairs.getD k.toNat P0).2.1 = i → bt d (pairs.getD k.toNat P0).1.toNat = true) ↔ (∀ k : Int, 0 ≤ k → k < t → (pairs.getD k.toNat P0).2.1 = i → bt d (pairs.getD k.toNat P0).1.toNat = true) ∧ ((pairs.getD t.toNat P0).2.1 = i → bt d (pairs.getD t.toNat P0).1.toNat = true) := fun _ => by
        constructor
        · intro hx
          exact ⟨fun k k0 k1 => hx k k0 (by omega), hx t t0 (by omega)⟩
        · rintro ⟨ha, hb⟩ k k0 k1
          by_cases hk : k < t
          · exact ha k k0 hk
          · have : k = t := by omega
            subst this; exact hb
      cases q with
      | false =>
        refine ⟨false, rfl, ?_⟩
        rw [hsplit True]
        constructor
        · intro hx; cases hx
        · rintro ⟨a, b, _⟩; exact hI.2 ⟨a, b⟩
      | true =>
        obtain ⟨a, b⟩ := hI.1 rfl
        rw [cond_true]
        by_cases hp : (pairs.getD t.toNat P0).2.1 = i
        · refine ⟨bt d (pairs.getD t.toNat P0).1.toNat, ?_, ?_⟩
          · rw [hp, bne_self_eq_false, cond_false, pbit_F nf hd p0 (by omega), Option.bind_some]
          · rw [hsplit True]
            exact ⟨fun hx => ⟨a, b, fun _ => hx⟩, fun hx => hx.2.2 hp⟩
        · refine ⟨true, by rw [bne_t hp, cond_true], ?_⟩
          rw [hsplit True]
          exact ⟨fun _ => ⟨a, b, fun hx => absurd hx hp⟩, fun _ => rfl⟩) nf 0 (!bt d i.toNat) (by omega) (by omega) (by omega) (by
        cases bt d i.toNat with
        | true => exact ⟨fun hx => (by cases hx), fun hx => (by cases hx.1)⟩
        | false => exact ⟨fun _ => ⟨rfl, fun k k0 k1 => by omega⟩, fun _ => rfl⟩)
  have hqr : q = rdy n pairs (bt d) i.toNat := by
    rw [Bool.eq_iff_iff, hq, rdy_iff]
    constructor
    · rintro ⟨a, b⟩
      refine ⟨by omega, a, fun j hj => ?_⟩
      obtain ⟨p, p1, p2, p3⟩ := hj
      obtain ⟨k, hk, rfl⟩ := List.mem_iff_getElem.1 p1
      have := b k (by omega) (by omega)
      rw [Int.toNat_natCast] at this
      have eg : pairs.getD k P0 = pairs[k] := by simp [List.getD, hk]
      rw [eg, p2, Int.toNat_natCast] at this
      exact this (by omega)
    · rintro ⟨_, a, b⟩
      refine ⟨a, fun k k0 k1 hk => ?_⟩
      have hm := getD_mem (d := P0) k0 k1
      obtain ⟨⟨p0, p1⟩, _⟩ := h.inn _ hm
      exact b _ ⟨_, hm, by omega, by omega⟩
  rw [e, ref_Shortest_l2, ref_Shortest_b2, hqr, hu, hw]
  simp only [Int.lt_irrefl, decide_false, cond_false, h0, decide_true, cond_true]

theorem may_l0 (h : PairsOK n pairs) (hn : 300 ≤ nf) {self : Int × List Pr × Int × Int × Int × Unit → Option (Bool × Unit)} {d : Int} (hd : InN n d) {turns : Int} {w : Int} (hw : IsMay n pairs d w) :
    ref_Shortest_l0 nf self n pairs hands d turns nf 0 0 = ref_Shortest_l4 nf self n pairs hands d turns w nf (if (sz w : Int) < hands then (sz w : Int) else hands) 1 := by
  have h1 := h.pos
  have h8 := h.few
  have hlen := h.len
  obtain ⟨fu', q, ⟨q1, q2⟩, e⟩ := loop_inv (n := n) (F := fun fu t (q : Int) => ref_Shortest_l0 nf self n pairs hands d turns fu q t)
    (fun t q => W32 q ∧ ∀ k : Nat, bt q k = (decide ((k : Int) < t) && rdy n pairs (bt d) k)) (fun fu t q t0 t1 hI => by
      obtain ⟨i1, i2⟩ := hI
      have hadd := add_bit i1 t0 (by omega : t < 32) (fun k hk => by rw [i2, decide_eq_false (by omega)]; rfl)
      have hstep : ref_Shortest_l0 nf self n pairs hands d turns (fu + 1) q t = ref_Shortest_l0 nf self n pairs hands d turns fu (bif rdy n pairs (bt d) t.toNat then or32 q (shlI .u32 1 t) else q) (t + 1) := by
        rw [ref_Shortest_l0, ref_Shortest_b0, pbit_F nf hd.1 t0 (by omega)]
        simp only [t1, decide_true, cond_true, Option.bind_some]
        have := may_l2 (nf := nf) (hands := hands) hlen h hn (self := self) hd.1 (turns := turns) (may := q) t0 t1 (g0 := fun may i => ref_Shortest_l0 nf self n pairs hands d turns fu may i)
        rw [this, hadd]
        cases rdy n pairs (bt d) t.toNat <;> rfl
      refine ⟨_, hstep, ?_, fun k => ?_⟩
      · cases rdy n pairs (bt d) t.toNat
        · exact i1
        · exact or32_w _ _
      · cases hr : rdy n pairs (bt d) t.toNat with
        | false =>
          rw [cond_false, i2]
          by_cases hk : k = t.toNat
          · rw [hk, hr]; simp
          · have : decide ((k : Int) < t) = decide ((k : Int) < t + 1) := decide_eq_decide.2 (by omega)
            rw [this]
        | true =>
          rw [cond_true, or32_bt i1 (one_w t0 (by omega)), one_bt t0 (by omega), i2]
          by_cases hk : k = t.toNat
          · rw [hk, hr, decide_eq_true rfl, decide_eq_true (by omega : ((t.toNat : Nat) : Int) < t + 1)]; simp
          · have : decide ((k : Int) < t) = decide ((k : Int) < t + 1) := decide_eq_decide.2 (by omega)
            rw [this, decide_eq_false hk, Bool.or_false]) nf 0 0 (by omega) (by omega) (by omega) ⟨W32_zero, fun k => by rw [bt_zero, decide_eq_false (by omega)]; rfl⟩
  have hqw : q = w := bt_ext q1 hw.1 fun k _ => by
    rw [q2, hw.2]
    cases hr : rdy n pairs (bt d) k with
    | false => simp
    | true => rw [decide_eq_true (rdy_iff.1 hr).1]; rfl
  rw [e, ref_Shortest_l0, ref_Shortest_b0, hqw, psize_F hn hw.1]
  simp only [Int.lt_irrefl, decide_false, cond_false, Option.bind_some]
  by_cases hc : (sz w : Int) < hands
  · rw [decide_eq_true hc, cond_true, if_pos hc]
  · rw [decide_eq_false hc, cond_false, if_neg hc]

theorem two_n (h0 : 1 ≤ n) (h8 : n ≤ 8) : (2 : Nat) ^ n.toNat ≤ 256 := Nat.le_trans (Nat.pow_le_pow_right (by decide) (show n.toNat ≤ 8 by omega)) (by decide)
open Classical in
theorem shortest_F (h : PairsOK n pairs) (ha : Acyc pairs) (hh : 1 ≤ hands) (hh8 : hands ≤ 8) {l : List Int} (hl : AheadOK n pairs l) : ∀ (t nf : Nat) (d : Int), 400 + t ≤ nf → (t : Int) ≤ n → InN n d → ∃ b, ref_Shortest_F nf (n, pairs, hands, d, (t : Int), ()) = some (b, ()) ∧ (b = true ↔ Can n pairs hands t d) := by
  intro t
  induction t with
  | zero =>
    intro nf d hnf ht hd
    obtain ⟨nf, rfl⟩ : ∃ k, nf = k + 1 := ⟨nf - 1, by omega⟩
    have h0 := h.pos
    have h8 := h.few
    have hu : IntKind.u64.wrap n = n := wrap_u64 (by omega) (by omega)
    simp only [ref_Shortest_F, ref_Shortest_f, ref_Shortest_p, hu, decide_eq_true (show 0 ≤ n by omega), cond_true]
    by_cases hf : d = FU n
    · refine ⟨true, ?_, fun _ => hf, fun _ => rfl⟩
      have : (d == IntKind.u32.wrap (shlI .u32 1 n - 1)) = true := by rw [beq_iff_eq]; exact hf
      rw [this, cond_true]
    · refine ⟨false, ?_, fun hx => (by cases hx), fun hx => absurd hx hf⟩
      have : (d == IntKind.u32.wrap (shlI .u32 1 n - 1)) = false := beq_f hf
      rw [this, cond_false]; rfl
  | succ t ih =>
    intro nf d hnf ht hd
    obtain ⟨nf, rfl⟩ : ∃ k, nf = k + 1 := ⟨nf - 1, by omega⟩
    have h0 := h.pos
    have h8 := h.few
    have hu : IntKind.u64.wrap n = n := wrap_u64 (by omega) (by omega)
    simp only [ref_Shortest_F, ref_Shortest_f, ref_Shortest_p, hu, decide_eq_true (show 0 ≤ n by omega), cond_true]
    by_cases hf : d = FU n
    · refine ⟨true, ?_, fun _ => .inl hf, fun _ => rfl⟩
      have : (d == IntKind.u32.wrap (shlI .u32 1 n - 1)) = true := by rw [beq_iff_eq]; exact hf
      rw [this, cond_true]
    · have e1 : (d == IntKind.u32.wrap (shlI .u32 1 n - 1)) = false := beq_f hf
      have e2 : (((t + 1 : Nat) : Int) == 0) = false := beq_f (by omega)
      rw [e1, cond_false, e2, cond_false, psize_F (by omega) hd.1, Option.bind_some]
      have hm0 : 0 ≤ hands * ((t + 1 : Nat) : Int) := Int.mul_nonneg (by omega) (by omega)
      have hm1 : hands * ((t + 1 : Nat) : Int) ≤ 8 * 8 := Int.mul_le_mul hh8 (by omega) (by omega) (by omega)
      have hz : sz d ≤ 32 := cnt_n _ _
      rw [wrapI (by omega : -1000000 ≤ n - (sz d : Int)) (by omega), wrapI (by omega : -1000000 ≤ hands * ((t + 1 : Nat) : Int)) (by omega)]
      by_cases hc : n - (sz d : Int) > hands * ((t + 1 : Nat) : Int)
      · refine ⟨false, by simp only [hc, decide_true, cond_true], fun hx => (by cases hx), fun hx => ?_⟩
        have := can_sz h0 h8 hh (t + 1) d hd hx
        omega
      · simp only [hc, decide_false, cond_false]
        obtain ⟨w, _, hw, hb⟩ := ready_F h (nf := 60) (Nat.le_refl _) hl hd.1
        have hmay : IsMay n pairs d w := ⟨hw, hb⟩
        rw [may_l0 h (by omega) hd hmay]
        generalize hmo : (if (sz w : Int) < hands then (sz w : Int) else hands) = most
        have h2n := two_n h0 h8
        have hsh : shlI .u32 1 n = ((2 ^ n.toNat : Nat) : Int) := shl_one (by omega) (by omega)
        have h1n : 1 ≤ 2 ^ n.toNat := Nat.one_le_two_pow
        have hsn : ∀ s : Int, 0 ≤ s → s < ((2 ^ n.toNat : Nat) : Int) → InN n s := fun s s0 s1 => by
          refine ⟨⟨s0, by omega⟩, fun i hi => ?_⟩
          apply Classical.byContradiction
          intro hin
          have : s.toNat.testBit i = false := Nat.testBit_lt_two_pow (Nat.lt_of_lt_of_le (show s.toNat < 2 ^ n.toNat by omega) (Nat.pow_le_pow_right (by decide) (by omega)))
          unfold bt at hi
          rw [this] at hi; cases hi
        have hor : ∀ s : Int, InN n s → InN n (or32 d s) := fun s hs => ⟨or32_w _ _, fun i hi => by
          rw [or32_bt hd.1 hs.1, Bool.or_eq_true] at hi
          exact hi.elim (hd.2 i) (hs.2 i)⟩
        have key := loop_first (n := ((2 ^ n.toNat : Nat) : Int)) (F := fun fu s => ref_Shortest_l4 nf (ref_Shortest_F nf) n pairs hands d ((t + 1 : Nat) : Int) w fu most s) (hit := fun _ => some (true, ())) (miss := some (false, ())) (fun s => decide (Sub s w ∧ (sz s : Int) = most ∧ Can n pairs hands t (or32 d s))) (fun fu s s0 s1 => by
          have hsi := hsn s s0 s1
          obtain ⟨qi, i1, i2⟩ := in_F nf hsi.1 hw
          obtain ⟨b, b1, b2⟩ := ih nf (or32 d s) (by omega) (by omega) (hor s hsi)
          have hw1 : IntKind.u32.wrap (s + 1) = s + 1 := W32.wrap ⟨by omega, by omega⟩
          have hw2 : IntKind.i64.wrap (((t + 1 : Nat) : Int) - 1) = (t : Int) := by rw [wrapI (by omega) (by omega)]; omega
          rw [ref_Shortest_l4, ref_Shortest_b4, hu, hsh, i1, psize_F (by omega) hsi.1, hw1, hw2]
          simp only [decide_eq_true (show 0 ≤ n by omega), s1, decide_true, cond_true, Option.bind_some]
          cases qi with
          | false =>
            have : ¬ Sub s w := fun hx => by have := i2.2 hx; cases this
            rw [decide_eq_false (fun hx => this hx.1), cond_false, cond_false]
          | true =>
            have hsub := i2.1 rfl
            rw [cond_true]
            by_cases hz : (sz s : Int) = most
            · rw [hz, beq_self_eq_true, cond_true]
              have b1' : ref_Shortest_F nf (n, pairs, hands, IntKind.u32.wrap ((BitVec.ofInt IntKind.u32.bits d ||| BitVec.ofInt IntKind.u32.bits s).toNat : Int), (t : Int), ()) = some (b, ()) := b1
              rw [b1', Option.bind_some]
              cases b with
              | true => rw [cond_true, decide_eq_true ⟨hsub, rfl, b2.1 rfl⟩, cond_true]
              | false =>
                have : ¬ Can n pairs hands t (or32 d s) := fun hx => by have := b2.2 hx; cases this
                rw [cond_false, decide_eq_false (fun hx => this hx.2.2), cond_false]
            · rw [beq_f hz, cond_false, decide_eq_false (fun hx => hz hx.2.1), cond_false]) (fun fu => by
          rw [ref_Shortest_l4, ref_Shortest_b4, hu, hsh]
          simp only [decide_eq_true (show 0 ≤ n by omega), Int.lt_irrefl, decide_false, cond_true, cond_false]) nf 1 (by omega) (by omega) (by omega)
        have key' : ref_Shortest_l4 nf (ref_Shortest_F nf) n pairs hands d ((t + 1 : Nat) : Int) w nf most 1 = _ := key
        rw [key']
        have hiff : Can n pairs hands (t + 1) d ↔ ∃ s : Int, 1 ≤ s ∧ s < ((2 ^ n.toNat : Nat) : Int) ∧ Sub s w ∧ (sz s : Int) = most ∧ Can n pairs hands t (or32 d s) := by
          constructor
          · rintro (hx | ⟨e, ⟨v, s, a1, ⟨a2, a3, a4, a5⟩, rfl⟩, hx⟩)
            · exact absurd hx hf
            · rw [may_uniq a1 hmay] at a4 a5
              rw [pick_most a2 hw a4, hmo] at a5
              refine ⟨s, by have := a2.1; omega, a2.small fun k hk => ?_, a4, a5, hx⟩
              cases hb : bt s k with
              | false => rfl
              | true => have := (may_in hmay (a4 k hb)).1; omega
          · rintro ⟨s, s1, s2, a, b, c⟩
            have hsi := hsn s (by omega) s2
            refine .inr ⟨or32 d s, ⟨w, s, hmay, ⟨hsi.1, by omega, a, ?_⟩, rfl⟩, c⟩
            rw [pick_most hsi.1 hw a, hmo]; exact b
        cases hq : findFrom (fun s => decide (Sub s w ∧ (sz s : Int) = most ∧ Can n pairs hands t (or32 d s))) (((2 ^ n.toNat : Nat) : Int) - 1).toNat 1 with
        | none =>
          have := findFrom_none hq
          refine ⟨false, rfl, fun hx => (by cases hx), fun hx => ?_⟩
          obtain ⟨s, s1, s2, s3⟩ := hiff.1 hx
          have := this s s1 (by omega)
          rw [decide_eq_false_iff_not] at this
          exact absurd s3 this
        | some s =>
          obtain ⟨s1, s2, s3⟩ := findFrom_some hq
          rw [decide_eq_true_eq] at s3
          exact ⟨true, rfl, fun _ => hiff.2 ⟨s, s1, by omega, s3⟩, fun _ => rfl⟩

theorem planBests_main (hn : 500 ≤ nf) (n : Int) (pairs : List Pr) (hands : Int) : law_PlanBests_f nf n pairs hands = some (true, ()) := by
  obtain ⟨l, h1, h2, h3⟩ := ahead_F (n := n) (pairs := pairs) (nf := nf) (by omega)
  simp only [law_PlanBests_f, law_PlanBests_p, plan_Best_f, plan_Best_p, h3, Option.bind_some, law_handsCode_f, law_handsCode_p, tasks_F (nf := nf) (by omega)]
  by_cases hc : taskCode n pairs = 0
  · have hok : PairsOK n pairs ∧ Acyc pairs := by
      unfold taskCode at hc
      split at hc
      · rename_i h0
        split at hc
        · rename_i ha; exact ⟨pairsCode_ok h0, ha⟩
        · omega
      · rename_i h0; exact absurd hc h0
    obtain ⟨h, ha⟩ := hok
    have hp := h.pos
    have h8 := h.few
    simp only [hc, show ((0 : Int) != 0) = false from rfl, cond_false, beq_self_eq_true, cond_true]
    by_cases c1 : hands < 1
    · simp [c1]
    · by_cases c2 : hands > 8
      · simp [c1, c2]
      · have hl := h1 hc
        obtain ⟨K, ⟨k1, k2⟩, k3, k4⟩ := lev_some h ha (by omega : 1 ≤ hands) hl
        have hM : MOK (insM (.int .u32) .bool [] 0 true) (Lev n pairs hands 0) := ⟨by simp [insM], by simp [insM], fun x => by simp [insM, Lev]⟩
        have hb := best_l0 (nf := nf) h (by omega) hl k2 k3 k4 nf 0 _ hM (by omega) (by omega)
        have hb' : plan_Best_l0 nf n hands nf l (insM (.int .u32) .bool [] 0 true) 0 = some ((K : Int), 0, ()) := hb
        have h0in : InN n 0 := (lev_in hp (show Lev n pairs hands 0 0 from rfl)).1
        obtain ⟨b, b1, b2⟩ := shortest_F (hands := hands) h ha (by omega) (by omega) hl K nf 0 (by omega) k2 h0in
        obtain ⟨c, e1, e2⟩ := shortest_F (hands := hands) h ha (by omega) (by omega) hl (K - 1) nf 0 (by omega) (by omega) h0in
        have hbt : b = true := b2.2 (by have := can_of_lev K 0 _ k3 rfl; exact this)
        have hcf : c = false := by
          cases c with
          | false => rfl
          | true =>
            obtain ⟨m, m1, m2⟩ := lev_of_can (K - 1) 0 0 rfl (e2.1 rfl)
            exact absurd m2 (k4 m (by omega))
        have hw : IntKind.i64.wrap ((K : Int) - 1) = ((K - 1 : Nat) : Int) := by rw [wrapI (by omega) (by omega)]; omega
        simp only [c1, c2, decide_false, cond_false, Option.bind_some, beq_self_eq_true, cond_true, hb', bne_self_eq_false, show (K : Int) > 0 by omega, k2, decide_true, b1, hbt, hw, e1, hcf, Bool.not_false]
  · simp [bne_t hc, beq_f hc]

theorem planBests_law (x : denPs (lawPs [.int .i64, .sl (.pair (.int .i64) (.pair (.int .i64) (.unit))), .int .i64])) (_ : wfPs [.int .i64, .sl (.pair (.int .i64) (.pair (.int .i64) (.unit))), .int .i64] x) : ∃ n, law_PlanBests_F n x = some (true, ()) := by
  obtain ⟨n, pairs, hands, _⟩ := x
  exact ⟨500, planBests_main (Nat.le_refl _) n pairs hands⟩
end Go.Proofs.Ytoglkjmdloppcaa
