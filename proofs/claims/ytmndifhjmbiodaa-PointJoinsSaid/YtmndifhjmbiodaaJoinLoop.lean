/- Classes of variables: step after step, until nothing is new. -/
import Derived.Test.YtmndifhjmbiodaaJoinWalk
namespace Go.Proofs.Ytmndifhjmbiodaa
open Go Go.Ab S

theorem step_F {nf n : Nat} {vars : Int} {l : List Stm} (hv : vars = n) (h8 : n ≤ 8) (hn : 20 ≤ nf) (hg : GoodJ vars l) {F T : List Int} (h : WF n F T) (hs : SndJ vars l (rl n F T)) {p : Stm} (hp : p ∈ l) :
    ∃ F' T', MoveJ vars l n F T F' T' ∧ RuleJ p (rl n F' T') ∧ point_classes_step_f nf (F, T, ()) p = some (some (F', T', ()), ()) := by
  have lF := h.lenF
  have lT := h.lenT
  obtain ⟨k1, k4, a0, a1, b0, b1⟩ := hg p hp
  rw [hv] at a1 b1
  obtain ⟨⟨A0, A1⟩, rA⟩ := h.of p.2.1 a0 a1
  obtain ⟨⟨B0, B1⟩, rB⟩ := h.of p.2.2.1 b0 b1
  have hTA := h.to _ A0 A1
  have hTB := h.to _ B0 B1
  have sA := SndJ.self h hv hs a0 a1
  have sB := SndJ.self h hv hs b0 b1
  have eA : List.getD (F, T, ()).1 p.2.1.toNat 0 = gt F p.2.1 := rfl
  have eB : List.getD (F, T, ()).1 p.2.2.1.toNat 0 = gt F p.2.2.1 := rfl
  have eTA : List.getD (F, T, ()).2.1 (gt F p.2.1).toNat 0 = gt T (gt F p.2.1) := rfl
  have eTB : List.getD (F, T, ()).2.1 (gt F p.2.2.1).toNat 0 = gt T (gt F p.2.2.1) := rfl
  have i1 : inb p.2.1 (List.length (F, T, ()).1) = true := inb_ok a0 (by show p.2.1 < (F.length : Int); omega)
  have i2 : inb p.2.2.1 (List.length (F, T, ()).1) = true := inb_ok b0 (by show p.2.2.1 < (F.length : Int); omega)
  have i3 : inb (gt F p.2.1) (List.length (F, T, ()).2.1) = true := inb_ok A0 (by show gt F p.2.1 < (T.length : Int); omega)
  have i4 : inb (gt F p.2.2.1) (List.length (F, T, ()).2.1) = true := inb_ok B0 (by show gt F p.2.2.1 < (T.length : Int); omega)
  have oneA : rl n F T true p.2.1 (gt F p.2.1) = true := rl_one.2 ⟨⟨a0, a1⟩, ⟨A0, A1⟩, rA.symm⟩
  have oneB : rl n F T true p.2.2.1 (gt F p.2.2.1) = true := rl_one.2 ⟨⟨b0, b1⟩, ⟨B0, B1⟩, rB.symm⟩
  have hto : ∀ i : Int, 0 ≤ i → i < n → 0 ≤ gt T (gt F i) → rl n F T false i (gt T (gt F i)) = true := fun i i0 i1 h0 => by
    obtain ⟨f1, f2⟩ := h.of i i0 i1
    rcases h.to _ f1.1 f1.2 with h1 | ⟨h1, h2⟩
    · omega
    · exact rl_to.2 ⟨⟨i0, i1⟩, h1, h0, h2⟩
  simp only [point_classes_step_f, point_classes_step_p, i1, i2, i3, i4, cond_true, eA, eB, eTA, eTB]
  by_cases c1 : p.1 = 1
  · rw [c1, beq_self_eq_true, cond_true]
    have hAB : Jn vars l false (gt F p.2.1) (gt F p.2.2.1) := .to2 sA.2 (.to1 (.addr hp c1) sB.1)
    have rule : ∀ {R : R2}, R false p.2.1 p.2.2.1 = true → RuleJ p R := fun hr => ⟨fun _ => hr, fun h => by omega, fun h => by omega, fun h => by omega⟩
    by_cases hx : gt T (gt F p.2.1) < 0
    · have hx1 : gt T (gt F p.2.1) = -1 := by
        rcases hTA with h1 | ⟨h1, _⟩
        · exact h1
        · omega
      obtain ⟨m, hgt⟩ := set_move (l := l) h hv hs ⟨A0, A1⟩ rA hx1 (.inr ⟨⟨B0, B1⟩, rB⟩) fun _ => hAB
      refine ⟨F, _, m, rule (rl_to.2 ⟨⟨a0, a1⟩, ⟨b0, b1⟩, ?_, ?_⟩), by rw [decide_eq_true hx, cond_true]⟩
      · rw [hgt _ A0, if_pos rfl]; exact B0
      · rw [hgt _ A0, if_pos rfl]
    · have hT' : (0 ≤ gt T (gt F p.2.1) ∧ gt T (gt F p.2.1) < n) ∧ gt F (gt T (gt F p.2.1)) = gt T (gt F p.2.1) := hTA.resolve_left (by omega)
      have ht := hto p.2.1 a0 a1 hT'.1.1
      obtain ⟨F', T', r1, r2, r3⟩ := join_F (nf := nf) hv h8 hn h hs hT' ⟨⟨B0, B1⟩, rB⟩ (.both (.to2 sA.2 (hs _ _ _ ht)) hAB)
      have hB := r1.wf.base
      refine ⟨F', T', r1, rule (hB.to1 _ _ _ (hB.to1 _ _ _ (r1.le _ _ _ ht) r2) (rl_symm (r1.le _ _ _ oneB))), ?_⟩
      rw [decide_eq_false hx, cond_false, r3]; rfl
  · rw [beq_f c1, cond_false]
    by_cases c2 : p.1 = 2
    · rw [c2, beq_self_eq_true, cond_true]
      obtain ⟨F', T', r1, r2, r3⟩ := same_F (nf := nf) hv h8 hn h hs ⟨⟨A0, A1⟩, rA⟩ ⟨⟨B0, B1⟩, rB⟩ (fun z => ⟨fun hz => .to2 sB.2 (.copy1 hp c2 (.to2 sA.1 hz)), fun hz => .to2 sA.2 (.copy2 hp c2 (.to2 sB.1 hz))⟩)
      have hB := r1.wf.base
      have oA := r1.le _ _ _ oneA
      have oB := r1.le _ _ _ oneB
      refine ⟨F', T', r1, ⟨fun h => by omega, fun _ x => ⟨fun hx => ?_, fun hx => ?_⟩, fun h => by omega, fun h => by omega⟩, by rw [r3]; rfl⟩
      · exact hB.to2 _ _ _ oB ((r2 x).1 (hB.to2 _ _ _ (rl_symm oA) hx))
      · exact hB.to2 _ _ _ oA ((r2 x).2 (hB.to2 _ _ _ (rl_symm oB) hx))
    · rw [beq_f c2, cond_false]
      by_cases c3 : p.1 = 3
      · rw [c3, beq_self_eq_true, cond_true]
        by_cases hx : gt T (gt F p.2.2.1) ≥ 0
        · have hT' : (0 ≤ gt T (gt F p.2.2.1) ∧ gt T (gt F p.2.2.1) < n) ∧ gt F (gt T (gt F p.2.2.1)) = gt T (gt F p.2.2.1) := hTB.resolve_left (by omega)
          have ht := hto p.2.2.1 b0 b1 hT'.1.1
          have hj := hs _ _ _ ht
          obtain ⟨F', T', r1, r2, r3⟩ := same_F (nf := nf) hv h8 hn h hs ⟨⟨A0, A1⟩, rA⟩ hT' (fun z => ⟨fun hz => .load1 hp c3 hj (.to2 sA.1 hz), fun hz => .to2 sA.2 (.load2 hp c3 hj hz)⟩)
          have hB := r1.wf.base
          have oA := r1.le _ _ _ oneA
          have ht' := r1.le _ _ _ ht
          refine ⟨F', T', r1, ⟨fun h => by omega, fun h => by omega, fun _ j hj x => ?_, fun h => by omega⟩, by rw [decide_eq_true hx, cond_true, r3]; rfl⟩
          have hkj := hB.both _ _ _ ht' hj
          exact ⟨fun hx => hB.to2 _ _ _ (rl_symm hkj) ((r2 x).1 (hB.to2 _ _ _ (rl_symm oA) hx)), fun hx => hB.to2 _ _ _ oA ((r2 x).2 (hB.to2 _ _ _ hkj hx))⟩
        · refine ⟨F, T, MoveJ.same h hs, ⟨fun h => by omega, fun h => by omega, fun _ j hj x => ?_, fun h => by omega⟩, by rw [decide_eq_false hx, cond_false]⟩
          have := (rl_to.1 hj).2.2.1
          omega
      · rw [beq_f c3, cond_false]
        have c4 : p.1 = 4 := by omega
        rw [c4, beq_self_eq_true, cond_true]
        by_cases hx : gt T (gt F p.2.1) ≥ 0
        · have hT' : (0 ≤ gt T (gt F p.2.1) ∧ gt T (gt F p.2.1) < n) ∧ gt F (gt T (gt F p.2.1)) = gt T (gt F p.2.1) := hTA.resolve_left (by omega)
          have ht := hto p.2.1 a0 a1 hT'.1.1
          have hj := hs _ _ _ ht
          obtain ⟨F', T', r1, r2, r3⟩ := same_F (nf := nf) hv h8 hn h hs hT' ⟨⟨B0, B1⟩, rB⟩ (fun z => ⟨fun hz => .to2 sB.2 (.stor1 hp c4 hj hz), fun hz => .stor2 hp c4 hj (.to2 sB.1 hz)⟩)
          have hB := r1.wf.base
          have oB := r1.le _ _ _ oneB
          have ht' := r1.le _ _ _ ht
          refine ⟨F', T', r1, ⟨fun h => by omega, fun h => by omega, fun h => by omega, fun _ i hi x => ?_⟩, by rw [decide_eq_true hx, cond_true, r3]; rfl⟩
          have hki := hB.both _ _ _ ht' hi
          exact ⟨fun hx => hB.to2 _ _ _ oB ((r2 x).1 (hB.to2 _ _ _ hki hx)), fun hx => hB.to2 _ _ _ (rl_symm hki) ((r2 x).2 (hB.to2 _ _ _ (rl_symm oB) hx))⟩
        · refine ⟨F, T, MoveJ.same h hs, ⟨fun h => by omega, fun h => by omega, fun h => by omega, fun _ i hi x => ?_⟩, by rw [decide_eq_false hx, cond_false]⟩
          have := (rl_to.1 hi).2.2.1
          omega

/-- one round over all steps -/
theorem joined_l4 {nf n : Nat} {vars : Int} {l : List Stm} (hv : vars = n) (h8 : n ≤ 8) (hn : 20 ≤ nf) (hg : GoodJ vars l) (hl : l.length ≤ 12) {F T : List Int} (h : WF n F T) (hs : SndJ vars l (rl n F T)) (g2 : Bool → List Int × List Int × Unit → Option (List Int × Int × Unit)) :
    ∃ F' T' m, MoveJ vars l n F T F' T' ∧ (m = false → F' = F ∧ T' = T ∧ ∀ p ∈ l, RuleJ p (rl n F T)) ∧ (m = true → meas F' T' < meas F T) ∧ point_Joined_l4 nf vars l g2 nf F T (F, T, ()) 0 = g2 m (F', T', ()) := by
  obtain ⟨fu', q, ⟨q1, q2, q3⟩, e⟩ := loop_inv (n := (l.length : Int)) (F := fun fu t (q : List Int × List Int × Unit) => point_Joined_l4 nf vars l g2 fu F T q t)
    (fun t q => MoveJ vars l n F T q.1 q.2.1 ∧ q.2.2 = () ∧ ∀ k : Nat, (k : Int) < t → k < l.length → ∃ F1 T1, leJ (rl n F T) (rl n F1 T1) ∧ leJ (rl n F1 T1) (rl n q.1 q.2.1) ∧ RuleJ (l.getD k (0, 0, 0, ())) (rl n F1 T1)) (fun fu t q h0 ht hI => by
      obtain ⟨i1, i2, i3⟩ := hI
      have hp := getD_mem (d := ((0, 0, 0, ()) : Stm)) h0 ht
      obtain ⟨F', T', r1, r2, r3⟩ := step_F (nf := nf) hv h8 hn hg i1.wf i1.snd hp
      refine ⟨(F', T', ()), ?_, i1.trans r1, rfl, fun k hk hkl => ?_⟩
      · rw [point_Joined_l4, point_Joined_b4, inb_ok h0 ht, wrap_step h0 ht (Nat.le_trans hl (by decide)), show q = (q.1, q.2.1, ()) from rfl, r3]
        simp only [ht, decide_true, cond_true, Option.bind_some]
      · by_cases hkt : k = t.toNat
        · subst hkt
          exact ⟨F', T', (i1.trans r1).le, fun _ _ _ h => h, r2⟩
        · obtain ⟨F1, T1, a1, a2, a3⟩ := i3 k (by omega) hkl
          exact ⟨F1, T1, a1, fun t i j hij => r1.le t i j (a2 t i j hij), a3⟩) nf 0 (F, T, ()) (by omega) (by omega) (by omega) ⟨MoveJ.same h hs, rfl, fun k hk => by omega⟩
  have e1 : slices_Equal_f nf F q.1 = some (decide (F = q.1), ()) := equal32_F hn F q.1 (by rw [h.lenF, q1.wf.lenF]) (by rw [h.lenF]; omega)
  have e2 : slices_Equal_f nf T q.2.1 = some (decide (T = q.2.1), ()) := equal32_F hn T q.2.1 (by rw [h.lenT, q1.wf.lenT]) (by rw [h.lenT]; omega)
  have eend : point_Joined_l4 nf vars l g2 nf F T (F, T, ()) 0 = if F = q.1 ∧ T = q.2.1 then g2 false q else g2 true q := by
    rw [e, point_Joined_l4, point_Joined_b4]
    simp only [Int.lt_irrefl, decide_false, cond_false, e1, e2, Option.bind_some]
    by_cases c1 : F = q.1
    · by_cases c2 : T = q.2.1
      · simp [c1.symm, c2.symm]
      · simp [c1.symm, c2]
    · simp [c1]
  by_cases hc : F = q.1 ∧ T = q.2.1
  · rw [if_pos hc] at eend
    refine ⟨q.1, q.2.1, false, q1, fun _ => ⟨hc.1.symm, hc.2.symm, fun p hp => ?_⟩, fun h => (by cases h), eend⟩
    obtain ⟨k, hk, rfl⟩ := List.mem_iff_getElem.1 hp
    obtain ⟨F1, T1, a1, a2, a3⟩ := q3 k (by omega) hk
    rw [← hc.1, ← hc.2] at a2
    have : rl n F1 T1 = rl n F T := by
      funext t i j
      rw [Bool.eq_iff_iff]
      exact ⟨a2 t i j, a1 t i j⟩
    rw [this] at a3
    simpa [List.getD, hk] using a3
  · rw [if_neg hc] at eend
    refine ⟨q.1, q.2.1, true, q1, fun h => (by cases h), fun _ => ?_, eend⟩
    rcases q1.less with ⟨a, b⟩ | a
    · exact absurd ⟨a.symm, b.symm⟩ hc
    · exact a

/-- the words of what each points to -/
def OutJ (n : Nat) (P : Int → Int → Prop) (out : List Int) : Prop := out.length = n ∧ ∀ i : Nat, i < n → W32 (out.getD i 0) ∧ ∀ j : Nat, bt (out.getD i 0) j = true ↔ (j < n ∧ P i j)

theorem joined_l6 {nf n : Nat} (h8 : n ≤ 8) (hn : 20 ≤ nf) {F T : List Int} (h : WF n F T) : ∃ out, OutJ n (fun i j => rl n F T false i j = true) out ∧ point_Joined_l6 nf (F, T, ()) nf (List.replicate n 0) (F, T, ()) 0 = some (out, 0, ()) := by
  have lF := h.lenF
  have lT := h.lenT
  obtain ⟨fu', q, ⟨q1, q2, q3⟩, e⟩ := loop_inv (n := (n : Int)) (F := fun fu t (q : List Int × List Int × List Int × Unit) => point_Joined_l6 nf (F, T, ()) fu q.1 q.2 t)
    (fun t q => q.1.length = n ∧ q.2 = (F, T, ()) ∧ ∀ i : Nat, i < n → W32 (q.1.getD i 0) ∧ ∀ j : Nat, bt (q.1.getD i 0) j = true ↔ ((i : Int) < t ∧ j < n ∧ rl n F T false i j = true)) (fun fu t q h0 ht hI => by
      obtain ⟨i1, i2, i3⟩ := hI
      obtain ⟨t, rfl⟩ : ∃ k : Nat, t = (k : Int) := ⟨t.toNat, by omega⟩
      obtain ⟨f1, f2⟩ := h.of t h0 ht
      have hwt := wrap_step h0 ht (Nat.le_trans h8 (by decide))
      have eF : List.getD F t 0 = gt F t := by unfold gt; rw [Int.toNat_natCast]
      have eT : List.getD T (gt F t).toNat 0 = gt T (gt F t) := rfl
      obtain ⟨fu2, q2, ⟨r1, r2, r3⟩, e2⟩ := loop_inv (n := (n : Int)) (F := fun fu' u (q2 : List Int × List Int × List Int × Unit) => point_Joined_l8 nf t (F, T, ()) (F, T, ()) (fun out t294 t89 => point_Joined_l6 nf (F, T, ()) fu out t294 t89) fu' q2.1 q2.2 u)
        (fun u q2 => q2.1.length = n ∧ q2.2 = (F, T, ()) ∧ ∀ i : Nat, i < n → W32 (q2.1.getD i 0) ∧ ∀ j : Nat, bt (q2.1.getD i 0) j = true ↔ (((i : Int) < t ∨ (i = t ∧ (j : Int) < u)) ∧ j < n ∧ rl n F T false i j = true)) (fun fu' u q2 u0 u1 hI => by
          obtain ⟨j1, j2, j3⟩ := hI
          obtain ⟨u, rfl⟩ : ∃ k : Nat, u = (k : Int) := ⟨u.toNat, by omega⟩
          have hwu := wrap_step u0 u1 (Nat.le_trans h8 (by decide))
          have eU : List.getD F u 0 = gt F u := by unfold gt; rw [Int.toNat_natCast]
          have hrel : rl n F T false t u = true ↔ 0 ≤ gt T (gt F t) ∧ gt F u = gt T (gt F t) := by
            rw [rl_to]
            exact ⟨fun h => h.2.2, fun h => ⟨⟨h0, ht⟩, ⟨u0, u1⟩, h⟩⟩
          have hst : point_Joined_l8 nf t (F, T, ()) (F, T, ()) (fun out t294 t89 => point_Joined_l6 nf (F, T, ()) fu out t294 t89) (fu' + 1) q2.1 q2.2 u = point_Joined_b8 nf t (F, T, ()) (F, T, ()) (fun out t294 t89 => point_Joined_l6 nf (F, T, ()) fu out t294 t89) (point_Joined_l8 nf t (F, T, ()) (F, T, ()) (fun out t294 t89 => point_Joined_l6 nf (F, T, ()) fu out t294 t89) fu') q2.1 q2.2 u := rfl
          unfold point_Joined_b8 at hst
          rw [j2] at hst
          simp only [lF, u1, decide_true, cond_true, Int.toNat_natCast, eF, eT, eU, inb_ok (n := n) (t := (u : Int)) u0 u1, inb_ok (n := F.length) (t := (u : Int)) u0 (by omega), inb_ok (n := T.length) (t := gt F t) f1.1 (by omega), inb_ok (n := q2.1.length) (t := (t : Int)) h0 (by omega), u0, hwu] at hst
          by_cases hr : rl n F T false t u = true
          · obtain ⟨c1, c2⟩ := hrel.1 hr
            rw [decide_eq_true (show gt T (gt F t) ≥ 0 from c1), cond_true, c2, beq_self_eq_true, cond_true] at hst
            obtain ⟨w1, w2⟩ := j3 t (by omega)
            refine ⟨(q2.1.set t (or32 (q2.1.getD t 0) (shlI .u32 1 u)), (F, T, ())), by rw [j2, hst]; rfl, by simpa using j1, rfl, fun i hi => ?_⟩
            show W32 ((q2.1.set t _).getD i 0) ∧ _
            rw [getD_upd (by omega)]
            split
            · rename_i hit
              subst hit
              refine ⟨or32_w _ _, fun j => ?_⟩
              rw [or32_bt w1 (one_w (by omega) (by omega)), one_bt (by omega) (by omega), Int.toNat_natCast, Bool.or_eq_true, w2, decide_eq_true_eq]
              constructor
              · rintro (⟨a1 | ⟨_, a1⟩, a2⟩ | a1)
                · omega
                · exact ⟨.inr ⟨rfl, by omega⟩, a2⟩
                · subst a1; exact ⟨.inr ⟨rfl, by omega⟩, by omega, hr⟩
              · rintro ⟨a1 | ⟨_, a1⟩, a2, a3⟩
                · omega
                · by_cases hju : j = u
                  · exact .inr hju
                  · exact .inl ⟨.inr ⟨rfl, by omega⟩, a2, a3⟩
            · rename_i hit
              refine ⟨(j3 i hi).1, fun j => ?_⟩
              rw [(j3 i hi).2 j]
              constructor
              · rintro ⟨a1 | ⟨a1, _⟩, a2⟩
                · exact ⟨.inl a1, a2⟩
                · exact absurd a1 hit
              · rintro ⟨a1 | ⟨a1, _⟩, a2⟩
                · exact ⟨.inl a1, a2⟩
                · exact absurd a1 hit
          · have hres : point_Joined_l8 nf t (F, T, ()) (F, T, ()) (fun out t294 t89 => point_Joined_l6 nf (F, T, ()) fu out t294 t89) (fu' + 1) q2.1 (F, T, ()) u = point_Joined_l8 nf t (F, T, ()) (F, T, ()) (fun out t294 t89 => point_Joined_l6 nf (F, T, ()) fu out t294 t89) fu' q2.1 (F, T, ()) ((u : Int) + 1) := by
              rw [hst]
              by_cases c1 : gt T (gt F t) ≥ 0
              · rw [decide_eq_true c1, cond_true, beq_f (fun e => hr (hrel.2 ⟨c1, e⟩)), cond_false]
              · rw [decide_eq_false c1, cond_false]
            refine ⟨q2, by rw [j2]; exact hres, j1, j2, fun i hi => ⟨(j3 i hi).1, fun j => ?_⟩⟩
            rw [(j3 i hi).2 j]
            constructor
            · rintro ⟨a1 | ⟨a1, a2⟩, a3⟩
              · exact ⟨.inl a1, a3⟩
              · exact ⟨.inr ⟨a1, by omega⟩, a3⟩
            · rintro ⟨a1 | ⟨a1, a2⟩, a3⟩
              · exact ⟨.inl a1, a3⟩
              · refine ⟨.inr ⟨a1, ?_⟩, a3⟩
                by_cases hju : j = u
                · subst hju; subst a1; exact absurd a3.2 hr
                · omega) nf 0 (q.1, (F, T, ())) (by omega) (by omega) (by omega) ⟨i1, rfl, fun i hi => ⟨(i3 i hi).1, fun j => by
          rw [(i3 i hi).2 j]
          constructor
          · rintro ⟨a1, a2⟩; exact ⟨.inl a1, a2⟩
          · rintro ⟨a1 | ⟨_, a1⟩, a2⟩
            · exact ⟨a1, a2⟩
            · omega⟩⟩
      refine ⟨(q2.1, (F, T, ())), ?_, r1, rfl, fun i hi => ⟨(r3 i hi).1, fun j => ?_⟩⟩
      · rw [point_Joined_l6, point_Joined_b6, i2]
        simp only [lF, ht, decide_true, cond_true, inb_ok (n := n) (t := (t : Int)) h0 ht]
        rw [show point_Joined_l8 nf t (F, T, ()) (F, T, ()) (fun out t294 t89 => point_Joined_l6 nf (F, T, ()) fu out t294 t89) nf q.1 (F, T, ()) 0 = _ from e2, point_Joined_l8, point_Joined_b8, r2]
        simp only [lF, Int.lt_irrefl, decide_false, cond_false, hwt]
      · rw [(r3 i hi).2 j]
        constructor
        · rintro ⟨a1 | ⟨a1, _⟩, a2⟩
          · exact ⟨by omega, a2⟩
          · exact ⟨by omega, a2⟩
        · rintro ⟨a1, a2⟩
          by_cases hit : i = t
          · exact ⟨.inr ⟨hit, by omega⟩, a2⟩
          · exact ⟨.inl (by omega), a2⟩) nf 0 (List.replicate n 0, (F, T, ())) (by omega) (by omega) (by omega) ⟨by simp, rfl, fun i hi => by
        have : (List.replicate n (0 : Int)).getD i 0 = 0 := by rw [List.getD_eq_getElem?_getD, List.getElem?_replicate]; split <;> rfl
        show W32 ((List.replicate n (0 : Int)).getD i 0) ∧ _
        rw [this]
        refine ⟨W32_zero, fun j => ?_⟩
        rw [bt_zero]
        constructor
        · intro h; cases h
        · rintro ⟨a, _⟩; omega⟩
  refine ⟨q.1, ⟨q1, fun i hi => ⟨(q3 i hi).1, fun j => ?_⟩⟩, ?_⟩
  · rw [(q3 i hi).2 j]
    exact ⟨fun ⟨_, a⟩ => a, fun a => ⟨by omega, a⟩⟩
  · rw [show point_Joined_l6 nf (F, T, ()) nf (List.replicate n 0) (F, T, ()) 0 = _ from e, point_Joined_l6, point_Joined_b6]
    simp only [lF, Int.lt_irrefl, decide_false, cond_false]

theorem joined_l2 {nf n : Nat} {vars : Int} {l : List Stm} (hv : vars = n) (h8 : n ≤ 8) (hn : 20 ≤ nf) (hg : GoodJ vars l) (hl : l.length ≤ 12) : ∀ (fu : Nat) (F T : List Int), WF n F T → SndJ vars l (rl n F T) → meas F T + 2 ≤ fu →
    ∃ out, OutJ n (fun i j => Jn vars l false i j) out ∧ point_Joined_l2 nf vars l fu true (F, T, ()) = some (out, 0, ())
  | 0, F, T, _, _, hfu => by omega
  | fu + 1, F, T, h, hs, hfu => by
    obtain ⟨F', T', m, r1, r2, r3, r4⟩ := joined_l4 (nf := nf) hv h8 hn hg hl h hs (fun more t292 => point_Joined_l2 nf vars l fu more t292)
    have c1 : slices_Clone_f nf F = some (F, ()) := clone32_F nf F (by rw [h.lenF]; omega)
    have c2 : slices_Clone_f nf T = some (T, ()) := clone32_F nf T (by rw [h.lenT]; omega)
    have hst : point_Joined_l2 nf vars l (fu + 1) true (F, T, ()) = point_Joined_l2 nf vars l fu m (F', T', ()) := by
      rw [point_Joined_l2, point_Joined_b2, cond_true]
      simp only [c1, c2, Option.bind_some]
      exact r4
    rw [hst]
    cases m with
    | true =>
      have := r3 rfl
      exact joined_l2 hv h8 hn hg hl fu F' T' r1.wf r1.snd (by omega)
    | false =>
      obtain ⟨rfl, rfl, hr⟩ := r2 rfl
      obtain ⟨fu', rfl⟩ : ∃ k, fu = k + 1 := ⟨fu - 1, by omega⟩
      have hlim : vars ≤ (lim : Int) := by have : lim = 4294967296 := rfl; omega
      obtain ⟨out, o1, o2⟩ := joined_l6 (nf := nf) h8 hn h
      have hjn := jn_iff (vars := vars) (by rw [hv]; exact h.base) hr hs
      refine ⟨out, ⟨o1.1, fun i hi => ⟨(o1.2 i hi).1, fun j => ?_⟩⟩, ?_⟩
      · rw [(o1.2 i hi).2 j]
        show _ ∧ rl n F' T' false i j = true ↔ _ ∧ Jn vars l false i j
        rw [hjn]
      · rw [point_Joined_l2, point_Joined_b2, cond_false]
        simp only [show (0 : Int) ≤ vars by omega, Int.le_refl, hlim, decide_true, Bool.and_self, cond_true, show vars.toNat = n by omega]
        exact o2

theorem joined_F {n : Nat} {vars : Int} {l : List Stm} (hv : vars = n) (h8 : n ≤ 8) (h1 : 1 ≤ n) (hg : GoodJ vars l) (hl : l.length ≤ 12) (hc : stmCode vars l = 0) :
    ∃ out, OutJ n (fun i j => Jn vars l false i j) out ∧ point_Joined_f 400 vars l = some (out, 0, ()) := by
  have hw := (check_F (nf := 400) (by omega) vars l).1
  have hrep := repeat_F (vars := vars) (by omega) (by omega)
  obtain ⟨fu', q, ⟨q1, q2, q3⟩, e⟩ := loop_inv (n := (n : Int)) (F := fun fu t (q : List Int × List Int × Unit) => point_Joined_l0 400 vars l fu q t)
    (fun t q => (q.1.length : Int) = t ∧ q.2 = (List.replicate n (-1), ()) ∧ ∀ i : Nat, (i : Int) < t → q.1.getD i 0 = i) (fun fu t q h0 ht hI => by
      obtain ⟨i1, i2, i3⟩ := hI
      have hble : (q.1.length + [t].length).ble lim = true := ble_ok (by simp; omega)
      refine ⟨(q.1 ++ [t], q.2), ?_, by simp; omega, i2, fun i hi => ?_⟩
      · rw [point_Joined_l0, point_Joined_b0, wrap_step h0 ht (Nat.le_trans h8 (by decide)), show decide (t < vars) = true by rw [decide_eq_true_eq]; omega, hble]
        simp
      · show (q.1 ++ [t]).getD i 0 = i
        rw [List.getD_eq_getElem?_getD, List.getElem?_append]
        split
        · rename_i h2
          have := i3 i (by omega)
          rwa [List.getD_eq_getElem?_getD] at this
        · rename_i h2
          have : i - q.1.length = 0 := by omega
          rw [this]; simp; omega) 400 0 ([], List.replicate n (-1), ()) (by omega) (by omega) (by omega) ⟨rfl, rfl, fun i hi => by omega⟩
  have hF : ∀ i : Int, 0 ≤ i → i < n → gt q.1 i = i := fun i i0 i1 => by
    have := q3 i.toNat (by omega)
    unfold gt; rw [this]; omega
  have hT : ∀ i : Int, gt (List.replicate n (-1)) i = -1 ∨ gt (List.replicate n (-1)) i = 0 := fun i => by
    unfold gt
    rw [List.getD_eq_getElem?_getD, List.getElem?_replicate]
    split
    · exact .inl rfl
    · exact .inr rfl
  have hT2 : ∀ i : Int, 0 ≤ i → i < n → gt (List.replicate n (-1)) i = -1 := fun i i0 i1 => by
    unfold gt
    rw [List.getD_eq_getElem?_getD, List.getElem?_replicate, if_pos (by omega)]; rfl
  have hwf : WF n q.1 (List.replicate n (-1)) := ⟨by omega, by simp, fun i i0 i1 => by rw [hF i i0 i1]; exact ⟨⟨i0, i1⟩, hF i i0 i1⟩, fun i i0 i1 => .inl (hT2 i i0 i1)⟩
  have hs : SndJ vars l (rl n q.1 (List.replicate n (-1))) := fun t i j hij => by
    cases t with
    | true =>
      obtain ⟨a, b, c⟩ := rl_one.1 hij
      rw [hF i a.1 a.2, hF j b.1 b.2] at c
      subst c
      exact .refl a.1 (by omega)
    | false =>
      obtain ⟨a, b, c, d⟩ := rl_to.1 hij
      rw [hF i a.1 a.2, hT2 i a.1 a.2] at c
      omega
  have hm1 := names_le (F := q.1)
  have hm2 := unset_le (T := List.replicate n (-1))
  rw [hwf.lenF] at hm1
  rw [hwf.lenT] at hm2
  obtain ⟨out, o1, o2⟩ := joined_l2 (nf := 400) hv h8 (by omega) hg hl 400 q.1 (List.replicate n (-1)) hwf hs (by unfold meas; omega)
  refine ⟨out, o1, ?_⟩
  simp only [point_Joined_f, point_Joined_p, hw, hc, Option.bind_some, bne_self_eq_false, cond_false, hrep, show vars.toNat = n by omega]
  rw [show point_Joined_l0 400 vars l 400 ([], List.replicate n (-1), ()) 0 = _ from e, point_Joined_l0, point_Joined_b0, show decide ((n : Int) < vars) = false by rw [decide_eq_false_iff_not]; omega, cond_false, show q = (q.1, q.2) from rfl, q2]
  exact o2
end Go.Proofs.Ytmndifhjmbiodaa
