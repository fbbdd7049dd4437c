/- Programs of blocks: what is wrong with one. -/
import Derived.Test.YtokjogplnoeicaaSteps
namespace Go.Proofs.Ytokjogplnoeicaa
open Go Go.Ab S

abbrev Blk := List Step6 × Int × Int × Int × Unit

theorem bstep1_F (nf : Nat) (i c : Int) : block_step_1_f nf i c = some (decide (0 ≤ i) && decide (i < c), ()) := by
  simp only [block_step_1_f, block_step_1_p]
  by_cases h : 0 ≤ i <;> simp [h]

theorem bstep_F (nf : Nat) (regs : Int) (s : Step6) : block_step_f nf regs s = some (stepCode regs regs s, ()) := by
  obtain ⟨op, to, a, b, k, _⟩ := s
  simp only [block_step_f, block_step_p, stepCode, bstep1_F, Option.bind_some]
  by_cases o1 : op < 1
  · simp [o1]
  · by_cases o2 : op > 6
    · simp [o1, o2]
    · by_cases o3 : op = 1
      · subst o3
        by_cases k0 : k < 0
        · simp [k0]
        · by_cases k1 : k > 255
          · simp [k0, k1]
          · by_cases t0 : to < 0
            · simp [k0, k1, t0, show ¬ 0 ≤ to by omega]
            · by_cases t1 : to ≥ regs
              · simp [k0, k1, t0, t1, show 0 ≤ to by omega, show ¬ to < regs by omega]
              · simp [k0, k1, t0, t1, show 0 ≤ to by omega, show to < regs by omega]
      · by_cases o4 : op = 2
        · subst o4
          by_cases k0 : k < 0
          · simp [k0, show ¬ 0 ≤ k by omega]
          · by_cases k1 : k ≥ regs
            · simp [k0, k1, show 0 ≤ k by omega, show ¬ k < regs by omega]
            · by_cases t0 : to < 0
              · simp [k0, k1, t0, show 0 ≤ k by omega, show k < regs by omega, show ¬ 0 ≤ to by omega]
              · by_cases t1 : to ≥ regs
                · simp [k0, k1, t0, t1, show 0 ≤ k by omega, show k < regs by omega, show 0 ≤ to by omega, show ¬ to < regs by omega]
                · simp [k0, k1, t0, t1, show 0 ≤ k by omega, show k < regs by omega, show 0 ≤ to by omega, show to < regs by omega]
        · have o5 : op > 2 := by omega
          by_cases t0 : to < 0
          · simp [o1, o2, o3, o4, beq_f o3, beq_f o4, t0, show ¬ 0 ≤ to by omega]
          · by_cases t1 : to ≥ regs
            · simp [o1, o2, o3, o4, beq_f o3, beq_f o4, t0, t1, show 0 ≤ to by omega, show ¬ to < regs by omega]
            · by_cases a0 : a < 0
              · simp [o1, o2, o3, o4, o5, beq_f o3, beq_f o4, t0, t1, show 0 ≤ to by omega, show to < regs by omega, a0, show ¬ 0 ≤ a by omega]
              · by_cases a1 : a ≥ regs
                · simp [o1, o2, o3, o4, o5, beq_f o3, beq_f o4, t0, t1, show 0 ≤ to by omega, show to < regs by omega, a0, a1, show 0 ≤ a by omega, show ¬ a < regs by omega]
                · by_cases b0 : b < 0
                  · simp [o1, o2, o3, o4, o5, beq_f o3, beq_f o4, t0, t1, show 0 ≤ to by omega, show to < regs by omega, a0, a1, b0, show 0 ≤ a by omega, show a < regs by omega, show ¬ 0 ≤ b by omega]
                  · by_cases b1 : b ≥ regs
                    · simp [o1, o2, o3, o4, o5, beq_f o3, beq_f o4, t0, t1, show 0 ≤ to by omega, show to < regs by omega, a0, a1, b0, b1, show 0 ≤ a by omega, show a < regs by omega, show 0 ≤ b by omega, show ¬ b < regs by omega]
                    · simp [o1, o2, o3, o4, o5, beq_f o3, beq_f o4, t0, t1, show 0 ≤ to by omega, show to < regs by omega, a0, a1, b0, b1, show 0 ≤ a by omega, show a < regs by omega, show 0 ≤ b by omega, show b < regs by omega]

theorem goL_steps {vars regs : Int} {ρ : Type} {σ : Type} {step : Step6 → Int → σ → (σ → Option (Int × Unit)) → Option (Int × Unit)} {fin : σ → Option (Int × Unit)} {s : σ}
    (h : ∀ x t k, step x t s k = if stepCode vars regs x = 0 then k s else some (stepCode vars regs x, ())) : ∀ (l : List Step6) (t : Int), goL step fin l t s = if stepsGo vars regs l = 0 then fin s else some (stepsGo vars regs l, ())
  | [], _ => by simp [goL, stepsGo]
  | x :: r, t => by
    simp only [goL, h, goL_steps (ρ := ρ) h r, stepsGo]
    by_cases h1 : stepCode vars regs x = 0
    · simp [h1]
    · simp [h1]

/-- what is wrong with a block, of n -/
def blockCode (vars n : Int) (b : Blk) : Int :=
  if stepsGo vars vars b.1 = 0 then (if b.2.1 < -1 ∨ b.2.1 ≥ vars then 2 else if (¬ (0 ≤ b.2.2.1 ∧ b.2.2.1 < n) ∧ (b.2.2.1 ≠ -1 ∨ b.2.1 ≥ 0)) ∨ (b.2.1 ≥ 0 ∧ ¬ (0 ≤ b.2.2.2.1 ∧ b.2.2.2.1 < n)) then 3 else 0) else stepsGo vars vars b.1
def blocksGo (vars n : Int) : List Blk → Int
  | [] => 0
  | b :: r => if blockCode vars n b = 0 then blocksGo vars n r else blockCode vars n b
def manyGo : List Blk → Int → Int
  | [], m => m
  | b :: r, m => manyGo r (IntKind.i64.wrap (m + (b.1.length : Int)))
/-- what is wrong with a program -/
def progCode (vars : Int) (p : List Blk) : Int := if vars < 1 ∨ vars > 6 ∨ p.length < 1 ∨ p.length > 8 ∨ manyGo p 0 > 20 then 1 else blocksGo vars p.length p

theorem goL_blocks {vars n : Int} {σ : Type} {step : Blk → Int → σ → (σ → Option (Int × Unit)) → Option (Int × Unit)} {s : σ} : ∀ (l : List Blk) (t : Int),
    (∀ b ∈ l, ∀ t k, step b t s k = if blockCode vars n b = 0 then k s else some (blockCode vars n b, ())) → goL step (fun _ => some (0, ())) l t s = some (blocksGo vars n l, ())
  | [], _, _ => rfl
  | x :: r, t, h => by
    simp only [goL, h x (by simp), goL_blocks r _ fun b hb => h b (by simp [hb]), blocksGo]
    by_cases h1 : blockCode vars n x = 0
    · simp [h1]
    · simp [h1]

structure Fits (nf : Nat) (p : List Blk) : Prop where
  len : p.length ≤ maxLen
  fuel : p.length < nf
  codes : ∀ b ∈ p, b.1.length ≤ maxLen ∧ b.1.length < nf

variable {nf : Nat} {p : List Blk}

theorem pcheck_l4 (hn : 3 < nf) (hp : Fits nf p) {vars : Int} (hv : 1 ≤ vars) {t : Int} (h0 : 0 ≤ t) (ht : t < p.length) (g : Int → Option (Int × Unit)) :
    ref_ProgCheck_l4 nf vars p t g nf (p.getD t.toNat ([], 0, 0, 0, ())) 0 = if blockCode vars p.length (p.getD t.toNat ([], 0, 0, 0, ())) = 0 then g (t + 1) else some (blockCode vars p.length (p.getD t.toNat ([], 0, 0, 0, ())), ()) := by
  have hm : p.getD t.toNat ([], 0, 0, 0, ()) ∈ p := getD_mem h0 ht
  have hw := wrap_step h0 ht hp.len
  obtain ⟨hc1, hc2⟩ := hp.codes _ hm
  have hdef : ∀ fu (b : Blk) t', ref_ProgCheck_l4 nf vars p t g (fu + 1) b t' = ref_ProgCheck_b4 nf vars p t g (ref_ProgCheck_l4 nf vars p t g fu) b t' := fun _ _ _ => rfl
  unfold ref_ProgCheck_b4 at hdef
  generalize p.getD t.toNat ([], 0, 0, 0, ()) = b at hm hc1 hc2 hdef ⊢
  have h := loop_all (l := b.1) (d := (0, 0, 0, 0, 0, ())) (F := fun fu t' (_ : Unit) => ref_ProgCheck_l4 nf vars p t g fu b t')
    (fin := fun _ => if b.2.1 < -1 ∨ b.2.1 ≥ vars then some (2, ()) else if (¬ (0 ≤ b.2.2.1 ∧ b.2.2.1 < p.length) ∧ (b.2.2.1 ≠ -1 ∨ b.2.1 ≥ 0)) ∨ (b.2.1 ≥ 0 ∧ ¬ (0 ≤ b.2.2.2.1 ∧ b.2.2.2.1 < p.length)) then some (3, ()) else g (t + 1))
    (step := fun x _ s k => if stepCode vars vars x = 0 then k s else some (stepCode vars vars x, ())) ?_ ?_ nf () hc2
  · rw [show ref_ProgCheck_l4 nf vars p t g nf b 0 = _ from h, goL_steps (ρ := Unit) (vars := vars) (regs := vars) (fun x t k => rfl)]
    unfold blockCode
    by_cases s1 : stepsGo vars vars b.1 = 0
    · simp only [s1, if_true]
      by_cases t1 : b.2.1 < -1 ∨ b.2.1 ≥ vars
      · simp only [t1, if_true]; rfl
      · simp only [t1, if_false]
        split
        · rfl
        · rfl
    · simp only [s1, if_false]
  · intro fu t' s a1 a2
    rw [hdef]
    simp only [inb_ok a1 a2, wrap_step a1 a2 hc1, a2, decide_true, cond_true, stepCheck_F hn, Option.bind_some]
    by_cases s1 : stepCode vars vars (b.1.getD t'.toNat (0, 0, 0, 0, 0, ())) = 0
    · simp []
    · simp []
  · intro fu t' s a1
    obtain ⟨code, test, th, el, _⟩ := b
    rw [hdef]
    simp only at a1 ⊢
    simp only [a1, Int.lt_irrefl, decide_false, cond_false, hw, within2_F (nf := nf) vars [test] (by simp [maxLen]) (by simp; omega), within2_F (nf := nf) p.length [th] (by simp [maxLen]) (by simp; omega), within2_F (nf := nf) p.length [th, el] (by simp [maxLen]) (by simp; omega), Option.bind_some, within2, List.all_cons, List.all_nil, Bool.and_true]
    have hv' : ¬ (-1 : Int) ≥ vars := by omega
    by_cases c1 : test = -1
    · subst c1
      by_cases c2 : th = -1
      · subst c2
        simp [hv']
      · by_cases c3 : 0 ≤ th
        · by_cases c4 : th < p.length
          · simp [hv', c2, bne_t c2, c3, c4]
          · simp [hv', c2, bne_t c2, c3, c4]
        · simp [hv', c2, bne_t c2, c3]
    · by_cases c2 : test < -1
      · simp [bne_t c1, c2, show ¬ 0 ≤ test by omega]
      · have c3 : 0 ≤ test := by omega
        by_cases c4 : test ≥ vars
        · simp [bne_t c1, c2, c3, c4, show ¬ test < vars by omega]
        · have c5 : test < vars := by omega
          by_cases d1 : 0 ≤ th <;> by_cases d2 : th < p.length <;> by_cases d3 : 0 ≤ el <;> by_cases d4 : el < p.length <;> simp [bne_t c1, beq_f c1, c2, c3, c4, c5, d1, d2, d3, d4]

theorem there_F (nf : Nat) (i : Int) (c : List Blk) : block_Check_1_f nf i c = some (decide (0 ≤ i) && decide (i < c.length), ()) := by
  simp only [block_Check_1_f, block_Check_1_p]
  by_cases h : 0 ≤ i <;> simp [h]

theorem bcheck_l4 (hp : Fits nf p) {vars : Int} {t : Int} (h0 : 0 ≤ t) (ht : t < p.length) (g : List Blk → Int → Option (Int × Unit)) :
    block_Check_l4 nf vars p p t g nf p (p.getD t.toNat ([], 0, 0, 0, ())) 0 = if blockCode vars p.length (p.getD t.toNat ([], 0, 0, 0, ())) = 0 then g p (t + 1) else some (blockCode vars p.length (p.getD t.toNat ([], 0, 0, 0, ())), ()) := by
  have hm : p.getD t.toNat ([], 0, 0, 0, ()) ∈ p := getD_mem h0 ht
  have hw := wrap_step h0 ht hp.len
  obtain ⟨hc1, hc2⟩ := hp.codes _ hm
  have hdef : ∀ fu (b : Blk) t', block_Check_l4 nf vars p p t g (fu + 1) p b t' = block_Check_b4 nf vars p p t g (block_Check_l4 nf vars p p t g fu) p b t' := fun _ _ _ => rfl
  unfold block_Check_b4 at hdef
  generalize p.getD t.toNat ([], 0, 0, 0, ()) = b at hm hc1 hc2 hdef ⊢
  have h := loop_all (l := b.1) (d := (0, 0, 0, 0, 0, ())) (F := fun fu t' (_ : Unit) => block_Check_l4 nf vars p p t g fu p b t')
    (fin := fun _ => if b.2.1 < -1 ∨ b.2.1 ≥ vars then some (2, ()) else if (¬ (0 ≤ b.2.2.1 ∧ b.2.2.1 < p.length) ∧ (b.2.2.1 ≠ -1 ∨ b.2.1 ≥ 0)) ∨ (b.2.1 ≥ 0 ∧ ¬ (0 ≤ b.2.2.2.1 ∧ b.2.2.2.1 < p.length)) then some (3, ()) else g p (t + 1))
    (step := fun x _ s k => if stepCode vars vars x = 0 then k s else some (stepCode vars vars x, ())) ?_ ?_ nf () hc2
  · rw [show block_Check_l4 nf vars p p t g nf p b 0 = _ from h, goL_steps (ρ := Unit) (vars := vars) (regs := vars) (fun x t k => rfl)]
    unfold blockCode
    by_cases s1 : stepsGo vars vars b.1 = 0
    · simp only [s1, if_true]
      by_cases t1 : b.2.1 < -1 ∨ b.2.1 ≥ vars
      · simp only [t1, if_true]; rfl
      · simp only [t1, if_false]
        split
        · rfl
        · rfl
    · simp only [s1, if_false]
  · intro fu t' s a1 a2
    rw [hdef]
    simp only [inb_ok a1 a2, wrap_step a1 a2 hc1, a2, decide_true, cond_true, bstep_F, Option.bind_some]
    by_cases s1 : stepCode vars vars (b.1.getD t'.toNat (0, 0, 0, 0, 0, ())) = 0
    · rw [if_pos s1, s1]; rfl
    · rw [if_neg s1, bne_t s1]; rfl
  · intro fu t' s a1
    obtain ⟨code, test, th, el, _⟩ := b
    rw [hdef]
    simp only at a1 ⊢
    simp only [a1, Int.lt_irrefl, decide_false, cond_false, hw, there_F, Option.bind_some]
    by_cases c2 : test < -1
    · simp [c2]
    · by_cases c4 : test ≥ vars
      · simp [c2, c4]
      · by_cases c3 : 0 ≤ test
        · by_cases d1 : 0 ≤ th <;> by_cases d2 : th < p.length <;> by_cases d3 : 0 ≤ el <;> by_cases d4 : el < p.length <;> simp [c2, c3, c4, d1, d2, d3, d4]
        · by_cases c5 : th = -1
          · subst c5; simp [c2, c3, c4]
          · by_cases d1 : 0 ≤ th <;> by_cases d2 : th < p.length <;> simp [c2, c3, c4, d1, d2, c5, bne_t c5]

theorem bcheck_l2 (hp : Fits nf p) {vars : Int} : block_Check_l2 nf vars p p nf p 0 = some (blocksGo vars p.length p, ()) := by
  have h := loop_all (l := p) (d := ([], 0, 0, 0, ())) (F := fun fu t (_ : Unit) => block_Check_l2 nf vars p p fu p t) (fin := fun _ => some (0, ()))
    (step := fun b _ s k => if blockCode vars p.length b = 0 then k s else some (blockCode vars p.length b, ())) ?_ ?_ nf () hp.fuel
  · rw [show block_Check_l2 nf vars p p nf p 0 = _ from h]
    exact goL_blocks p 0 fun b _ t k => rfl
  · intro fu t s a b
    simp only [block_Check_l2, block_Check_b2]
    rw [inb_ok a b, bcheck_l4 hp a b]
    simp [b]
  · intro fu t s a
    simp [block_Check_l2, block_Check_b2, a]

theorem pcheck_l2 (hn : 3 < nf) (hp : Fits nf p) {vars : Int} (hv : 1 ≤ vars) : ref_ProgCheck_l2 nf vars p nf 0 = some (blocksGo vars p.length p, ()) := by
  have h := loop_all (l := p) (d := ([], 0, 0, 0, ())) (F := fun fu t (_ : Unit) => ref_ProgCheck_l2 nf vars p fu t) (fin := fun _ => some (0, ()))
    (step := fun b _ s k => if blockCode vars p.length b = 0 then k s else some (blockCode vars p.length b, ())) ?_ ?_ nf () hp.fuel
  · rw [show ref_ProgCheck_l2 nf vars p nf 0 = _ from h]
    exact goL_blocks p 0 fun b _ t k => rfl
  · intro fu t s a b
    simp only [ref_ProgCheck_l2, ref_ProgCheck_b2]
    rw [inb_ok a b, pcheck_l4 hn hp hv a b]
    simp [b]
  · intro fu t s a
    simp [ref_ProgCheck_l2, ref_ProgCheck_b2, a]

theorem goL_many {ρ : Type} {fin : Int → Option ρ} : ∀ (l : List Blk) (t m : Int), goL (fun (b : Blk) _ m k => k (IntKind.i64.wrap (m + (b.1.length : Int)))) fin l t m = fin (manyGo l m)
  | [], _, _ => rfl
  | b :: r, t, m => by simp only [goL, goL_many r, manyGo]

theorem block_Check_F (hp : Fits nf p) (vars : Int) : block_Check_f nf vars p = some (progCode vars p, ()) := by
  simp only [block_Check_f, block_Check_p]
  have h := loop_all (l := p) (d := ([], 0, 0, 0, ())) (F := fun fu t (m : Int) => block_Check_l0 nf vars p fu p m t)
    (fin := fun m => if vars < 1 ∨ vars > 6 ∨ p.length < 1 ∨ p.length > 8 ∨ m > 20 then some (1, ()) else some (blocksGo vars p.length p, ()))
    (step := fun b _ m k => k (IntKind.i64.wrap (m + (b.1.length : Int)))) ?_ ?_ nf 0 hp.fuel
  · rw [show block_Check_l0 nf vars p nf p 0 0 = _ from h, goL_many]
    unfold progCode
    split <;> rfl
  · intro fu t s a b
    simp only [block_Check_l0, block_Check_b0]
    rw [inb_ok a b, wrap_step a b hp.len]
    simp [b]
  · intro fu t m a
    simp only [block_Check_l0, block_Check_b0]
    rw [bcheck_l2 hp]
    have e1 : ((p.length : Int) < 1) ↔ p.length < 1 := by omega
    have e2 : ((p.length : Int) > 8) ↔ p.length > 8 := by omega
    simp only [a, Int.lt_irrefl, decide_false, cond_false, e1, e2]
    by_cases c1 : vars < 1
    · simp [c1]
    · by_cases c2 : vars > 6
      · simp [c1, c2]
      · by_cases c3 : p.length < 1
        · simp [c1, c2, c3]
        · by_cases c4 : p.length > 8
          · simp [c1, c2, c3, c4]
          · by_cases c5 : m > 20 <;> simp [c1, c2, c3, c4, c5]

theorem ref_ProgCheck_F (hn : 3 < nf) (hp : Fits nf p) (vars : Int) : ref_ProgCheck_f nf vars p = some (progCode vars p, ()) := by
  simp only [ref_ProgCheck_f, ref_ProgCheck_p]
  have h := loop_all (l := p) (d := ([], 0, 0, 0, ())) (F := fun fu t (m : Int) => ref_ProgCheck_l0 nf vars p fu m t)
    (fin := fun m => if vars < 1 ∨ vars > 6 ∨ p.length < 1 ∨ p.length > 8 ∨ m > 20 then some (1, ()) else some (blocksGo vars p.length p, ()))
    (step := fun b _ m k => k (IntKind.i64.wrap (m + (b.1.length : Int)))) ?_ ?_ nf 0 hp.fuel
  · rw [show ref_ProgCheck_l0 nf vars p nf 0 0 = _ from h, goL_many]
    unfold progCode
    split <;> rfl
  · intro fu t s a b
    simp only [ref_ProgCheck_l0, ref_ProgCheck_b0]
    rw [inb_ok a b, wrap_step a b hp.len]
    simp [b]
  · intro fu t m a
    simp only [ref_ProgCheck_l0, ref_ProgCheck_b0]
    have e1 : ((p.length : Int) < 1) ↔ p.length < 1 := by omega
    have e2 : ((p.length : Int) > 8) ↔ p.length > 8 := by omega
    simp only [a, Int.lt_irrefl, decide_false, cond_false, e1, e2]
    by_cases c1 : vars < 1
    · simp [c1]
    · rw [pcheck_l2 hn hp (by omega)]
      by_cases c2 : vars > 6
      · simp [c1, c2]
      · by_cases c3 : p.length < 1
        · simp [c1, c2, c3]
        · by_cases c4 : p.length > 8
          · simp [c1, c2, c3, c4]
          · by_cases c5 : m > 20 <;> simp [c1, c2, c3, c4, c5]

def fuelOf : List Blk → Nat
  | [] => 100
  | b :: r => b.1.length + fuelOf r + 1
theorem fuelOf_ok : ∀ (p : List Blk), p.length + 100 ≤ fuelOf p ∧ ∀ b ∈ p, b.1.length < fuelOf p
  | [] => ⟨Nat.le_refl _, fun b hb => by cases hb⟩
  | x :: r => by
    obtain ⟨h1, h2⟩ := fuelOf_ok r
    refine ⟨by simp only [fuelOf, List.length_cons]; omega, fun b hb => ?_⟩
    rcases List.mem_cons.1 hb with rfl | hb
    · simp only [fuelOf]; omega
    · have := h2 b hb
      simp only [fuelOf]; omega
theorem fits_of {nf : Nat} (h : fuelOf p ≤ nf) (h1 : p.length ≤ maxLen) (h2 : ∀ b ∈ p, b.1.length ≤ maxLen) : Fits nf p := by
  obtain ⟨h3, h4⟩ := fuelOf_ok p
  exact ⟨h1, by omega, fun b hb => ⟨h2 b hb, Nat.lt_of_lt_of_le (h4 b hb) h⟩⟩
end Go.Proofs.Ytokjogplnoeicaa
