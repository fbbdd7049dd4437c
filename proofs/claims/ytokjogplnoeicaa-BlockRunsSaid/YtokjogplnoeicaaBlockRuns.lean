/- block.Run goes as the document says. -/
import Derived.Test.YtokjogplnoeicaaDoing
import Derived.Test.YtokjogplnoeicaaAbLaw
namespace Go.Proofs.Ytokjogplnoeicaa
open Go Go.Ab S

variable {nf : Nat} {vars : Int} {p : List Blk}

theorem goes_alike (hv1 : 1 ≤ vars) (hv6 : vars ≤ 6) (hb : ∀ b ∈ p, blockCode vars p.length b = 0) (hfit : ∀ b ∈ p, b.1.length ≤ maxLen ∧ b.1.length < nf) (hp : p.length ≤ 8) : ∀ (fu fu' : Nat) (v was : List Int) (at' : Int), Vars vars v → was.length ≤ 200 → (at' = -1 ∨ (0 ≤ at' ∧ at' < p.length)) → 200 < was.length + fu → 200 < was.length + fu' →
    ∃ a b ok, a.length ≤ 6 ∧ b.length ≤ 200 ∧ block_Run_l0 nf p fu v was at' = some (a, b, if ok = true then 0 else 7, ()) ∧ ref_Goes_l0 nf p 200 fu' v was at' = some (a, b, ok, ()) ∧ (ok = false → a = [] ∧ b = []) := by
  intro fu
  induction fu with
  | zero => intro fu' v was at' hv h1 h2 h3; omega
  | succ fu ih =>
    intro fu' v was at' hv h1 h2 h3 h4
    obtain ⟨fu', rfl⟩ : ∃ k, fu' = k + 1 := ⟨fu' - 1, by omega⟩
    rw [block_Run_l0, block_Run_b0, ref_Goes_l0, ref_Goes_b0]
    rcases h2 with rfl | ⟨a0, a1⟩
    · refine ⟨v, was, true, by have := hv.len; omega, h1, ?_, ?_, fun h => by cases h⟩ <;> simp
    · have c1 : at' ≥ 0 := a0
      have c2 : ¬ at' = -1 := by omega
      by_cases hw : was.length = 200
      · have hw1 : ((was.length : Int) == 200) = true := by rw [hw]; rfl
        have hw2 : (was.length : Int) ≥ 200 := by omega
        refine ⟨[], [], false, by simp, by simp, ?_, ?_, fun _ => ⟨rfl, rfl⟩⟩
        · simp only [c1, decide_true, cond_true, hw1]
          rfl
        · simp only [bne_t c2, cond_true, hw2, decide_true]
      · have hw' : ¬ ((was.length : Int) = 200) := by omega
        have hw2 : ¬ ((was.length : Int) ≥ 200) := by omega
        have hbl : ∀ y : Int, (bimp false (!List.isEmpty [y]) && Nat.ble (was.length + [y].length) lim) = true := fun y => by rw [ble_ok (by simp; omega)]; rfl
        have hm := getD_mem (l := p) (d := B0) a0 a1
        obtain ⟨g1, g2, g3, g4, g5⟩ := blockCode_ok (hb _ hm)
        obtain ⟨f1, f2⟩ := hfit _ hm
        obtain ⟨d1, d2, d3⟩ := doing_F (nf := nf) hv1 hv6 (stepsGo_all g1) f1 f2 hv
        have go : ∀ j : Int, (j = -1 ∨ (0 ≤ j ∧ j < p.length)) → _ := fun j hj => ih fu' _ (was ++ [at']) j d3 (by simp; omega) hj (by simp; omega) (by simp; omega)
        simp only [c1, decide_true, cond_true, beq_f hw', cond_false, hbl, inb_ok a0 a1, d1, d2, Option.bind_some, bne_t c2, hw2, decide_false]
        by_cases t0 : (p.getD at'.toNat B0).2.1 ≥ 0
        · have hin := d3.inb t0 g3
          simp only [t0, decide_true, cond_true, hin]
          by_cases z : ((p.getD at'.toNat B0).1.foldl stpDo v).getD (p.getD at'.toNat B0).2.1.toNat 0 = 0
          · rw [z]
            exact go _ (.inr (g5 t0))
          · rw [beq_f z]
            exact go _ (g4.elim .inr fun h => .inl h.1)
        · simp only [t0, decide_false, cond_false]
          exact go _ (g4.elim .inr fun h => .inl h.1)

theorem goes_first (hp : 1 ≤ p.length) (v : List Int) : ref_Goes_f nf p v 200 = ref_Goes_l0 nf p 200 (nf + 1) v [] 0 := by
  rw [ref_Goes_l0, ref_Goes_b0, ref_Goes_f, ref_Goes_p]
  have h0 : ((0 : Int) != -1) = true := rfl
  have h1 : ∀ y : Int, (bimp false (!List.isEmpty [y]) && Nat.ble (List.length ([] : List Int) + [y].length) lim) = true := fun y => by rw [ble_ok (by simp)]; rfl
  simp only [h0, h1, cond_true, Int.toNat_zero]
  rfl

theorem blockRuns_aux {have' : List Int} (hp : p.length ≤ maxLen) (hs : ∀ b ∈ p, b.1.length ≤ maxLen) (hh : have'.length ≤ maxLen) (hn : fuelOf p + have'.length + 300 ≤ nf) : law_BlockRuns_f nf vars p have' = some (true, ()) := by
  have hfu := (fuelOf_ok p).1
  have hf := fits_of (nf := nf) (by omega) hp hs
  have hfit : ∀ b ∈ p, b.1.length ≤ maxLen ∧ b.1.length < nf := fun b hb => ⟨hs b hb, by have := (fuelOf_ok p).2 b hb; omega⟩
  have hfit' : ∀ b ∈ p, b.1.length ≤ maxLen ∧ b.1.length < nf := hfit
  have hnil : ref_Ints_f nf [] [] = some (true, ()) := by rw [ints_F [] [] (by simp) (by simp; omega)]; rfl
  simp only [law_BlockRuns_f, law_BlockRuns_p, block_Run_f, block_Run_p, law_progCode_f, law_progCode_p]
  rw [block_Check_F hf, ref_ProgCheck_F (by omega) hf, have_F _ _ hh (by omega), haveCheck_F _ _ hh (by omega)]
  simp only [Option.bind_some]
  by_cases h1 : progCode vars p = 0
  · obtain ⟨b1, b2, b3, b4, b5⟩ := progCode_ok h1
    simp only [h1, show ((0 : Int) != 0) = false from rfl, show ((0 : Int) == 0) = true from rfl, cond_false, cond_true, Option.bind_some]
    by_cases h2 : haveCode vars have' = 0
    · obtain ⟨v1, v2⟩ := haveCode_ok h2
      have hv : Vars vars have' := ⟨v1, v2⟩
      have hvn : (bimp false (!have'.isEmpty) && Nat.ble ((List.length ([] : List Unit)) + have'.length) lim) = true := by
        have : (!have'.isEmpty) = true := by
          cases have' with
          | nil => simp at v1; omega
          | cons x r => rfl
        rw [this, ble_ok (by simp; omega)]; rfl
      obtain ⟨a, b, ok, l1, l2, e1, e2, e3⟩ := goes_alike (nf := nf) (p := p) b1 b2 (blocksGo_ok b5) hfit b4 nf (nf + 1) have' [] 0 hv (by simp) (.inr ⟨by omega, by omega⟩) (by simp; omega) (by simp; omega)
      rw [goes_first (by omega), e2]
      have i1 : ∀ l : List Int, l.length ≤ 200 → ref_Ints_f nf l l = some (true, ()) := fun l hl => by rw [ints_F l l (Nat.le_trans hl (by decide)) (by omega)]; simp
      simp only [h2, show ((0 : Int) != 0) = false from rfl, show ((0 : Int) == 0) = true from rfl, cond_false, cond_true, Option.bind_some, hvn, List.nil_append, e1]
      cases ok with
      | true => simp [i1 a (by omega), i1 b l2]
      | false =>
        obtain ⟨rfl, rfl⟩ := e3 rfl
        simp [i1 [] (by simp)]
    · simp only [bne_t h2, beq_f h2, cond_true, cond_false, Option.bind_some, beq_self_eq_true, hnil]
  · simp only [bne_t h1, beq_f h1, cond_false, cond_true, Option.bind_some, beq_self_eq_true, hnil]

theorem blockRuns_law (x : denPs (lawPs [.int .i64, .sl (.pair (.sl (.pair (.int .i64) (.pair (.int .i64) (.pair (.int .i64) (.pair (.int .i64) (.pair (.int .i64) (.unit))))))) (.pair (.int .i64) (.pair (.int .i64) (.pair (.int .i64) (.unit))))), .sl (.int .i64)])) (h : wfPs [.int .i64, .sl (.pair (.sl (.pair (.int .i64) (.pair (.int .i64) (.pair (.int .i64) (.pair (.int .i64) (.pair (.int .i64) (.unit))))))) (.pair (.int .i64) (.pair (.int .i64) (.pair (.int .i64) (.unit))))), .sl (.int .i64)] x) : ∃ n, law_BlockRuns_F n x = some (true, ()) := by
  obtain ⟨vars, p, have', _⟩ := x
  obtain ⟨_, ⟨h1, h2⟩, ⟨h3, _⟩, _⟩ := h
  refine ⟨_, blockRuns_aux h1 (fun b hb => ?_) h3 (Nat.le_refl _)⟩
  obtain ⟨i, hi, rfl⟩ := List.mem_iff_getElem.1 hb
  have := h2 i hi
  have e : List.getD p i (dflt _) = p[i] := by simp [List.getD, hi]
  rw [e] at this
  exact this.1.1
end Go.Proofs.Ytokjogplnoeicaa
