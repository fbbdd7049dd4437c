/- Which variables are live ahead of each block. -/
import Derived.Test.YtokjogplnoeicaaLiveSolve
import Derived.Test.YtokjogplnoeicaaAbLaw
namespace Go.Proofs.Ytokjogplnoeicaa
open Go Go.Ab S

variable {nf : Nat} {n want : Int} {p : List Blk}

def wantC (vars : Int) (p : List Blk) (want : Int) : Int := if progCode vars p = 0 then (if want < ((2 ^ vars.toNat : Nat) : Int) then 0 else 4) else progCode vars p
theorem shr_zero {w i : Int} (hw : W32 w) (h0 : 0 ≤ i) (h1 : i < 32) : shrI .u32 w i = 0 ↔ w < ((2 ^ i.toNat : Nat) : Int) := by
  rw [shr_nat hw h0 h1, Nat.shiftRight_eq_div_pow]
  have hp : 0 < 2 ^ i.toNat := Nat.two_pow_pos _
  have hw0 := hw.1
  constructor
  · intro h
    have h2 : w.toNat / 2 ^ i.toNat = 0 := by omega
    have := (Nat.div_eq_zero_iff_lt hp).1 h2
    omega
  · intro h
    have h2 : w.toNat < 2 ^ i.toNat := by omega
    rw [Nat.div_eq_of_lt h2]; rfl
theorem lwrong_F (hp : Fits nf p) {vars : Int} (hw : W32 want) : live_wrong_f nf vars p want = some (wantC vars p want, ()) := by
  simp only [live_wrong_f, live_wrong_p, block_Check_F hp, Option.bind_some, wantC]
  by_cases h : progCode vars p = 0
  · obtain ⟨b1, b2, _⟩ := progCode_ok h
    have h0 : 0 ≤ vars := by omega
    simp only [h, bne_self_eq_false, cond_false, h0, decide_true, cond_true, if_true]
    by_cases c : want < ((2 ^ vars.toNat : Nat) : Int)
    · rw [(shr_zero hw h0 (by omega)).2 c, if_pos c]; rfl
    · rw [bne_t (fun e => c ((shr_zero hw h0 (by omega)).1 e)), if_neg c]; rfl
  · rw [if_neg h, bne_t h, cond_true]
theorem wantCode_F (hn : 3 < nf) (hp : Fits nf p) {vars : Int} : law_wantCode_f nf vars p want = some (wantC vars p want, ()) := by
  simp only [law_wantCode_f, law_wantCode_p, ref_ProgCheck_F hn hp, Option.bind_some, wantC]
  by_cases h : progCode vars p = 0
  · obtain ⟨b1, b2, _⟩ := progCode_ok h
    rw [if_pos h, h, beq_self_eq_true, cond_true, fits_F nf (by omega) (by omega), Option.bind_some]
    by_cases c : want < ((2 ^ vars.toNat : Nat) : Int)
    · rw [if_pos c, decide_eq_true c]; rfl
    · rw [if_neg c, decide_eq_false c]; rfl
  · rw [if_neg h, beq_f h, cond_false]

/-- no other variables are live -/
theorem live_small (hp : Good n p) (hs : ∀ v : Nat, bt want v = true → (v : Int) < n) {v : Nat} {x : Spot} (h : LiveP p want v x) : Place p x → (v : Int) < n := by
  induction h with
  | hit hh =>
    rename_i x
    intro hx
    have hok := hp.ok _ (blk_mem hx.1.1 hx.1.2)
    obtain ⟨hsg, b1, b2, b3, b4⟩ := blockCode_ok hok
    rcases hh with ⟨h1, h2⟩ | ⟨_, h2 | ⟨_, _, h2⟩⟩
    · exact (rd_in (stepsGo_all hsg _ (getD_mem (d := S0) hx.2.1 h1)) _ h2).2
    · omega
    · rw [Int.toNat_natCast] at h2; exact hs v h2
  | step hy _ ih => exact fun hx => ih (succ_place hp hx _ hy)

theorem tells_l2 (hp : Good n p) (hw : W32 want) (hn : 400 ≤ nf) (hs : ∀ v : Nat, bt want v = true → (v : Int) < n) {R : List Int} (hR : Ws p.length R) (hL : ∀ i : Nat, i < p.length → ∀ v : Nat, (bt (R.getD i 0) v = true ↔ LiveP p want v ((i : Int), 0, ())))
    {i : Int} (h0 : 0 ≤ i) (h1 : i < (p.length : Int)) {r : List Int × Int × Unit} {g0 : List Int → Int → Option (Bool × Unit)} : law_LiveTells_l2 nf n p want r i g0 nf R 0 = g0 R (i + 1) := by
  have hn1 := hp.n1
  have hn6 := hp.n6
  have hp8 := hp.p8
  have hil : i < (R.length : Int) := by rw [hR.1]; exact h1
  have hit : i.toNat < p.length := by omega
  have hplace : Place p (i, 0, ()) := ⟨⟨h0, h1⟩, Int.le_refl _, by simp [codeLen]⟩
  have hii : ((i.toNat : Nat) : Int) = i := by omega
  obtain ⟨fu', _, _, e⟩ := loop_inv (n := n) (F := fun fu v (_ : Unit) => law_LiveTells_l2 nf n p want r i g0 fu R v) (fun _ _ => True) (fun fu v _ v0 v1 _ => by
    refine ⟨(), ?_, trivial⟩
    obtain ⟨b, hb1, hb2⟩ := rlive_F hp hw v0 hn hplace
    rw [law_LiveTells_l2, law_LiveTells_b2, inb_ok h0 hil, bit_F nf (hR.get _) v0]
    simp only [v1, decide_true, cond_true, Option.bind_some]
    rw [hb1, Option.bind_some, wrap_nn (x := v + 1) (by omega) (by omega)]
    have : bt (R.getD i.toNat 0) v.toNat = b := by
      have h2 := hL i.toNat hit v.toNat
      rw [show ((v.toNat : Nat) : Int) = v by omega, hii, ← hb2] at h2
      cases b with
      | true => exact h2.2 rfl
      | false =>
        cases hq : bt (R.getD i.toNat 0) v.toNat with
        | false => rfl
        | true => exact absurd (h2.1 hq) (by simp)
    rw [this, bne_self_eq_false, cond_false]) nf 0 () (by omega) (by omega) (by omega) trivial
  have hfit : R.getD i.toNat 0 < ((2 ^ n.toNat : Nat) : Int) := (hR.get _).small fun k hk => by
    cases hq : bt (R.getD i.toNat 0) k with
    | false => rfl
    | true =>
      have h2 := (hL i.toNat hit k).1 hq
      rw [hii] at h2
      have := live_small hp hs h2 hplace
      omega
  rw [e, law_LiveTells_l2, law_LiveTells_b2, inb_ok h0 hil]
  simp only [Int.lt_irrefl, decide_false, cond_false, cond_true]
  rw [fits_F nf (by omega) (by omega), Option.bind_some, decide_eq_true hfit, wrap_nn (x := i + 1) (by omega) (by omega)]
  rfl

theorem liveTells_aux {vars : Int} (hp : p.length ≤ maxLen) (hs : ∀ b ∈ p, b.1.length ≤ 140737488355328) (hw : W32 want) (hn : fuelOf p + 500 ≤ nf) : law_LiveTells_f nf vars p want = some (true, ()) := by
  have hs' : ∀ b ∈ p, b.1.length ≤ maxLen := fun b hb => Nat.le_trans (hs b hb) (by decide)
  have hf := fits_of (nf := nf) (by omega) hp hs'
  simp only [law_LiveTells_f, law_LiveTells_p, live_In_f, live_In_p]
  rw [lwrong_F hf hw, wantCode_F (by omega) hf]
  simp only [Option.bind_some]
  by_cases hc : wantC vars p want = 0
  · have hpc : progCode vars p = 0 := by
      unfold wantC at hc
      split at hc
      · assumption
      · exact hc
    have hlt : want < ((2 ^ vars.toNat : Nat) : Int) := by
      unfold wantC at hc
      rw [if_pos hpc] at hc
      split at hc
      · assumption
      · cases hc
    have hg := good_of hpc hs
    have hg1 := hg.n1
    have hg6 := hg.n6
    have hp8 := hg.p8
    obtain ⟨R, r1, r2, r3, r4⟩ := solve_F (nf := nf) hg hw (by omega)
    have hsm : ∀ v : Nat, bt want v = true → (v : Int) < vars := fun v hv => by
      by_cases h : (v : Int) < vars
      · exact h
      · exfalso
        have := bt_small hw hlt (k := v) (by omega)
        rw [this] at hv; cases hv
    rw [hc]
    simp only [bne_self_eq_false, cond_false, r1, Option.bind_some]
    obtain ⟨fu', q, hq, e⟩ := loop_inv (n := (p.length : Int)) (F := fun fu t (l : List Int) => law_LiveTells_l0 nf vars p want (R, 0, ()) fu l t) (fun _ l => l = R) (fun fu t l h0 ht hl => by
      subst hl
      refine ⟨l, ?_, rfl⟩
      have hil : t < (l.length : Int) := by rw [r2.1]; exact ht
      rw [law_LiveTells_l0, law_LiveTells_b0]
      simp only [hil, ht, decide_true, cond_true]
      exact tells_l2 hg hw (by omega) hsm r2 r4 h0 ht) nf 0 R (by omega) (by omega) (by omega) rfl
    subst hq
    rw [e, law_LiveTells_l0, law_LiveTells_b0]
    have hl : q.length = p.length := r2.1
    simp [hl]
  · simp only [bne_t hc, cond_true, Option.bind_some, beq_self_eq_true]
    rfl

theorem liveTells_law (x : denPs (lawPs [.int .i64, .sl (.pair (.sl (.pair (.int .i64) (.pair (.int .i64) (.pair (.int .i64) (.pair (.int .i64) (.pair (.int .i64) (.unit))))))) (.pair (.int .i64) (.pair (.int .i64) (.pair (.int .i64) (.unit))))), .int .u32])) (h : wfPs [.int .i64, .sl (.pair (.sl (.pair (.int .i64) (.pair (.int .i64) (.pair (.int .i64) (.pair (.int .i64) (.pair (.int .i64) (.unit))))))) (.pair (.int .i64) (.pair (.int .i64) (.pair (.int .i64) (.unit))))), .int .u32] x) (hz : szPs [.int .i64, .sl (.pair (.sl (.pair (.int .i64) (.pair (.int .i64) (.pair (.int .i64) (.pair (.int .i64) (.pair (.int .i64) (.unit))))))) (.pair (.int .i64) (.pair (.int .i64) (.pair (.int .i64) (.unit))))), .int .u32] x) : ∃ n, law_LiveTells_F n x = some (true, ()) := by
  obtain ⟨vars, p, want, _⟩ := x
  obtain ⟨_, ⟨h1, h2⟩, hw, _⟩ := h
  obtain ⟨_, ⟨_, z2⟩, _⟩ := hz
  have hw : 0 ≤ want ∧ want ≤ 4294967295 := hw
  have hw' : W32 want := ⟨hw.1, Int.lt_of_le_of_lt hw.2 (by decide)⟩
  refine ⟨_, liveTells_aux h1 (fun b hb => ?_) hw' (Nat.le_refl _)⟩
  obtain ⟨i, hi, rfl⟩ := List.mem_iff_getElem.1 hb
  have := z2 i hi
  have e : List.getD p i (dflt _) = p[i] := by simp [List.getD, hi]
  rw [e] at this
  exact Nat.le_trans this.1.1 (by decide)
end Go.Proofs.Ytokjogplnoeicaa
