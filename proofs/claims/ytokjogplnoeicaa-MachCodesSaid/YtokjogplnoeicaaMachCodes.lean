/- mach.Code tells bytes with which the machine stops with the same. -/
import Derived.Test.YtokjogplnoeicaaMBuild
import Derived.Test.YtokjogplnoeicaaAbLaw
namespace Go.Proofs.Ytokjogplnoeicaa
open Go Go.Ab S

variable {nf : Nat} {n vars : Int} {p : List Blk}

theorem many_lines : ∀ (l : List Blk) (m : Nat), m + l.length * 140737488355328 ≤ 4611686018427387904 → (∀ b ∈ l, b.1.length ≤ 140737488355328) → manyGo l m = ((m + lines l : Nat) : Int)
  | [], m, _, _ => by simp [manyGo, lines]
  | b :: r, m, h, hb => by
    have h1 := hb b (by simp)
    simp only [List.length_cons, Nat.add_mul, Nat.one_mul] at h
    have := many_lines r (m + b.1.length) (by omega) fun c hc => hb c (by simp [hc])
    rw [manyGo, show IntKind.i64.wrap ((m : Int) + (b.1.length : Int)) = ((m + b.1.length : Nat) : Int) by rw [Go.IntWalk.i64_in _ ⟨by omega, by omega⟩]; simp, this, lines]
    congr 1; omega
theorem lines_mem : ∀ {l : List Blk} {b : Blk}, b ∈ l → b.1.length ≤ lines l
  | x :: r, b, h => by
    simp only [lines]
    rcases List.mem_cons.1 h with rfl | h
    · omega
    · have := lines_mem h; omega
theorem pg_of (h : progCode vars p = 0) (hs : ∀ b ∈ p, b.1.length ≤ 140737488355328) : PG vars p ∧ (toks p 0).length ≤ 108 := by
  obtain ⟨b1, b2, b3, b4, b5⟩ := progCode_ok h
  have hm := many_lines p 0 (by omega) hs
  have hl : lines p ≤ 20 := by
    unfold progCode at h
    split at h
    · cases h
    · rename_i hc
      simp only [not_or] at hc
      have h5 := hc.2.2.2.2
      rw [show ((0 : Nat) : Int) = 0 from rfl] at hm
      rw [hm] at h5
      omega
  have ht := toks_len p 0
  exact ⟨⟨b1, b2, b4, blocksGo_ok b5, fun b hb => Nat.le_trans (lines_mem hb) hl, by omega⟩, by omega⟩

/-! the bytes are bytes -/
theorem stepB_ok (hn6 : n ≤ 6) {s : Step6} (hs : stepCode n n s = 0) : ∀ x ∈ stepB s, isB x := by
  obtain ⟨op, to, a, b, k, u⟩ := s
  obtain ⟨o1, o6, k1, k2, r1, k3⟩ := stepCode_ok hs
  intro x hx
  unfold stepB at hx
  simp only at hx
  split at hx
  · rename_i h
    have := k1 h
    simp only [List.mem_cons, List.not_mem_nil, or_false] at hx
    unfold isB
    rcases hx with rfl | rfl | rfl <;> omega
  · split at hx
    · rename_i h
      have := k2 h
      simp only [List.mem_cons, List.not_mem_nil, or_false] at hx
      unfold isB
      rcases hx with rfl | rfl <;> omega
    · have := k3 (by omega)
      simp only [List.mem_cons, List.not_mem_nil, or_false] at hx
      unfold isB
      rcases hx with rfl | rfl | rfl <;> omega
theorem ad_all (hP : PG n p) (j : Int) : 0 ≤ adOf p j ∧ adOf p j ≤ 400 := by
  by_cases h : j.toNat < p.length
  · have := ad_few (p := p) (i := (j.toNat : Int)) hP.few (by omega) (by omega)
    unfold adOf at *
    rwa [Int.toNat_natCast] at this
  · have : adOf p j = 0 := by
      unfold adOf
      rw [List.getD_eq_getElem?_getD, List.getElem?_eq_none (by rw [begs_len]; omega)]
      rfl
    omega
theorem toks_ok (hP : PG n p) : ∀ (l : List Blk) (i : Int), (∀ b ∈ l, b ∈ p) → ∀ x ∈ toks l i, isB (rend (adOf p) x)
  | [], _, _, x, h => by cases h
  | b :: r, i, hb, x, h => by
    rcases List.mem_append.1 h with h | h
    · obtain ⟨g1, _, g3, g4, g5⟩ := blockCode_ok (hP.ok b (hb b (by simp)))
      have hn6 := hP.n6
      have hlo : ∀ j, isB (rend (adOf p) (.lo j)) ∧ isB (rend (adOf p) (.hi j)) := fun j => by
        have := ad_all hP j
        unfold isB
        simp only [rend]
        omega
      have hby : ∀ y, isB y → isB (rend (adOf p) (.b y)) := fun y hy => hy
      unfold blockT testT goT at h
      rcases List.mem_append.1 h with h | h
      · obtain ⟨y, hy, rfl⟩ := List.mem_map.1 h
        obtain ⟨s, hs, hy⟩ := List.mem_flatMap.1 hy
        exact hby y (stepB_ok hn6 (stepsGo_all g1 s hs) y hy)
      · rcases List.mem_append.1 h with h | h
        · split at h
          · simp only [List.mem_cons, List.not_mem_nil, or_false] at h
            rcases h with rfl | rfl | rfl
            · exact hby _ ⟨by omega, by omega⟩
            · exact (hlo _).1
            · exact (hlo _).2
          · cases h
        · split at h
          · simp only [List.mem_cons, List.not_mem_nil, or_false] at h
            subst h
            exact hby _ ⟨by omega, by omega⟩
          · split at h
            · cases h
            · simp only [List.mem_cons, List.not_mem_nil, or_false] at h
              rcases h with rfl | rfl | rfl
              · exact hby _ ⟨by omega, by omega⟩
              · exact (hlo _).1
              · exact (hlo _).2
    · exact toks_ok hP r (i + 1) (fun c hc => hb c (by simp [hc])) x h
theorem mok (hP : PG n p) : MOK nf (bytesP p) := ⟨fun x hx => by
  obtain ⟨y, hy, rfl⟩ := List.mem_map.1 hx
  exact toks_ok hP p 0 (fun _ h => h) y hy, by simp [bytesP]; exact hP.few⟩

theorem goes_some (hP : PG n p) (hn : 100 ≤ nf) : ∀ (fu : Nat) (v was : List Int) (i : Int), Vars n v → was.length ≤ 200 → (i = -1 ∨ (0 ≤ i ∧ i < (p.length : Int))) → 200 < was.length + fu → ∃ a w ok, ref_Goes_l0 nf p 200 fu v was i = some (a, w, ok, ())
  | 0, v, was, i, _, h1, _, h3 => by omega
  | fu + 1, v, was, i, hv, h1, h2, h3 => by
    rw [ref_Goes_l0, ref_Goes_b0]
    rcases h2 with rfl | ⟨a0, a1⟩
    · exact ⟨v, was, true, rfl⟩
    · have c2 : ¬ i = -1 := by omega
      by_cases hw : (was.length : Int) ≥ 200
      · refine ⟨[], [], false, ?_⟩
        simp only [bne_t c2, cond_true, hw, decide_true]
      · have hbl : (bimp false (!List.isEmpty [i]) && Nat.ble (was.length + [i].length) lim) = true := by rw [ble_ok (by simp; omega)]; rfl
        have hm := getD_mem (l := p) (d := B0) a0 a1
        obtain ⟨g1, g2, g3, g4, g5⟩ := blockCode_ok (hP.ok _ hm)
        have hsh := hP.short _ hm
        obtain ⟨_, d2, d3⟩ := doing_F (nf := nf) hP.n1 hP.n6 (stepsGo_all g1) (Nat.le_trans hsh (by decide)) (by omega) hv
        have hB : p.getD i.toNat ([], 0, 0, 0, ()) = p.getD i.toNat B0 := rfl
        have go : ∀ j : Int, (j = -1 ∨ (0 ≤ j ∧ j < (p.length : Int))) → _ := fun j hj => goes_some hP hn fu _ (was ++ [i]) j d3 (by simp; omega) hj (by simp; omega)
        simp only [bne_t c2, hw, decide_false, cond_false, cond_true, hbl, inb_ok a0 a1, hB, d2, Option.bind_some]
        by_cases t0 : (p.getD i.toNat B0).2.1 ≥ 0
        · have hin := d3.inb t0 g3
          simp only [t0, decide_true, cond_true, hin]
          by_cases z : ((p.getD i.toNat B0).1.foldl stpDo v).getD (p.getD i.toNat B0).2.1.toNat 0 = 0
          · rw [z]
            exact go _ (.inr (g5 t0))
          · rw [beq_f z]
            exact go _ (g4.elim .inr fun h => .inl h.1)
        · simp only [t0, decide_false, cond_false]
          exact go _ (g4.elim .inr fun h => .inl h.1)
theorem goes_first (hp : 1 ≤ p.length) (v : List Int) : ref_Goes_f nf p v 200 = ref_Goes_l0 nf p 200 (nf + 1) v [] 0 := by
  rw [ref_Goes_l0, ref_Goes_b0, ref_Goes_f, ref_Goes_p]
  have h0 : ((0 : Int) != -1) = true := rfl
  have h1 : ∀ y : Int, (bimp false (!List.isEmpty [y]) && Nat.ble (List.length ([] : List Int) + [y].length) lim) = true := fun y => by rw [ble_ok (by simp)]; rfl
  simp only [h0, h1, cond_true, Int.toNat_zero]
  rfl

/-- what the machine begins with -/
theorem machine_first {have' : List Int} {code : List Int} (hl : have'.length ≤ 6) (hn : 10 ≤ nf) : ∃ cells, cells.length = 6 ∧ (∀ i : Int, 0 ≤ i → i < 6 → cells.getD i.toNat 0 = if i < have'.length then have'.getD i.toNat 0 else 0) ∧ ref_Machine_f nf code have' = ref_Machine_l2 nf code nf cells 0 0 0 := by
  obtain ⟨fu', c, ⟨h1, h2⟩, e⟩ := loop_inv (n := (have'.length : Int)) (F := fun fu t (c : List Int) => ref_Machine_l0 nf code have' fu c t)
    (fun t c => c.length = 6 ∧ ∀ i : Int, 0 ≤ i → i < 6 → c.getD i.toNat 0 = if i < t then have'.getD i.toNat 0 else 0) (fun fu t c h0 h1 hI => by
      refine ⟨c.set t.toNat (have'.getD t.toNat 0), ?_, by rw [List.length_set]; exact hI.1, fun i hi0 hi6 => ?_⟩
      · show ref_Machine_l0 nf code have' (fu + 1) c t = _
        rw [ref_Machine_l0, ref_Machine_b0, inb_ok h0 h1, inb_ok (t := t) (n := c.length) h0 (by rw [hI.1]; omega), wr64 (x := t + 1) (by omega) (by omega)]
        simp only [h1, decide_true, cond_true]
      · rw [List.getD_eq_getElem?_getD, List.getElem?_set]
        by_cases e : t.toNat = i.toNat
        · have : t = i := by omega
          subst this
          rw [if_pos rfl, if_pos (by rw [hI.1]; omega), if_pos (by omega)]; rfl
        · rw [if_neg e, ← List.getD_eq_getElem?_getD, hI.2 i hi0 hi6]
          by_cases hlt : i < t
          · rw [if_pos hlt, if_pos (by omega)]
          · rw [if_neg hlt, if_neg (by omega)]) nf 0 (List.replicate 6 0) (Int.le_refl _) (by omega) (by omega) ⟨rfl, fun i h0 h6 => by
      rw [if_neg (by omega), List.getD_eq_getElem?_getD, List.getElem?_replicate]
      split <;> rfl⟩
  have e : ref_Machine_l0 nf code have' nf (List.replicate 6 0) 0 = ref_Machine_l0 nf code have' (fu' + 1) c (have'.length : Int) := e
  refine ⟨c, h1, h2, ?_⟩
  simp only [ref_Machine_f, ref_Machine_p]
  rw [e, ref_Machine_l0, ref_Machine_b0]
  simp only [Int.lt_irrefl, decide_false, cond_false]

theorem machCodes_aux {have' : List Int} (hp : p.length ≤ maxLen) (hs : ∀ b ∈ p, b.1.length ≤ 140737488355328) (hh : have'.length ≤ maxLen) (hn : fuelOf p + have'.length + 20500 ≤ nf) : law_MachCodes_f nf vars p have' = some (true, ()) := by
  have hfu := (fuelOf_ok p).1
  have hf := fits_of (nf := nf) (by omega) hp fun b hb => Nat.le_trans (hs b hb) (by decide)
  simp only [law_MachCodes_f, law_MachCodes_p, mach_Code_f, mach_Code_p]
  rw [block_Check_F hf, ref_ProgCheck_F (by omega) hf, haveCheck_F _ _ hh (by omega)]
  simp only [Option.bind_some]
  by_cases h1 : progCode vars p = 0
  · obtain ⟨hP, hlen⟩ := pg_of h1 hs
    obtain ⟨b1, b2, b3, b4, b5⟩ := progCode_ok h1
    have hblen : (bytesP p).length ≤ 108 := by simp [bytesP]; exact hlen
    have hb400 : ¬ (((bytesP p).length : Int) > 400) := by omega
    simp only [h1, show ((0 : Int) != 0) = false from rfl, show ((0 : Int) == 0) = true from rfl, cond_false, cond_true, Option.bind_some, code_F hP (by omega) (by omega : 500 ≤ nf), hb400, decide_false]
    by_cases h2 : haveCode vars have' = 0
    · obtain ⟨v1, v2⟩ := haveCode_ok h2
      have hv : Vars vars have' := ⟨v1, v2⟩
      obtain ⟨a, w, ok, hg⟩ := goes_some (nf := nf) hP (by omega) (nf + 1) have' [] 0 hv (by simp) (.inr ⟨by omega, by omega⟩) (by simp; omega)
      rw [goes_first (by omega), hg]
      simp only [h2, show ((0 : Int) != 0) = false from rfl, cond_false, Option.bind_some]
      cases ok with
      | false => rfl
      | true =>
        obtain ⟨cells, c1, c2, c3⟩ := machine_first (nf := nf) (code := bytesP p) (have' := have') (by omega) (by omega)
        have hR : Rel vars have' cells := ⟨hv, ⟨c1, fun x hx => by
          obtain ⟨i, hi, rfl⟩ := List.mem_iff_getElem.1 hx
          have := c2 (i : Int) (by omega) (by omega)
          rw [Int.toNat_natCast, getD_get hi] at this
          rw [this]
          split
          · rename_i hlt
            exact v2 _ (getD_mem (t := (i : Int)) (by omega) hlt)
          · exact ⟨by omega, by omega⟩⟩, fun i h0 h6 => by rw [c2 i h0 (by omega), if_pos (by omega)]⟩
        have hz : adOf p 0 = 0 := by
          unfold adOf
          rw [beg_at (by omega) (by omega)]
          simp [ahead, toks]
        obtain ⟨cells', hR', e⟩ := sim (nf := nf) hP (mok hP) (by omega) (nf + 1) have' [] 0 (by omega) (by omega) cells hR a w hg nf 0 0 (Int.le_refl _) (by simp) (by omega)
        rw [hz] at e
        rw [c3, e]
        have hal := hR'.vars.len
        have hcl := hR'.cs.len
        have hcs : (decide (0 ≤ (0 : Int)) && decide ((0 : Int) ≤ vars) && decide (vars ≤ (cells'.length : Int))) = true := by
          rw [decide_eq_true (Int.le_refl _), decide_eq_true (show (0 : Int) ≤ vars by omega), decide_eq_true (show vars ≤ (cells'.length : Int) by omega)]; rfl
        have htk : List.take (vars - (0 : Int)).toNat (List.drop 0 cells') = a := by
          rw [List.drop_zero, Int.sub_zero]
          refine List.ext_getElem (by rw [List.length_take]; omega) fun i hi1 hi2 => ?_
          have := hR'.eq (i : Int) (by omega) (by omega)
          rw [Int.toNat_natCast, getD_get hi2, getD_get (by rw [List.length_take] at hi1; omega)] at this
          rw [List.getElem_take]
          exact this
        simp only [Bool.not_true, cond_false, Option.bind_some, show ((0 : Int) == 0) = true from rfl, cond_true, hcs, htk]
        rw [ints_F a a (Nat.le_trans (show a.length ≤ 6 by omega) (by decide)) (by omega)]
        simp
    · simp only [bne_t h2, cond_true, Option.bind_some]
  · simp only [bne_t h1, cond_true, Option.bind_some, beq_self_eq_true]
    rfl

theorem machCodes_law (x : denPs (lawPs [.int .i64, .sl (.pair (.sl (.pair (.int .i64) (.pair (.int .i64) (.pair (.int .i64) (.pair (.int .i64) (.pair (.int .i64) (.unit))))))) (.pair (.int .i64) (.pair (.int .i64) (.pair (.int .i64) (.unit))))), .sl (.int .i64)])) (h : wfPs [.int .i64, .sl (.pair (.sl (.pair (.int .i64) (.pair (.int .i64) (.pair (.int .i64) (.pair (.int .i64) (.pair (.int .i64) (.unit))))))) (.pair (.int .i64) (.pair (.int .i64) (.pair (.int .i64) (.unit))))), .sl (.int .i64)] x) (hz : szPs [.int .i64, .sl (.pair (.sl (.pair (.int .i64) (.pair (.int .i64) (.pair (.int .i64) (.pair (.int .i64) (.pair (.int .i64) (.unit))))))) (.pair (.int .i64) (.pair (.int .i64) (.pair (.int .i64) (.unit))))), .sl (.int .i64)] x) : ∃ n, law_MachCodes_F n x = some (true, ()) := by
  obtain ⟨vars, p, have', _⟩ := x
  obtain ⟨_, ⟨h1, h2⟩, ⟨h3, _⟩, _⟩ := h
  obtain ⟨_, ⟨_, z2⟩, _⟩ := hz
  refine ⟨_, machCodes_aux h1 (fun b hb => ?_) h3 (Nat.le_refl _)⟩
  obtain ⟨i, hi, rfl⟩ := List.mem_iff_getElem.1 hb
  have := z2 i hi
  have e : List.getD p i (dflt _) = p[i] := by simp [List.getD, hi]
  rw [e] at this
  exact Nat.le_trans this.1.1 (by decide)
end Go.Proofs.Ytokjogplnoeicaa
