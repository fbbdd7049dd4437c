/- The machine goes as the program goes. -/
import Derived.Test.YtokjogplnoeicaaMGo
namespace Go.Proofs.Ytokjogplnoeicaa
open Go Go.Ab S

variable {nf : Nat} {n : Int} {p : List Blk}

/-- where a block lies -/
def adOf (p : List Blk) (i : Int) : Int := (begs p 0 0).getD i.toNat 0
def bytesP (p : List Blk) : List Int := (toks p 0).map (rend (adOf p))

theorem rend_b (ad : Int → Int) (l : List Int) : (l.map Tok.b).map (rend ad) = l := by
  rw [List.map_map]
  conv => rhs; rw [← List.map_id l]
  rfl
theorem has_block {i : Int} (h0 : 0 ≤ i) (h1 : i < (p.length : Int)) : Has (bytesP p) (adOf p i) ((p.getD i.toNat B0).1.flatMap stepB ++ ((testT (p.getD i.toNat B0)).map (rend (adOf p)) ++ ((goT i (p.getD i.toNat B0)).map (rend (adOf p)) ++ (toks (p.drop (i.toNat + 1)) (i + 1)).map (rend (adOf p))))) := by
  have hb := beg_at h0 h1
  refine ⟨by unfold adOf; omega, [], ?_⟩
  unfold adOf at *
  rw [hb]
  unfold bytesP adOf
  rw [toks_split h0 h1, List.map_append, Int.toNat_natCast]
  rw [show (ahead p i).length = ((ahead p i).map (rend fun i => (begs p 0 0).getD i.toNat 0)).length by simp, List.drop_left]
  simp only [blockT, List.map_append, rend_b, List.append_assoc, List.append_nil]
theorem ad_next {i : Int} (h0 : 0 ≤ i) (h1 : i + 1 < (p.length : Int)) : adOf p (i + 1) = adOf p i + ((blockT i (p.getD i.toNat B0)).length : Int) := by
  unfold adOf
  rw [beg_at (by omega) h1, beg_at h0 (by omega)]
  have e : ahead p (i + 1) = ahead p i ++ blockT i (p.getD i.toNat B0) := by
    have hi : i.toNat < p.length := by omega
    unfold ahead
    rw [show (i + 1).toNat = i.toNat + 1 by omega, List.take_add_one, List.getElem?_eq_getElem hi, Option.toList_some, toks_app, toks, toks, List.append_nil, take_len h0 (by omega)]
    simp [List.getD, hi]
  rw [e, List.length_append]; omega
theorem ad_few {i : Int} (hl : (toks p 0).length ≤ 400) (h0 : 0 ≤ i) (h1 : i < (p.length : Int)) : 0 ≤ adOf p i ∧ adOf p i ≤ 400 := by
  have h2 := beg_at h0 h1
  have h3 := toks_split h0 h1
  have h4 : (ahead p i).length ≤ (toks p 0).length := by rw [h3, List.length_append]; omega
  unfold adOf; omega
theorem lo_hi (x : Int) : x % 256 + 256 * (x / 256) = x := by omega

structure PG (n : Int) (p : List Blk) : Prop where
  n1 : 1 ≤ n
  n6 : n ≤ 6
  p8 : p.length ≤ 8
  ok : ∀ b ∈ p, blockCode n p.length b = 0
  short : ∀ b ∈ p, b.1.length ≤ 20
  few : (toks p 0).length ≤ 400

theorem sim_go (hP : PG n p) (hM : MOK nf (bytesP p)) {i : Int} (hi : 0 ≤ i ∧ i < (p.length : Int)) {q : Int} {post : List Int} (h : Has (bytesP p) q ((goT i (p.getD i.toNat B0)).map (rend (adOf p)) ++ post)) (hq : q + ((goT i (p.getD i.toNat B0)).length : Int) = adOf p i + (blockT i (p.getD i.toNat B0)).length)
    {v cells was : List Int} (hR : Rel n v cells) {t box : Int} (ht : 0 ≤ t ∧ t < 19000) {fu fu' : Nat} (hf : 20000 < (fu : Int) + t) {a w : List Int} (hg : ref_Goes_l0 nf p 200 fu' v was (p.getD i.toNat B0).2.2.1 = some (a, w, true, ()))
    (ih : ∀ j, 0 ≤ j → j < (p.length : Int) → ref_Goes_l0 nf p 200 fu' v was j = some (a, w, true, ()) → ∀ (fu : Nat) (t box : Int), 0 ≤ t → t ≤ 70 * was.length → 20000 < (fu : Int) + t → ∃ cells', Rel n a cells' ∧ ref_Machine_l2 nf (bytesP p) fu cells (adOf p j) box t = some (cells', 0, ())) (htw : t + 1 ≤ 70 * was.length) :
    ∃ cells', Rel n a cells' ∧ ref_Machine_l2 nf (bytesP p) fu cells q box t = some (cells', 0, ()) := by
  have hm := getD_mem (l := p) (d := B0) hi.1 hi.2
  obtain ⟨_, _, _, g4, _⟩ := blockCode_ok (hP.ok _ hm)
  obtain ⟨fu, rfl⟩ : ∃ k, fu = k + 1 := ⟨fu - 1, by omega⟩
  unfold goT at h hq
  by_cases c1 : (p.getD i.toNat B0).2.2.1 < 0
  · rw [if_pos c1] at h
    have e1 : (p.getD i.toNat B0).2.2.1 = -1 := by omega
    rw [e1] at hg
    have hv : a = v := by
      cases fu' with
      | zero => cases hg
      | succ k =>
        rw [ref_Goes_l0, ref_Goes_b0] at hg
        simp at hg
        exact hg.1.symm
    subst hv
    exact ⟨cells, hR, o_stop hM ⟨ht.1, by omega⟩ h⟩
  · rw [if_neg c1] at h hq
    have hj : 0 ≤ (p.getD i.toNat B0).2.2.1 ∧ (p.getD i.toNat B0).2.2.1 < (p.length : Int) := by omega
    by_cases c2 : (p.getD i.toNat B0).2.2.1 = i + 1
    · rw [if_pos c2] at hq
      rw [c2] at hg hj
      simp only [List.length_nil] at hq
      have e : q = adOf p (i + 1) := by rw [ad_next hi.1 hj.2]; omega
      rw [e]
      exact ih (i + 1) hj.1 hj.2 hg _ _ _ ht.1 (by omega) hf
    · rw [if_neg c2] at h
      simp only [List.map_cons, rend, List.cons_append] at h
      rw [o_go hM ⟨ht.1, by omega⟩ h, lo_hi]
      exact ih _ hj.1 hj.2 hg _ _ _ (by omega) (by omega) (by omega)

theorem sim (hP : PG n p) (hM : MOK nf (bytesP p)) (hn : 100 ≤ nf) : ∀ (fu' : Nat) (v was : List Int) (i : Int), 0 ≤ i → i < (p.length : Int) → ∀ (cells : List Int), Rel n v cells → ∀ (a w : List Int), ref_Goes_l0 nf p 200 fu' v was i = some (a, w, true, ()) →
    ∀ (fu : Nat) (t box : Int), 0 ≤ t → t ≤ 70 * was.length → 20000 < (fu : Int) + t → ∃ cells', Rel n a cells' ∧ ref_Machine_l2 nf (bytesP p) fu cells (adOf p i) box t = some (cells', 0, ())
  | 0, _, _, _, _, _, _, _, _, _, h => by cases h
  | fu' + 1, v, was, i, h0, h1, cells, hR, a, w, hg => by
    intro fu t box ht0 htw hf
    have hm := getD_mem (l := p) (d := B0) h0 h1
    have hok := hP.ok _ hm
    obtain ⟨g1, g2, g3, g4, g5⟩ := blockCode_ok hok
    have hsh := hP.short _ hm
    have c2 : ¬ i = -1 := by omega
    rw [ref_Goes_l0, ref_Goes_b0] at hg
    by_cases hw : (was.length : Int) ≥ 200
    · simp [bne_t c2, hw] at hg
    · have hbl : (bimp false (!List.isEmpty [i]) && Nat.ble (was.length + [i].length) lim) = true := by rw [ble_ok (by simp; omega)]; rfl
      obtain ⟨_, d2, d3⟩ := doing_F (nf := nf) hP.n1 hP.n6 (stepsGo_all g1) (Nat.le_trans hsh (by decide)) (by omega) hR.vars
      have hB : p.getD i.toNat ([], 0, 0, 0, ()) = p.getD i.toNat B0 := rfl
      simp only [bne_t c2, hw, decide_false, cond_false, cond_true, hbl, inb_ok h0 h1, hB, d2, Option.bind_some] at hg
      have hH := has_block h0 h1
      obtain ⟨box1, k, q1, cells1, hR1, e1⟩ := steps_run hM hP.n6 (p.getD i.toNat B0).1 v cells (adOf p i) box t _ (stepsGo_all g1) hR ht0 (by omega) hH
      have hH1 := hH.app
      obtain ⟨fu1, rfl⟩ : ∃ fu1, fu = fu1 + k := ⟨fu - k, by omega⟩
      rw [e1 fu1]
      have hlen : ((blockT i (p.getD i.toNat B0)).length : Int) = ((p.getD i.toNat B0).1.flatMap stepB).length + ((testT (p.getD i.toNat B0)).length + (goT i (p.getD i.toNat B0)).length) := by
        simp [blockT]
      have ih : ∀ j, 0 ≤ j → j < (p.length : Int) → ref_Goes_l0 nf p 200 fu' ((p.getD i.toNat B0).1.foldl stpDo v) (was ++ [i]) j = some (a, w, true, ()) → ∀ (fu : Nat) (t box : Int), 0 ≤ t → t ≤ 70 * (was ++ [i]).length → 20000 < (fu : Int) + t → ∃ cells', Rel n a cells' ∧ ref_Machine_l2 nf (bytesP p) fu cells1 (adOf p j) box t = some (cells', 0, ()) :=
        fun j hj0 hj1 hgj => sim hP hM hn fu' _ (was ++ [i]) j hj0 hj1 cells1 hR1 a w hgj
      have hwl : ((was ++ [i]).length : Int) = was.length + 1 := by simp
      by_cases t0 : (p.getD i.toNat B0).2.1 ≥ 0
      · have hin := d3.inb t0 g3
        simp only [t0, decide_true, cond_true, hin] at hg
        have hT : testT (p.getD i.toNat B0) = [.b (72 + (p.getD i.toNat B0).2.1), .lo (p.getD i.toNat B0).2.2.2.1, .hi (p.getD i.toNat B0).2.2.2.1] := if_pos t0
        have hH2 := hH1
        rw [hT] at hH1 hlen
        simp only [List.map_cons, List.map_nil, rend, List.cons_append, List.nil_append] at hH1
        have hge := hR1.eq _ t0 g3
        obtain ⟨fu2, rfl⟩ : ∃ fu2, fu1 = fu2 + 1 := ⟨fu1 - 1, by omega⟩
        rw [o_zero hM hR1.cs ⟨by omega, by omega⟩ ⟨t0, by have := hP.n6; omega⟩ hH1, lo_hi, hge]
        by_cases z : ((p.getD i.toNat B0).1.foldl stpDo v).getD (p.getD i.toNat B0).2.1.toNat 0 = 0
        · rw [if_pos z]
          rw [z] at hg
          obtain ⟨e0, e1'⟩ := g5 t0
          exact ih _ e0 e1' hg _ _ _ (by omega) (by omega) (by omega)
        · rw [if_neg z]
          rw [beq_f z] at hg
          have hH3 := hH2.app
          rw [hT] at hH3
          simp only [List.length_map, List.length_cons, List.length_nil] at hH3 hlen
          exact sim_go hP hM ⟨h0, h1⟩ (q := adOf p i + (((p.getD i.toNat B0).1.flatMap stepB).length : Int) + 3) hH3 (by omega) hR1 ⟨by omega, by omega⟩ (by omega) hg ih (by omega)
      · simp only [t0, decide_false, cond_false] at hg
        have hT : testT (p.getD i.toNat B0) = [] := if_neg t0
        rw [hT] at hH1 hlen
        simp only [List.map_nil, List.nil_append, List.length_nil] at hH1 hlen
        exact sim_go hP hM ⟨h0, h1⟩ hH1 (by omega) hR1 ⟨by omega, by omega⟩ (by omega) hg ih (by omega)
end Go.Proofs.Ytokjogplnoeicaa
