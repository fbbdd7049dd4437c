/- Steps of pointers: what is wrong with them; copies, comparisons, repetitions of lists. -/
import Derived.Test.YtmndifhjmbiodaaFnQ
import Derived.Test.YtmndifhjmbiodaaJoins
namespace Go.Proofs.Ytmndifhjmbiodaa
open Go Go.Ab S

abbrev Stm := Stp4
def Good (vars : Int) (l : List Stm) : Prop := GoodJ vars l
theorem clone32_F (nf : Nat) (s : List Int) (hl : s.length ≤ 16) : slices_Clone_f nf s = some (s, ()) := by
  have hb := ble_ok (n := s.length) (by omega)
  cases s with
  | nil => simp [slices_Clone_f, slices_Clone_p, bimp, ble_ok, both_self]
  | cons a r => simp only [List.length_cons] at hb; simp [slices_Clone_f, slices_Clone_p, bimp, hb]

theorem equal32_F {nf : Nat} (hn : 20 ≤ nf) (a b : List Int) (hl : a.length = b.length) (h16 : a.length ≤ 16) : slices_Equal_f nf a b = some (decide (a = b), ()) := by
  have key : ∀ (r s pa pb : List Int) (fu : Nat), a = pa ++ r → b = pb ++ s → pa.length = pb.length → r.length = s.length → r.length < fu → slices_Equal_l0 nf a b fu (pa.length : Nat) = some (decide (r = s), ()) := by
    intro r
    induction r with
    | nil =>
      intro s pa pb fu ha hb hp hr hf
      cases fu with
      | zero => omega
      | succ fu =>
        have : s = [] := by cases s with
          | nil => rfl
          | cons => simp at hr
        subst this
        have : a.length = pa.length := by rw [ha]; simp
        rw [slices_Equal_l0, slices_Equal_b0]
        simp [this]
    | cons x r ih =>
      intro s pa pb fu ha hb hp hr hf
      cases fu with
      | zero => omega
      | succ fu =>
        cases s with
        | nil => simp at hr
        | cons y s =>
          have l1 : a.length = pa.length + (r.length + 1) := by rw [ha]; simp
          have l2 : b.length = pb.length + (s.length + 1) := by rw [hb]; simp
          have ga : a.getD pa.length 0 = x := by rw [ha]; simp
          have gb : b.getD pa.length 0 = y := by rw [hb, hp]; simp
          have hw : IntKind.i64.wrap (((pa.length : Nat) : Int) + 1) = (((pa ++ [x]).length : Nat) : Int) := by rw [Go.IntWalk.i64_in _ (by omega)]; simp
          rw [slices_Equal_l0, slices_Equal_b0]
          simp only [show ((pa.length : Nat) : Int) < (a.length : Int) by omega, decide_true, cond_true, inb_ok (n := a.length) (t := ((pa.length : Nat) : Int)) (by omega) (by omega), inb_ok (n := b.length) (t := ((pa.length : Nat) : Int)) (by omega) (by omega), Int.toNat_natCast, ga, gb, hw]
          rw [ih s (pa ++ [x]) (pb ++ [y]) fu (by rw [ha]; simp) (by rw [hb]; simp) (by simp [hp]) (by simpa using hr) (by simp at hf; omega)]
          by_cases hxy : x = y
          · subst hxy; simp
          · simp [bne_t hxy, hxy]
  have := key a b [] [] nf rfl rfl rfl hl (by omega)
  simp only [slices_Equal_f, slices_Equal_p]
  have hbn : ((a.length : Int) != (b.length : Int)) = false := by simp [hl]
  rw [hbn, cond_false]
  exact this

theorem repeat_all : ∀ v : Fin 9, slices_Repeat_f 400 [-1] ((v.val : Nat) : Int) = some (List.replicate v.val (-1), ()) := by decide +kernel
theorem repeat_F {vars : Int} (h0 : 0 ≤ vars) (h1 : vars ≤ 8) : slices_Repeat_f 400 [-1] vars = some (List.replicate vars.toNat (-1), ()) := by
  have := repeat_all ⟨vars.toNat, by omega⟩
  rwa [show ((vars.toNat : Nat) : Int) = vars by omega] at this

theorem pinside_F {nf : Nat} (n : Int) (l : List Int) (hl : l.length ≤ maxLen) (hf : l.length < nf) : ref_Inside_f nf n l = some (l.all fun x => decide (0 ≤ x) && decide (x < n), ()) := by
  have h := loop_all (l := l) (d := 0) (F := fun fu t (_ : Unit) => ref_Inside_l0 nf n l fu t) (fin := fun _ => some (true, ()))
    (step := fun x _ s k => bif decide (x < 0) then some (false, ()) else bif decide (x ≥ n) then some (false, ()) else k s) ?_ ?_ nf () hf
  · show ref_Inside_l0 nf n l nf 0 = _
    rw [show ref_Inside_l0 nf n l nf 0 = _ from h]
    have key : ∀ (l : List Int) (t : Int), goL (fun x _ (s : Unit) k => bif decide (x < 0) then some (false, ()) else bif decide (x ≥ n) then some (false, ()) else k s) (fun _ => some (true, ())) l t () = some (l.all fun x => decide (0 ≤ x) && decide (x < n), ()) := by
      intro l
      induction l with
      | nil => intro t; rfl
      | cons x r ih =>
        intro t
        simp only [goL, List.all_cons] at ih ⊢
        by_cases h1 : x < 0
        · simp [h1, show ¬ 0 ≤ x by omega]
        · by_cases h2 : n ≤ x
          · simp [h1, h2, show ¬ x < n by omega]
          · simp only [h1, h2, ge_iff_le, decide_false, cond_false, ih, show 0 ≤ x by omega, show x < n by omega, decide_true, Bool.true_and]
    exact key l 0
  · intro fu t s a b
    simp only [ref_Inside_l0, ref_Inside_b0, inb_ok a b, wrap_step a b hl, b, decide_true, cond_true]
  · intro fu t s a
    simp [ref_Inside_l0, ref_Inside_b0, a]

def stmGo (vars : Int) : List Stm → Int
  | [] => 0
  | p :: r => if p.1 < 1 ∨ p.1 > 4 then 6 else if p.2.1 < 0 ∨ p.2.2.1 < 0 ∨ p.2.1 ≥ vars ∨ p.2.2.1 ≥ vars then 2 else stmGo vars r
def stmCode (vars : Int) (l : List Stm) : Int := if vars < 1 ∨ vars > 8 ∨ l.length > 12 then 1 else stmGo vars l
theorem stmGo_good {vars : Int} : ∀ {l : List Stm}, stmGo vars l = 0 → Good vars l
  | [], _, p, hp => by cases hp
  | q :: r, h, p, hp => by
    simp only [stmGo] at h
    split at h
    · omega
    · split at h
      · omega
      · rcases List.mem_cons.1 hp with rfl | hp
        · omega
        · exact stmGo_good h p hp

theorem contains_nil (nf : Nat) (l : List Stm) (hn : 1 ≤ nf) : slices_ContainsFunc__point_wrong_1_f nf [] (l, ()) = some (false, ()) := by
  cases nf with
  | zero => omega
  | succ nf =>
    simp [slices_ContainsFunc__point_wrong_1_f, slices_ContainsFunc__point_wrong_1_p, slices_IndexFunc__point_wrong_1_f, slices_IndexFunc__point_wrong_1_p, slices_IndexFunc__point_wrong_1_l0, slices_IndexFunc__point_wrong_1_b0]

theorem wrong_l0 {nf : Nat} (hn : 20 ≤ nf) (vars : Int) (l : List Stm) (hl : l.length ≤ 12) : ∀ (fu : Nat) (t : Int), 0 ≤ t → t ≤ l.length → l.length < t + fu → point_wrong_l0 nf vars l [] fu l t = some (stmGo vars (l.drop t.toNat), ()) ∧ ref_PointCheck_l0 nf vars l [] fu t = some (stmGo vars (l.drop t.toNat), ())
  | 0, _, _, _, h => by omega
  | fu + 1, t, h0, h1, h2 => by
    rw [point_wrong_l0, point_wrong_b0, ref_PointCheck_l0, ref_PointCheck_b0]
    by_cases ht : t < l.length
    · obtain ⟨i1, i2⟩ := wrong_l0 hn vars l hl fu (t + 1) (by omega) (by omega) (by omega)
      rw [inb_ok h0 ht, wrap_step h0 ht (Nat.le_trans hl (by decide)), i1, i2, drop_step l t (0, 0, 0, ()) h0 ht]
      generalize l.getD t.toNat (0, 0, 0, ()) = x
      obtain ⟨op, a, b, _⟩ := x
      have e3 : (if b < a then b else a) < 0 ↔ a < 0 ∨ b < 0 := by split <;> omega
      have e4 : (if b > a then b else a) ≥ vars ↔ a ≥ vars ∨ b ≥ vars := by split <;> omega
      simp only [ht, decide_true, cond_true, stmGo, e3, e4, pinside_F (nf := nf) vars [a, b] (by simp [maxLen]) (by simp; omega), List.all_cons, List.all_nil, Bool.and_true, Option.bind_some]
      by_cases o1 : op < 1
      · simp [o1]
      · by_cases o2 : op > 4
        · simp [o1, o2]
        · by_cases c1 : a < 0
          · simp [o1, o2, c1, show ¬ 0 ≤ a by omega]
          · by_cases c2 : b < 0
            · simp [o1, o2, c1, c2, show ¬ 0 ≤ b by omega]
            · by_cases c3 : a ≥ vars
              · simp [o1, o2, c1, c2, c3, show ¬ a < vars by omega]
              · by_cases c4 : b ≥ vars
                · simp [o1, o2, c1, c2, c3, c4, show ¬ b < vars by omega]
                · simp [o1, o2, c1, c2, c3, c4, show a < vars by omega, show b < vars by omega, show 0 ≤ a by omega, show 0 ≤ b by omega]
    · have hd : l.drop t.toNat = [] := List.drop_eq_nil_of_le (by omega)
      simp only [ht, decide_false, cond_false, hd, stmGo, contains_nil nf l (by omega), pinside_F (nf := nf) (l.length : Int) [] (by simp) (by simp; omega), Option.bind_some, List.all_nil, Bool.not_true, and_self]

theorem check_F {nf : Nat} (hn : 20 ≤ nf) (vars : Int) (l : List Stm) : point_wrong_f nf vars l [] = some (stmCode vars l, ()) ∧ ref_PointCheck_f nf vars l [] = some (stmCode vars l, ()) := by
  simp only [point_wrong_f, point_wrong_p, ref_PointCheck_f, ref_PointCheck_p, stmCode]
  by_cases h1 : vars < 1
  · simp [h1]
  · by_cases h2 : vars > 8
    · simp [h1, h2]
    · by_cases h3 : l.length > 12
      · simp [h1, h2, h3, show (l.length : Int) > 12 by omega]
      · obtain ⟨i1, i2⟩ := wrong_l0 hn vars l (by omega) nf 0 (by omega) (by omega) (by omega)
        rw [Int.toNat_zero, List.drop_zero] at i1 i2
        simp only [h1, h2, h3, show ¬ (l.length : Int) > 12 by omega, i1, i2, decide_false, cond_false, or_self, if_false, List.length_nil, Int.natCast_zero, show ¬ (0 : Int) > 200 by omega, and_self]

theorem words_F {nf : Nat} (a : List Int) (hl : a.length ≤ maxLen) (hf : a.length < nf) : ref_Words_f nf a a = some (true, ()) := by
  have h := loop_all (l := a) (d := 0) (F := fun fu t (_ : Unit) => ref_Words_l0 nf a a fu t) (fin := fun _ => some (true, ())) (step := fun _ _ s k => k s) ?_ ?_ nf () hf
  · simp only [ref_Words_f, ref_Words_p]
    rw [show ref_Words_l0 nf a a nf 0 = _ from h, goL_fold (f := fun s _ => s) (fun _ => True) a 0 () trivial fun _ _ _ _ _ _ => ⟨rfl, trivial⟩]
    simp
  · intro fu t s h0 h1
    simp [ref_Words_l0, ref_Words_b0, inb_ok h0 h1, wrap_step h0 h1 hl, h1]
  · intro fu t s h1
    simp [ref_Words_l0, ref_Words_b0, h1]

end Go.Proofs.Ytmndifhjmbiodaa
