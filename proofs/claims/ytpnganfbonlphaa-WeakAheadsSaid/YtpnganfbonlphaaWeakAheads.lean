/- weak.Ahead and the document's answer agree. -/
import Derived.Test.YtpnganfbonlphaaTok
import Derived.Test.YtpnganfbonlphaaDo
import Derived.Test.YtpnganfbonlphaaMaps
import Derived.Test.YtpnganfbonlphaaFn1
namespace Go.Proofs.Ytpnganfbonlphaa
open Go Go.Ab S

abbrev KT : Ty := .pair (.int .i64) (.pair (.int .i64) (.pair (.int .i64) (.pair (.int .i64) .unit)))
theorem flatKT : flat KT = true := rfl

/-- terms, and where each one is -/
structure Tms (vars : Int) (T : List Term5) (M : List (Term5 × Int)) : Prop where
  tok : ∀ i, i < T.length → TOK vars i (T.getD i T0)
  map : ∀ (x : Term5) (i : Int), getM KT (.int .i64) M x = some i → 0 ≤ i ∧ i < T.length ∧ T.getD i.toNat T0 = x

theorem put_F {nf : Nat} {vars : Int} {T : List Term5} {M : List (Term5 × Int)} (h : Tms vars T M) {x : Term5} (hx : TOK vars T.length x) (hl : T.length ≤ 100) :
    ∃ T' M' i, weak_terms_put_f nf (T, M, ()) x = some (some (T', M', ()), i, ()) ∧ Tms vars T' M' ∧ T <+: T' ∧ T'.length ≤ T.length + 1 ∧ 0 ≤ i ∧ i < T'.length ∧ T'.getD i.toNat T0 = x := by
  simp only [weak_terms_put_f, weak_terms_put_p, both_self]
  cases hg : getM KT (.int .i64) M x with
  | some i =>
    obtain ⟨a, b, c⟩ := h.map x i hg
    exact ⟨T, M, i, rfl, h, List.prefix_rfl, by omega, a, b, c⟩
  | none =>
    refine ⟨T ++ [x], insM KT (.int .i64) M x (T.length : Int), T.length, ?_, ⟨fun i hi => ?_, fun y i hy => ?_⟩, List.prefix_append _ _, by simp, by omega, by simp; omega, by simp⟩
    · have fit : (!([x] : List Term5).isEmpty && Nat.ble (T.length + [x].length) lim) = true := by rw [ble_ok (by rw [List.length_singleton]; omega)]; rfl
      change (bif (!([x] : List Term5).isEmpty && Nat.ble (T.length + [x].length) lim) then _ else none) = _
      rw [fit]; rfl
    · by_cases hi' : i < T.length
      · rw [List.getD_eq_getElem?_getD, List.getElem?_append_left hi', ← List.getD_eq_getElem?_getD]; exact h.tok i hi'
      · have : i = T.length := by simp at hi; omega
        subst this
        simpa using hx
    · rw [getM_ins flatKT] at hy
      cases he : eqD KT x y with
      | true =>
        rw [he] at hy
        have hxy : x = y := eqD_eq KT _ _ flatKT he
        cases hy
        subst hxy
        refine ⟨by omega, by simp; omega, by simp⟩
      | false =>
        rw [he] at hy
        obtain ⟨a, b, c⟩ := h.map y i hy
        refine ⟨a, by simp; omega, ?_⟩
        rw [List.getD_eq_getElem?_getD, List.getElem?_append_left (by omega), ← List.getD_eq_getElem?_getD]; exact c

/-- what stands at places has these values -/
def Stand (vars : Int) (T : List Term5) (is : List Int) (W : List Int → List Int) (n : Nat) : Prop :=
  ∀ v, v < n → 0 ≤ is.getD v 0 ∧ is.getD v 0 < T.length ∧ ∀ hv, Vars vars hv → vat hv T (is.getD v 0) = (W hv).getD v 0

theorem Stand.mono {vars : Int} {T T' : List Term5} {is : List Int} {W : List Int → List Int} {n : Nat} (h : Stand vars T is W n) (hp : T <+: T') : Stand vars T' is W n := fun v hv => by
  obtain ⟨a, b, c⟩ := h v hv
  have := hp.length_le
  exact ⟨a, by omega, fun hv' h' => by rw [vat_pre hp a b, c hv' h']⟩

variable {nf : Nat} {vars : Int} {code : List Step6} {post : List Term5}

theorem ahead_l5 (hv6 : vars ≤ 6) (hpc : termCode vars post = 0) {is : List Int} (hil : (is.length : Int) = vars) {W : List Int → List Int} (hW : ∀ hv, Vars vars hv → Vars vars (W hv)) :
    ∀ (fu t : Nat) (T : List Term5) (M : List (Term5 × Int)) (ats : List Int), Tms vars T M → T.length ≤ 26 + t → Stand vars T is W is.length → ats.length = t → Stand vars T ats (fun hv => valGo (W hv) post []) t → t ≤ post.length → post.length - t < fu →
      ∃ L, weak_Ahead_l5 nf post fu is ats (T, M, ()) t = some (L, 0, ()) ∧ (∀ i, i < L.length → TOK vars i (L.getD i T0)) ∧ 1 ≤ L.length ∧ L.length ≤ 50 ∧ ∀ hv, Vars vars hv → valOf L hv = valOf post (W hv)
  | 0, t, _, _, _, _, _, _, _, _, _, h => by omega
  | fu + 1, t, T, M, ats, hT, hTl, hS, hal, hA, h0, h1 => by
    obtain ⟨hv0, _, hp1, hp16, hpg⟩ := termCode_ok hpc
    rw [weak_Ahead_l5, weak_Ahead_b5]
    by_cases ht : t < post.length
    · have hw : IntKind.i64.wrap ((t : Int) + 1) = ((t + 1 : Nat) : Int) := by rw [Go.IntWalk.i64_in _ (by omega)]; rfl
      have hb : inb (t : Int) post.length = true := inb_ok (by omega) (by omega)
      have hk := tok_of post 0 (by simpa using hpg) t ht
      rw [Nat.zero_add] at hk
      have hval : ∀ hv, Vars vars hv → (valGo (W hv) post []).getD t 0 = valOne (W hv) (post.getD t T0) (valGo (W hv) post []) := fun hv _ => (isVal_of (vars := vars) (hv := W hv) (l := post) (by have := tok_of post 0 (by simpa using hpg); simpa using this)).2 t ht
      have fit : ∀ y : Int, (bimp false (!List.isEmpty [y]) && Nat.ble (ats.length + [y].length) lim) = true := fun y => by rw [ble_ok (by simp; omega)]; rfl
      have next : ∀ (T' : List Term5) (M' : List (Term5 × Int)) (i : Int), Tms vars T' M' → T <+: T' → T'.length ≤ T.length + 1 → 0 ≤ i → i < T'.length → (∀ hv, Vars vars hv → vat hv T' i = (valGo (W hv) post []).getD t 0) →
          ∃ L, weak_Ahead_l5 nf post fu is (ats ++ [i]) (T', M', ()) ((t + 1 : Nat) : Int) = some (L, 0, ()) ∧ (∀ i, i < L.length → TOK vars i (L.getD i T0)) ∧ 1 ≤ L.length ∧ L.length ≤ 50 ∧ ∀ hv, Vars vars hv → valOf L hv = valOf post (W hv) := fun T' M' i h1 h2 h3 h4 h5 h6 =>
        ahead_l5 hv6 hpc hil hW fu (t + 1) T' M' (ats ++ [i]) h1 (by omega) (hS.mono h2) (by simp [hal]) (fun v hv => by
          by_cases hvt : v < t
          · have := hA.mono h2 v hvt
            rw [List.getD_eq_getElem?_getD, List.getElem?_append_left (by omega), ← List.getD_eq_getElem?_getD]; exact this
          · have : v = ats.length := by omega
            rw [List.getD_eq_getElem?_getD, this, List.getElem?_append_right (Nat.le_refl _)]
            simp only [Nat.sub_self, List.getElem?_cons_zero, Option.getD_some]
            exact ⟨h4, h5, fun hv' h' => by rw [h6 hv' h', hal]⟩) (by omega) (by omega)
      simp only [show (t : Int) < (post.length : Int) by omega, decide_true, cond_true, hb, Int.toNat_natCast, hw]
      by_cases o1 : (post.getD t T0).1 = 1
      · obtain ⟨T', M', i, e, q1, q2, q3, q4, q5, q6⟩ := put_F (nf := nf) hT (x := (1, 0, 0, (post.getD t T0).2.2.2.1, ())) ⟨by simp, by simp, fun _ => hk.one o1, fun h => by simp at h, fun h => by simp at h⟩ (by omega)
        simp only [o1, beq_self_eq_true, cond_true]
        rw [e]
        simp only [Option.bind_some, fit, cond_true]
        refine next T' M' i q1 q2 q3 q4 q5 fun hv h => ?_
        rw [vat_one q1.tok q4 q5, q6, hval hv h]
        unfold valOne
        rw [if_pos rfl, if_pos o1]
      · by_cases o2 : (post.getD t T0).1 = 2
        · obtain ⟨k0, k1⟩ := hk.two o2
          obtain ⟨s0, s1, s2⟩ := hS (post.getD t T0).2.2.2.1.toNat (by omega)
          simp only [o2, show ((2 : Int) == 1) = false from rfl, beq_self_eq_true, cond_true, cond_false, inb_ok (n := is.length) k0 (by omega), fit]
          refine next T M _ hT List.prefix_rfl (by omega) s0 s1 fun hv h => ?_
          rw [s2 hv h, hval hv h]
          unfold valOne
          rw [if_neg o1, if_pos o2]
        · obtain ⟨a0, a1, b0, b1⟩ := hk.more (by have := hk.lo; omega)
          obtain ⟨s0, s1, s2⟩ := hA (post.getD t T0).2.1.toNat (by omega)
          obtain ⟨r0, r1, r2⟩ := hA (post.getD t T0).2.2.1.toNat (by omega)
          obtain ⟨T', M', i, e, q1, q2, q3, q4, q5, q6⟩ := put_F (nf := nf) hT (x := ((post.getD t T0).1, ats.getD (post.getD t T0).2.1.toNat 0, ats.getD (post.getD t T0).2.2.1.toNat 0, 0, ())) ⟨hk.lo, hk.hi, fun h => absurd h o1, fun h => absurd h o2, fun _ => ⟨s0, s1, r0, r1⟩⟩ (by omega)
          simp only [beq_f o1, beq_f o2, cond_false, inb_ok (n := ats.length) a0 (by omega), inb_ok (n := ats.length) b0 (by omega), cond_true]
          rw [e]
          simp only [Option.bind_some, fit, cond_true]
          refine next T' M' i q1 q2 q3 q4 q5 fun hv h => ?_
          rw [vat_one q1.tok q4 q5, q6, hval hv h]
          unfold valOne
          rw [if_neg o1, if_neg o2, if_neg o1, if_neg o2]
          have ea := vat_pre (hv := hv) q2 s0 s1
          have eb := vat_pre (hv := hv) q2 r0 r1
          unfold vat at ea eb s2 r2
          simp only
          rw [ea, eb, s2 hv h, r2 hv h]
    · have he : t = post.length := by omega
      have hw : IntKind.i64.wrap ((ats.length : Int) - 1) = (ats.length : Int) - 1 := Go.IntWalk.i64_in _ (by omega)
      obtain ⟨s0, s1, s2⟩ := hA (post.length - 1) (by omega)
      have e1 : ((ats.length : Int) - 1).toNat = post.length - 1 := by omega
      have hw2 : IntKind.i64.wrap (ats.getD (post.length - 1) 0 + 1) = ats.getD (post.length - 1) 0 + 1 := Go.IntWalk.i64_in _ (by omega)
      refine ⟨T.take (ats.getD (post.length - 1) 0 + 1).toNat, ?_, fun i hi => ?_, ?_, ?_, fun hv h => ?_⟩
      · simp only [show ¬ (t : Int) < (post.length : Int) by omega, decide_false, cond_false, hw, inb_ok (t := (ats.length : Int) - 1) (n := ats.length) (by omega) (by omega), cond_true, e1, hw2]
        simp only [show ats.getD (post.length - 1) 0 + 1 ≤ (T.length : Int) by omega, show (0 : Int) ≤ ats.getD (post.length - 1) 0 + 1 by omega, Int.sub_zero, List.drop_zero, Option.isSome_some, Int.le_refl, decide_true, Bool.and_self, cond_true]
      · rw [List.length_take] at hi
        have := hT.tok i (by omega)
        rw [List.getD_eq_getElem?_getD, List.getElem?_take_of_lt (by omega), ← List.getD_eq_getElem?_getD]
        exact this
      · rw [List.length_take]; omega
      · rw [List.length_take]; omega
      · have hlen : (T.take (ats.getD (post.length - 1) 0 + 1).toNat).length = (ats.getD (post.length - 1) 0).toNat + 1 := by rw [List.length_take]; omega
        have := s2 hv h
        unfold valOf
        rw [hlen, Nat.add_sub_cancel]
        have e2 := vat_pre (hv := hv) (List.take_prefix (ats.getD (post.length - 1) 0 + 1).toNat T) s0 (by omega)
        unfold vat at e2 this
        rw [← e2, this]

theorem ahead_l2 (hv6 : vars ≤ 6) (hpc : termCode vars post = 0) (hc : ∀ s ∈ code, stepCode vars vars s = 0) (hcl : code.length ≤ 20) (hn : 100 ≤ nf) :
    ∀ (fu t : Nat) (T : List Term5) (M : List (Term5 × Int)) (is : List Int), Tms vars T M → T.length ≤ 6 + t → (is.length : Int) = vars → Stand vars T is (fun hv => (code.take t).foldl stpDo hv) is.length → t ≤ code.length → code.length - t < fu →
      ∃ L, weak_Ahead_l2 nf code post fu is (T, M, ()) t = some (L, 0, ()) ∧ (∀ i, i < L.length → TOK vars i (L.getD i T0)) ∧ 1 ≤ L.length ∧ L.length ≤ 50 ∧ ∀ hv, Vars vars hv → valOf L hv = valOf post (code.foldl stpDo hv)
  | 0, t, _, _, _, _, _, _, _, _, h => by omega
  | fu + 1, t, T, M, is, hT, hTl, hil, hS, h0, h1 => by
    obtain ⟨hv0, _, hp1, hp16, hpg⟩ := termCode_ok hpc
    have hWt : ∀ (n : Nat) hv, Vars vars hv → Vars vars ((code.take n).foldl stpDo hv) := fun n hv h =>
      foldl_inv (Vars vars) _ hv h fun s hs w hw => stpDo_vars hw (hc s (List.mem_of_mem_take hs))
    rw [weak_Ahead_l2, weak_Ahead_b2]
    by_cases ht : t < code.length
    · have hw : IntKind.i64.wrap ((t : Int) + 1) = ((t + 1 : Nat) : Int) := by rw [Go.IntWalk.i64_in _ (by omega)]; rfl
      have hb : inb (t : Int) code.length = true := inb_ok (by omega) (by omega)
      have hmem : code.getD t (0, 0, 0, 0, 0, ()) ∈ code := by have := getD_mem (l := code) (t := (t : Int)) (d := (0, 0, 0, 0, 0, ())) (by omega) (by omega); simpa using this
      have htf : ∀ hv, (code.take (t + 1)).foldl stpDo hv = stpDo ((code.take t).foldl stpDo hv) (code.getD t (0, 0, 0, 0, 0, ())) := fun hv => by
        have := take_fold stpDo hv (l := code) (t := (t : Int)) (d := (0, 0, 0, 0, 0, ())) (by omega) (by omega)
        simpa [show ((t : Int) + 1).toNat = t + 1 by omega] using this
      have hok := hc _ hmem
      obtain ⟨g1, g2, g3, g4, g5, g6⟩ := stepCode_ok (op := (code.getD t (0, 0, 0, 0, 0, ())).1) (to := (code.getD t (0, 0, 0, 0, 0, ())).2.1) (a := (code.getD t (0, 0, 0, 0, 0, ())).2.2.1) (b := (code.getD t (0, 0, 0, 0, 0, ())).2.2.2.1) (k := (code.getD t (0, 0, 0, 0, 0, ())).2.2.2.2.1) (u := ()) hok
      have next : ∀ (T' : List Term5) (M' : List (Term5 × Int)) (i : Int), Tms vars T' M' → T <+: T' → T'.length ≤ T.length + 1 → 0 ≤ i → i < T'.length →
          (∀ hv, Vars vars hv → vat hv T' i = (if (code.getD t (0, 0, 0, 0, 0, ())).1 = 1 then (code.getD t (0, 0, 0, 0, 0, ())).2.2.2.2.1 else if (code.getD t (0, 0, 0, 0, 0, ())).1 = 2 then ((code.take t).foldl stpDo hv).getD (code.getD t (0, 0, 0, 0, 0, ())).2.2.2.2.1.toNat 0 else opV (code.getD t (0, 0, 0, 0, 0, ())).1 (((code.take t).foldl stpDo hv).getD (code.getD t (0, 0, 0, 0, 0, ())).2.2.1.toNat 0) (((code.take t).foldl stpDo hv).getD (code.getD t (0, 0, 0, 0, 0, ())).2.2.2.1.toNat 0))) →
          ∃ L, weak_Ahead_l2 nf code post fu (is.set (code.getD t (0, 0, 0, 0, 0, ())).2.1.toNat i) (T', M', ()) ((t + 1 : Nat) : Int) = some (L, 0, ()) ∧ (∀ i, i < L.length → TOK vars i (L.getD i T0)) ∧ 1 ≤ L.length ∧ L.length ≤ 50 ∧ ∀ hv, Vars vars hv → valOf L hv = valOf post (code.foldl stpDo hv) := fun T' M' i h1 h2 h3 h4 h5 h6 =>
        ahead_l2 hv6 hpc hc hcl hn fu (t + 1) T' M' _ h1 (by omega) (by simpa using hil) (fun v hv => by
          rw [List.length_set] at hv
          rw [getD_upd (by omega)]
          have hm := hS.mono h2 v hv
          split
          · rename_i hve
            refine ⟨h4, h5, fun hv' h' => ?_⟩
            have hlen := (hWt t hv' h').len
            rw [h6 hv' h']
            show _ = ((code.take (t + 1)).foldl stpDo hv').getD v 0
            rw [htf, stpDo, getD_upd (by omega), if_pos hve]
          · rename_i hve
            refine ⟨hm.1, hm.2.1, fun hv' h' => ?_⟩
            have hlen := (hWt t hv' h').len
            rw [hm.2.2 hv' h']
            show ((code.take t).foldl stpDo hv').getD v 0 = ((code.take (t + 1)).foldl stpDo hv').getD v 0
            rw [htf, stpDo, getD_upd (by omega), if_neg hve]) (by omega) (by omega)
      simp only [show (t : Int) < (code.length : Int) by omega, decide_true, cond_true, hb, Int.toNat_natCast, hw]
      by_cases o1 : (code.getD t (0, 0, 0, 0, 0, ())).1 = 1
      · obtain ⟨T', M', i, e, q1, q2, q3, q4, q5, q6⟩ := put_F (nf := nf) hT (x := (1, 0, 0, (code.getD t (0, 0, 0, 0, 0, ())).2.2.2.2.1, ())) ⟨by simp, by simp, fun _ => g3 o1, fun h => by simp at h, fun h => by simp at h⟩ (by omega)
        simp only [o1, beq_self_eq_true, cond_true]
        rw [e]
        simp only [Option.bind_some, inb_ok (n := is.length) g5.1 (by omega), cond_true]
        refine next T' M' i q1 q2 q3 q4 q5 fun hv h => ?_
        rw [vat_one q1.tok q4 q5, q6, if_pos o1]
        unfold valOne
        rw [if_pos rfl]
      · by_cases o2 : (code.getD t (0, 0, 0, 0, 0, ())).1 = 2
        · obtain ⟨k0, k1⟩ := g4 o2
          obtain ⟨s0, s1, s2⟩ := hS (code.getD t (0, 0, 0, 0, 0, ())).2.2.2.2.1.toNat (by omega)
          simp only [o2, show ((2 : Int) == 1) = false from rfl, beq_self_eq_true, cond_true, cond_false, inb_ok (n := is.length) k0 (by omega), inb_ok (n := is.length) g5.1 (by omega)]
          refine next T M _ hT List.prefix_rfl (by omega) s0 s1 fun hv h => ?_
          rw [s2 hv h, if_neg o1, if_pos o2]
        · obtain ⟨a0, a1, b0, b1⟩ := g6 (by omega)
          obtain ⟨s0, s1, s2⟩ := hS (code.getD t (0, 0, 0, 0, 0, ())).2.2.1.toNat (by omega)
          obtain ⟨r0, r1, r2⟩ := hS (code.getD t (0, 0, 0, 0, 0, ())).2.2.2.1.toNat (by omega)
          obtain ⟨T', M', i, e, q1, q2, q3, q4, q5, q6⟩ := put_F (nf := nf) hT (x := ((code.getD t (0, 0, 0, 0, 0, ())).1, is.getD (code.getD t (0, 0, 0, 0, 0, ())).2.2.1.toNat 0, is.getD (code.getD t (0, 0, 0, 0, 0, ())).2.2.2.1.toNat 0, 0, ())) ⟨g1, g2, fun h => absurd h o1, fun h => absurd h o2, fun _ => ⟨s0, s1, r0, r1⟩⟩ (by omega)
          simp only [beq_f o1, beq_f o2, cond_false, inb_ok (n := is.length) a0 (by omega), inb_ok (n := is.length) b0 (by omega), cond_true]
          rw [e]
          simp only [Option.bind_some, inb_ok (n := is.length) g5.1 (by omega), cond_true]
          refine next T' M' i q1 q2 q3 q4 q5 fun hv h => ?_
          rw [vat_one q1.tok q4 q5, q6, if_neg o1, if_neg o2]
          unfold valOne
          rw [if_neg o1, if_neg o2]
          have ea := vat_pre (hv := hv) q2 s0 s1
          have eb := vat_pre (hv := hv) q2 r0 r1
          unfold vat at ea eb s2 r2
          simp only
          rw [ea, eb, s2 hv h, r2 hv h]
    · have he : t = code.length := by omega
      subst he
      have htk : code.take code.length = code := List.take_length
      rw [htk] at hS
      have := ahead_l5 (nf := nf) hv6 hpc hil (W := fun hv => code.foldl stpDo hv) (fun hv h => by have := hWt code.length hv h; rwa [htk] at this) nf 0 T M [] hT (by omega) hS rfl (fun v hv => by omega) (by omega) (by omega)
      simp only [Int.lt_irrefl, decide_false, cond_false]
      exact this

theorem ahead_l0 (hv1 : 1 ≤ vars) (hv6 : vars ≤ 6) (hpc : termCode vars post = 0) (hc : ∀ s ∈ code, stepCode vars vars s = 0) (hcl : code.length ≤ 20) (hn : 100 ≤ nf) :
    ∀ (fu t : Nat) (T : List Term5) (M : List (Term5 × Int)) (is : List Int), Tms vars T M → T.length ≤ t → (is.length : Int) = vars → Stand vars T is (fun hv => hv) t → (t : Int) ≤ vars → vars - t < fu →
      ∃ L, weak_Ahead_l0 nf code post vars fu is (T, M, ()) t = some (L, 0, ()) ∧ (∀ i, i < L.length → TOK vars i (L.getD i T0)) ∧ 1 ≤ L.length ∧ L.length ≤ 50 ∧ ∀ hv, Vars vars hv → valOf L hv = valOf post (code.foldl stpDo hv)
  | 0, t, _, _, _, _, _, _, _, _, h => by omega
  | fu + 1, t, T, M, is, hT, hTl, hil, hS, h0, h1 => by
    rw [weak_Ahead_l0, weak_Ahead_b0]
    have hrl : (((List.replicate vars.toNat (0 : Int)).length : Nat) : Int) = vars := by simp; omega
    by_cases ht : (t : Int) < vars
    · have hw : IntKind.i64.wrap ((t : Int) + 1) = ((t + 1 : Nat) : Int) := by rw [Go.IntWalk.i64_in _ (by omega)]; rfl
      obtain ⟨T', M', i, e, q1, q2, q3, q4, q5, q6⟩ := put_F (nf := nf) hT (x := (2, 0, 0, (t : Int), ())) ⟨by simp, by simp, fun h => by simp at h, fun _ => ⟨by simp, by simpa using ht⟩, fun h => by simp at h⟩ (by omega)
      simp only [hrl, ht, decide_true, cond_true]
      rw [e]
      simp only [Option.bind_some, inb_ok (n := is.length) (t := (t : Int)) (by omega) (by omega), cond_true, Int.toNat_natCast, hw]
      refine ahead_l0 hv1 hv6 hpc hc hcl hn fu (t + 1) T' M' _ q1 (by omega) (by simpa using hil) (fun v hv => ?_) (by omega) (by omega)
      rw [getD_upd (by omega)]
      split
      · rename_i hve
        refine ⟨q4, q5, fun hv' h' => ?_⟩
        rw [vat_one q1.tok q4 q5, q6, hve]
        unfold valOne
        simp
      · exact hS.mono q2 v (by omega)
    · have he : (t : Int) = vars := by omega
      simp only [hrl, ht, decide_false, cond_false]
      have := ahead_l2 (nf := nf) hv6 hpc hc hcl hn nf 0 T M is hT (by omega) hil (by have e : is.length = t := by omega
                                                                                      rw [e]; simpa using hS) (by omega) (by omega)
      exact this

theorem law_l0 {have' : List Int} {r : List Term5 × Int × Unit} {L : List Term5} (hr : r.1 = L) (hn : 100 ≤ nf) (hL : ∀ i, i < L.length → TOK vars i (L.getD i T0)) (hll : L.length ≤ 50) (K : Option (Bool × Unit))
    (hK : (Option.bind (ref_HaveCheck_f nf vars have') fun r11 => bif r11.fst != 0 then some ((true, ())) else Option.bind (ref_Term_f nf L have') fun r12 => Option.bind (ref_Doing_f nf code have') fun r13 => Option.bind (ref_Term_f nf post r13.fst) fun r14 => some ((r12.fst == r14.fst, ()))) = K) : ∀ (fu t : Nat), t ≤ L.length → L.length - t < fu → law_WeakAheads_l0 nf vars code post have' r fu L t = K
  | 0, t, h0, h1 => by omega
  | fu + 1, t, h0, h1 => by
    rw [law_WeakAheads_l0, law_WeakAheads_b0, hr]
    by_cases ht : t < L.length
    · have hw : IntKind.i64.wrap ((t : Int) + 1) = ((t + 1 : Nat) : Int) := by rw [Go.IntWalk.i64_in _ (by omega)]; rfl
      have hb : inb (t : Int) L.length = true := inb_ok (by omega) (by omega)
      have ih := law_l0 hr hn hL hll K hK fu (t + 1) (by omega) (by omega)
      have hk := hL t ht
      have hlo := hk.lo
      have hhi := hk.hi
      simp only [show (t : Int) < (L.length : Int) by omega, decide_true, cond_true, hb, Int.toNat_natCast, hw, ih, show ¬ (L.getD t T0).1 < 1 by omega, show ¬ (L.getD t T0).1 > 6 by omega, decide_false, cond_false, value_F', within_F (nf := nf) _ [_] (by simp [maxLen]) (show ([_] : List Int).length < nf by simp; omega), within_F (nf := nf) _ [_, _] (by simp [maxLen]) (show ([_, _] : List Int).length < nf by simp; omega), Option.bind_some, within, List.all_cons, List.all_nil, Bool.and_true]
      by_cases o1 : (L.getD t T0).1 = 1
      · obtain ⟨k0, k1⟩ := hk.one o1
        simp only [o1, beq_self_eq_true, cond_true, k0, k1, decide_true, Bool.and_self, Bool.not_true, cond_false, show ((1 : Int) == 2) = false from rfl, show ¬ (1 : Int) ≥ 3 by omega, decide_false]
      · by_cases o2 : (L.getD t T0).1 = 2
        · obtain ⟨k0, k1⟩ := hk.two o2
          simp only [o2, beq_self_eq_true, cond_true, k0, k1, decide_true, Bool.and_self, Bool.not_true, cond_false, show ((2 : Int) == 1) = false from rfl, show ¬ (2 : Int) ≥ 3 by omega, decide_false]
        · obtain ⟨a0, a1, b0, b1⟩ := hk.more (by omega)
          simp only [beq_f o1, beq_f o2, cond_false, show (L.getD t T0).1 ≥ 3 by omega, a0, a1, b0, b1, decide_true, Bool.and_self, Bool.not_true, cond_true]
    · simp only [show ¬ (t : Int) < (L.length : Int) by omega, decide_false, cond_false]
      exact hK

theorem one_code (vars : Int) (code : List Step6) (h : progCode vars [(code, -1, -1, 0, ())] = 0) (hm : code.length ≤ maxLen) : 1 ≤ vars ∧ vars ≤ 6 ∧ code.length ≤ 20 ∧ ∀ s ∈ code, stepCode vars vars s = 0 := by
  obtain ⟨h1, h2, _, _, h3⟩ := progCode_ok h
  have hb := blocksGo_ok h3 (code, -1, -1, 0, ()) (by simp)
  obtain ⟨h4, _⟩ := blockCode_ok hb
  refine ⟨h1, h2, ?_, stepsGo_all h4⟩
  have hmany : ¬ manyGo [(code, (-1 : Int), (-1 : Int), (0 : Int), ())] 0 > 20 := fun hc => by
    unfold progCode at h
    rw [if_pos (by simp [hc])] at h
    omega
  simp only [manyGo] at hmany
  rw [Go.IntWalk.i64_in _ (by simp [maxLen] at hm; omega)] at hmany
  omega

theorem weakAheads_main (vars : Int) (code : List Step6) (post : List Term5) (have' : List Int) (hm : code.length ≤ maxLen) (hh : have'.length ≤ maxLen) : law_WeakAheads_f (code.length + have'.length + 300) vars code post have' = some (true, ()) := by
  have hfit : Fits (code.length + have'.length + 300) [(code, (-1 : Int), (-1 : Int), (0 : Int), ())] := ⟨by simp [maxLen], by simp, fun b hb => by simp at hb; subst hb; exact ⟨hm, by simp; omega⟩⟩
  simp only [law_WeakAheads_f, law_WeakAheads_p, weak_Ahead_f, weak_Ahead_p, weak_wrong_f, weak_wrong_p, law_codeCode_f, law_codeCode_p]
  simp only [block_Check_F hfit vars, ref_ProgCheck_F (nf := code.length + have'.length + 300) (by omega) hfit vars, term_F (nf := code.length + have'.length + 300) (by omega) vars post, terms_F' (nf := code.length + have'.length + 300) (by omega) vars post, Option.bind_some]
  by_cases hc : progCode vars [(code, (-1 : Int), (-1 : Int), (0 : Int), ())] = 0
  · by_cases hp : termCode vars post = 0
    · obtain ⟨hv1, hv6, hcl, hcs⟩ := one_code vars code hc hm
      obtain ⟨L, e, l1, l2, l3, l4⟩ := ahead_l0 (nf := code.length + have'.length + 300) hv1 hv6 hp hcs hcl (by omega) (code.length + have'.length + 300) 0 [] [] (List.replicate vars.toNat 0) ⟨fun i hi => by simp at hi, fun x i hx => by cases hx⟩ (by simp) (by simp; omega) (fun v hv => by omega) (by omega) (by omega)
      have hlim : vars ≤ (lim : Int) := by have : lim = 4294967296 := rfl; omega
      simp only [hc, hp, bne_self_eq_false, cond_false, show (0 : Int) ≤ vars by omega, Int.le_refl, hlim, decide_true, Bool.and_self, cond_true, beq_self_eq_true]
      rw [show weak_Ahead_l0 (code.length + have'.length + 300) code post vars (code.length + have'.length + 300) (List.replicate vars.toNat 0) ([], [], ()) 0 = _ from e]
      simp only [Option.bind_some, bne_self_eq_false, cond_false]
      have hln : ((L.length : Int) == 0) = false := by simp; intro h; simp [h] at l2
      rw [hln, cond_false]
      refine law_l0 (nf := code.length + have'.length + 300) (L := L) rfl (by omega) l1 l3 (some (true, ())) ?_ (code.length + have'.length + 300) 0 (by omega) (by omega)
      rw [haveCheck_F vars have' hh (by omega)]
      simp only [Option.bind_some]
      by_cases hq : haveCode vars have' = 0
      · obtain ⟨h1, h2⟩ := haveCode_ok hq
        obtain ⟨_, _, hp1, hp16, hpg⟩ := termCode_ok hp
        have hV : Vars vars have' := ⟨h1, h2⟩
        obtain ⟨_, d2, d3⟩ := doing_F (nf := code.length + have'.length + 300) hv1 hv6 hcs hm (by omega) hV
        rw [refTerm_F (nf := code.length + have'.length + 300) l2 (by omega) (of_tok L 0 (by simpa using l1)) h1 h2 (by omega), d2]
        simp only [Option.bind_some]
        rw [refTerm_F (nf := code.length + have'.length + 300) hp1 (by omega) hpg d3.len d3.ok (by omega)]
        simp [hq, l4 have' hV]
      · simp [bne_t hq]
    · simp [hc, bne_t hp]
  · simp [beq_f hc, bne_t hc]

theorem weakAheads_law (x : denPs (lawPs [.int .i64, .sl (.pair (.int .i64) (.pair (.int .i64) (.pair (.int .i64) (.pair (.int .i64) (.pair (.int .i64) .unit))))), .sl (.pair (.int .i64) (.pair (.int .i64) (.pair (.int .i64) (.pair (.int .i64) .unit)))), .sl (.int .i64)])) (h : wfPs [.int .i64, .sl (.pair (.int .i64) (.pair (.int .i64) (.pair (.int .i64) (.pair (.int .i64) (.pair (.int .i64) .unit))))), .sl (.pair (.int .i64) (.pair (.int .i64) (.pair (.int .i64) (.pair (.int .i64) .unit)))), .sl (.int .i64)] x) : ∃ n, law_WeakAheads_F n x = some (true, ()) := by
  obtain ⟨vars, code, post, hv, _⟩ := x
  obtain ⟨_, ⟨hm, _⟩, _, ⟨hh, _⟩, _⟩ := h
  exact ⟨_, weakAheads_main vars code post hv hm hh⟩
end Go.Proofs.Ytpnganfbonlphaa
