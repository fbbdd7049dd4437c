/- The functions of the code, as plain functions, and the theorems that say so: made by a program of this proof's own. -/
import Derived.Test.YtoglkjmdloppcaaAbCheck
import Derived.Test.YtoglkjmdloppcaaDelM
import Derived.Test.YtoglkjmdloppcaaChecked
namespace Go.Proofs.Ytoglkjmdloppcaa.S
open Go Go.Ab
noncomputable section
def bkl : List (Nat × Bk) := []
def tyL : List (Nat × Ty) := [(2, .int .i64), (3, .int .i64), (4, .bool), (5, .int .u8), (6, .int .u8), (7, .pair (.int .i64) (.pair (.int .i64) (.pair (.bool) (.pair (.int .u8) (.unit))))), (8, .pair (.int .i64) (.pair (.int .i64) (.pair (.bool) (.pair (.int .u8) (.unit))))), (12, .int .u64), (21, .int .i32), (22, .sl (.sl (.int .i64))), (23, .sl (.int .u32)), (24, .int .u32), (25, .pair (.bool) (.pair (.bool) (.pair (.sl (.int .u32)) (.pair (.sl (.int .u32)) (.pair (.int .u32) (.unit)))))), (26, .pair (.bool) (.pair (.bool) (.pair (.sl (.int .u32)) (.pair (.sl (.int .u32)) (.pair (.int .u32) (.unit)))))), (27, .int .i64), (34, .sl (.int .i64)), (40, .sl (.pair (.sl (.pair (.int .i64) (.pair (.sl (.int .i64)) (.unit)))) (.pair (.sl (.pair (.int .i64) (.pair (.int .i64) (.pair (.int .i64) (.pair (.int .i64) (.pair (.int .i64) (.unit))))))) (.pair (.int .i64) (.pair (.int .i64) (.pair (.int .i64) (.pair (.sl (.int .i64)) (.unit)))))))), (45, .sl (.pair (.int .i64) (.pair (.int .i64) (.pair (.int .i64) (.pair (.int .i64) (.unit)))))), (46, .sl (.pair (.int .i64) (.pair (.int .i64) (.unit)))), (59, .sl (.pair (.int .i64) (.pair (.int .i64) (.unit)))), (69, .int .u64), (70, .mp (.int .i64) (.pair (.int .i64) (.pair (.int .i64) (.unit)))), (74, .sl (.pair (.sl (.pair (.int .i64) (.pair (.int .i64) (.pair (.int .i64) (.pair (.int .i64) (.pair (.int .i64) (.unit))))))) (.pair (.int .i64) (.pair (.int .i64) (.pair (.int .i64) (.unit)))))), (77, .pair (.int .i64) (.pair (.int .i64) (.unit))), (80, .sl (.pair (.int .i64) (.pair (.sl (.int .i64)) (.unit)))), (81, .sl (.pair (.int .i64) (.pair (.int .i64) (.pair (.int .i64) (.pair (.int .i64) (.pair (.int .i64) (.unit))))))), (82, .pair (.sl (.pair (.int .i64) (.pair (.sl (.int .i64)) (.unit)))) (.pair (.sl (.pair (.int .i64) (.pair (.int .i64) (.pair (.int .i64) (.pair (.int .i64) (.pair (.int .i64) (.unit))))))) (.pair (.int .i64) (.pair (.int .i64) (.pair (.int .i64) (.pair (.sl (.int .i64)) (.unit))))))), (83, .pair (.sl (.pair (.int .i64) (.pair (.sl (.int .i64)) (.unit)))) (.pair (.sl (.pair (.int .i64) (.pair (.int .i64) (.pair (.int .i64) (.pair (.int .i64) (.pair (.int .i64) (.unit))))))) (.pair (.int .i64) (.pair (.int .i64) (.pair (.int .i64) (.pair (.sl (.int .i64)) (.unit))))))), (84, .pair (.int .i64) (.pair (.sl (.int .i64)) (.unit))), (85, .pair (.int .i64) (.pair (.sl (.int .i64)) (.unit))), (86, .pair (.int .i64) (.pair (.int .i64) (.pair (.int .i64) (.pair (.int .i64) (.pair (.int .i64) (.unit)))))), (87, .pair (.int .i64) (.pair (.int .i64) (.pair (.int .i64) (.pair (.int .i64) (.pair (.int .i64) (.unit)))))), (96, .pair (.int .i64) (.pair (.int .i64) (.pair (.int .i64) (.pair (.int .i64) (.unit))))), (97, .pair (.int .i64) (.pair (.int .i64) (.pair (.int .i64) (.pair (.int .i64) (.unit))))), (98, .pair (.int .i64) (.pair (.int .i64) (.unit))), (99, .pair (.int .i64) (.pair (.int .i64) (.unit))), (103, .mp (.int .u32) (.int .i64)), (108, .mp (.int .u32) (.bool)), (117, .pair (.sl (.pair (.int .i64) (.pair (.int .i64) (.pair (.int .i64) (.pair (.int .i64) (.pair (.int .i64) (.unit))))))) (.pair (.int .i64) (.pair (.int .i64) (.pair (.int .i64) (.unit))))), (118, .pair (.sl (.pair (.int .i64) (.pair (.int .i64) (.pair (.int .i64) (.pair (.int .i64) (.pair (.int .i64) (.unit))))))) (.pair (.int .i64) (.pair (.int .i64) (.pair (.int .i64) (.unit))))), (125, .sl (.sl (.int .u32))), (136, .int .u8), (137, .int .u8), (140, .int .i32), (141, .int .i32)]
def mdL : List (Nat × Md) := [(2, .bor false true), (3, .bor false true), (4, .bor false true), (5, .bor false true), (6, .bor false true), (7, .bor false true), (8, .bor false true), (12, .bor false true), (21, .bor false true), (22, .own false (.bor false false)), (23, .own false (.bor false false)), (24, .bor false true), (25, .bor true false), (26, .bor true false), (27, .bor false true), (34, .own false (.bor false false)), (40, .own false (.bor false false)), (45, .own false (.bor false false)), (46, .own false (.bor false false)), (59, .own false (.bor false false)), (69, .bor false true), (70, .own false (.bor false false)), (74, .own false (.bor false false)), (77, .bor false true), (80, .own false (.bor false false)), (81, .own false (.bor false false)), (82, .bor true false), (83, .bor true false), (84, .bor true false), (85, .bor true false), (86, .bor false true), (87, .bor false true), (96, .bor false true), (97, .bor false true), (98, .bor false true), (99, .bor false true), (103, .own false (.bor false false)), (108, .own false (.bor false false)), (117, .bor true false), (118, .bor true false), (125, .own false (.bor false false)), (136, .bor false true), (137, .bor false true), (140, .bor false true), (141, .bor false true)]
def tab : Tab := ⟨lookT tyL, lookM mdL, hasT [77, 132], hasT [9, 10, 11], fun _ => none, lookB bkl⟩
theorem bkls : BkL Try.prog bkl := fun _ h => by cases h
theorem tabs : TabOK Try.prog tab ∧ EqOK Try.prog tab := tab_ok (by kernel_rfl) (by kernel_rfl)
theorem mixed : Try.prog.follows .mixedOrders = true := by kernel_rfl

/-! codemason codemasonlaw.holdCode -/
def law_holdCode_phi (nf : Nat) : Nat → Option Contract := lookC []
def law_holdCode_keep : Nat → List Nat := lookK []
def law_holdCode_p (nf : Nat)  (refs : List Int) (places : Int) : Option (Int × Unit) :=
  bif decide ((↑refs.length : Int) > 20) then
    some ((1, ()))
  else
    bif decide (places < 1) then
      some ((1, ()))
    else
      bif decide (places > 8) then
        some ((1, ()))
      else
        some ((0, ()))
def law_holdCode_f (nf : Nat) (refs : List Int) (places : Int) : Option (Int × Unit) := law_holdCode_p nf  refs places
theorem law_holdCode_eq (nf : Nat) (refs : List Int) (places : Int) : runF tab (law_holdCode_phi nf) law_holdCode_keep nf [PT.val (Ty.int IntKind.i64).sl (Md.bor true false), PT.val (Ty.int IntKind.i64) (Md.bor true false)] [(Ty.int IntKind.i64, Md.bor false true)] (resL ([]) Try.f25) (codeOf Try.f25) ⟨refs, places, ()⟩ = law_holdCode_f nf refs places := by
  have h : runF tab (law_holdCode_phi nf) law_holdCode_keep nf [PT.val (Ty.int IntKind.i64).sl (Md.bor true false), PT.val (Ty.int IntKind.i64) (Md.bor true false)] [(Ty.int IntKind.i64, Md.bor false true)] (resL ([]) Try.f25) (codeOf Try.f25) ⟨refs, places, ()⟩ = law_holdCode_p nf  refs places := by kernel_rfl
  exact h
def law_holdCode_F (nf : Nat) (x : denPs [.val (.sl (.int .i64)) (.bor true false), .val (.int .i64) (.bor true false)]) : Option (denL [(.int .i64, .bor false true)]) := law_holdCode_f nf x.1 x.2.1
def law_holdCode_C (nf : Nat) : Contract := ⟨[.val (.sl (.int .i64)) (.bor true false), .val (.int .i64) (.bor true false)], [(.int .i64, .bor false true)], law_holdCode_F nf, []⟩
theorem law_holdCode_ok : FnOK Try.prog 25 := ⟨Try.f25, codeOf Try.f25, Try.func25, by kernel_rfl, by kernel_rfl⟩
theorem law_holdCode_holds (nf : Nat) : Contract.Holds Try.prog 25 (law_holdCode_C nf) :=
  fn_holds (Φ := law_holdCode_phi nf) (keep := law_holdCode_keep) (n := nf) ⟨tabs.1, tabs.2, ctx_nil, mixed, bk_ok bkls rfl⟩ (fn := Try.f25) ⟨Try.func25, by kernel_rfl, by kernel_rfl, by kernel_rfl⟩ (fun x => law_holdCode_eq nf x.1 x.2.1)

/-! codemason hold.wrong -/
def hold_wrong_phi (nf : Nat) : Nat → Option Contract := lookC []
def hold_wrong_keep : Nat → List Nat := lookK []
def hold_wrong_p (nf : Nat)  (refs : List Int) (places : Int) : Option (Int × Unit) :=
  bif decide ((↑refs.length : Int) > 20) then
    some ((1, ()))
  else
    bif decide (places < 1) then
      some ((1, ()))
    else
      bif decide (places > 8) then
        some ((1, ()))
      else
        some ((0, ()))
def hold_wrong_f (nf : Nat) (refs : List Int) (places : Int) : Option (Int × Unit) := hold_wrong_p nf  refs places
theorem hold_wrong_eq (nf : Nat) (refs : List Int) (places : Int) : runF tab (hold_wrong_phi nf) hold_wrong_keep nf [PT.val (Ty.int IntKind.i64).sl (Md.bor true false), PT.val (Ty.int IntKind.i64) (Md.bor true false)] [(Ty.int IntKind.i64, Md.bor false true)] (resL ([]) Try.f60) (codeOf Try.f60) ⟨refs, places, ()⟩ = hold_wrong_f nf refs places := by
  have h : runF tab (hold_wrong_phi nf) hold_wrong_keep nf [PT.val (Ty.int IntKind.i64).sl (Md.bor true false), PT.val (Ty.int IntKind.i64) (Md.bor true false)] [(Ty.int IntKind.i64, Md.bor false true)] (resL ([]) Try.f60) (codeOf Try.f60) ⟨refs, places, ()⟩ = hold_wrong_p nf  refs places := by kernel_rfl
  exact h
def hold_wrong_F (nf : Nat) (x : denPs [.val (.sl (.int .i64)) (.bor true false), .val (.int .i64) (.bor true false)]) : Option (denL [(.int .i64, .bor false true)]) := hold_wrong_f nf x.1 x.2.1
def hold_wrong_C (nf : Nat) : Contract := ⟨[.val (.sl (.int .i64)) (.bor true false), .val (.int .i64) (.bor true false)], [(.int .i64, .bor false true)], hold_wrong_F nf, []⟩
theorem hold_wrong_ok : FnOK Try.prog 60 := ⟨Try.f60, codeOf Try.f60, Try.func60, by kernel_rfl, by kernel_rfl⟩
theorem hold_wrong_holds (nf : Nat) : Contract.Holds Try.prog 60 (hold_wrong_C nf) :=
  fn_holds (Φ := hold_wrong_phi nf) (keep := hold_wrong_keep) (n := nf) ⟨tabs.1, tabs.2, ctx_nil, mixed, bk_ok bkls rfl⟩ (fn := Try.f60) ⟨Try.func60, by kernel_rfl, by kernel_rfl, by kernel_rfl⟩ (fun x => hold_wrong_eq nf x.1 x.2.1)

/-! slices.Index   int int  -/
def slices_Index_phi (nf : Nat) : Nat → Option Contract := lookC []
def slices_Index_keep : Nat → List Nat := lookK [(0, [0, 1, 7, 8])]
def slices_Index_b0 (nf : Nat) (s : List Int) (v : Int) (g0 : Int → Option (Int × Unit)) (t8 : Int) : Option (Int × Unit) :=
  bif decide (t8 < (↑s.length : Int)) then
    bif inb t8 s.length then
      bif v == s.getD t8.toNat 0 then
        some ((t8, ()))
      else
        g0 (IntKind.i64.wrap (t8 + 1))
    else
      none
  else
    some ((-1, ()))
def slices_Index_p (nf : Nat) (l0 : List Int → Int → Int → Option (Int × Unit)) (s : List Int) (v : Int) : Option (Int × Unit) :=
  l0 s v 0
def slices_Index_l0 (nf : Nat) (s : List Int) (v : Int) : Nat → Int → Option (Int × Unit)
  | 0, _ => none
  | fu + 1, t8 => slices_Index_b0 nf  s v  (slices_Index_l0 nf s v  fu) t8
def slices_Index_f (nf : Nat) (s : List Int) (v : Int) : Option (Int × Unit) := slices_Index_p nf (fun p0 p1 v0 => slices_Index_l0 nf p0 p1 nf v0) s v
noncomputable def slices_Index_L0 (nf : Nat) : LC (Int × Unit) := theL (findL tab (slices_Index_phi nf) (fun _ F => iter nf F) slices_Index_keep 0 0 (codeOf Try.f63) (fin tab [(Ty.int IntKind.i64, Md.bor false true)] (resL ([]) Try.f63)) (fun _ _ => none) (fin tab [(Ty.int IntKind.i64, Md.bor false true)] (resL ([]) Try.f63)))
def slices_Index_m0 (s : List Int) (v : Int) (t8 : Int) : St := ⟨fresh, [(0, AV.v (Ty.int IntKind.i64).sl (Md.bor true false) s), (1, AV.v (Ty.int IntKind.i64) (Md.bor false true) v), (7, AV.v (Ty.int IntKind.i64) (Md.bor false true) (↑s.length : Int)), (8, AV.v (Ty.int IntKind.i64) (Md.bor false true) t8)]⟩
theorem slices_Index_h0 (nf : Nat)  (s : List Int) (v : Int) (fu : Nat) (t8 : Int) : iter (fu + 1) (LC.F tab (slices_Index_phi nf) (fun _ F => iter nf F) slices_Index_keep 0 (slices_Index_L0 nf )) (slices_Index_m0 s v t8) = slices_Index_b0 nf  s v  (fun t8 => iter fu (LC.F tab (slices_Index_phi nf) (fun _ F => iter nf F) slices_Index_keep 0 (slices_Index_L0 nf )) (slices_Index_m0 s v t8)) t8 := by kernel_rfl
theorem slices_Index_e0 (nf : Nat)  (s : List Int) (v : Int) : ∀ (fu : Nat) (t8 : Int), iter fu (LC.F tab (slices_Index_phi nf) (fun _ F => iter nf F) slices_Index_keep 0 (slices_Index_L0 nf )) (slices_Index_m0 s v t8) = slices_Index_l0 nf s v  fu t8 := by
  intro fu
  induction fu with
  | zero => intros; rfl
  | succ fu ih =>
    intro t8
    rw [slices_Index_h0 nf  s v fu t8]
    simp only [ih]
    rfl
theorem slices_Index_eq (nf : Nat) (s : List Int) (v : Int) : runF tab (slices_Index_phi nf) slices_Index_keep nf [PT.val (Ty.int IntKind.i64).sl (Md.bor true false), PT.val (Ty.int IntKind.i64) (Md.bor true false)] [(Ty.int IntKind.i64, Md.bor false true)] (resL ([]) Try.f63) (codeOf Try.f63) ⟨s, v, ()⟩ = slices_Index_f nf s v := by
  have h : runF tab (slices_Index_phi nf) slices_Index_keep nf [PT.val (Ty.int IntKind.i64).sl (Md.bor true false), PT.val (Ty.int IntKind.i64) (Md.bor true false)] [(Ty.int IntKind.i64, Md.bor false true)] (resL ([]) Try.f63) (codeOf Try.f63) ⟨s, v, ()⟩ = slices_Index_p nf (fun p0 p1 v0 => iter nf (LC.F tab (slices_Index_phi nf) (fun _ F => iter nf F) slices_Index_keep 0 (slices_Index_L0 nf)) (slices_Index_m0 p0 p1 v0)) s v := by kernel_rfl
  rw [h]
  simp only [slices_Index_e0]
  rfl
def slices_Index_F (nf : Nat) (x : denPs [.val (.sl (.int .i64)) (.bor true false), .val (.int .i64) (.bor true false)]) : Option (denL [(.int .i64, .bor false true)]) := slices_Index_f nf x.1 x.2.1
def slices_Index_C (nf : Nat) : Contract := ⟨[.val (.sl (.int .i64)) (.bor true false), .val (.int .i64) (.bor true false)], [(.int .i64, .bor false true)], slices_Index_F nf, []⟩
theorem slices_Index_ok : FnOK Try.prog 63 := ⟨Try.f63, codeOf Try.f63, Try.func63, by kernel_rfl, by kernel_rfl⟩
theorem slices_Index_holds (nf : Nat) : Contract.Holds Try.prog 63 (slices_Index_C nf) :=
  fn_holds (Φ := slices_Index_phi nf) (keep := slices_Index_keep) (n := nf) ⟨tabs.1, tabs.2, ctx_nil, mixed, bk_ok bkls rfl⟩ (fn := Try.f63) ⟨Try.func63, by kernel_rfl, by kernel_rfl, by kernel_rfl⟩ (fun x => slices_Index_eq nf x.1 x.2.1)

/-! codemason hold.Min 1 -/
def hold_Min_1_phi (nf : Nat) : Nat → Option Contract := lookC [(63, slices_Index_C nf)]
def hold_Min_1_keep : Nat → List Nat := lookK [(0, [0, 1, 2, 6, 7, 11, 12, 13])]
def hold_Min_1_b0 (nf : Nat) (k' : Int) (there : List Int) (c2 : List Int) (g0 : Int → Int → Int → Option (Int × Unit)) (best : Int) (far : Int) (t13 : Int) : Option (Int × Unit) :=
  bif decide (t13 < (↑there.length : Int)) then
    bif inb t13 there.length then
      bif decide (0 ≤ k') && decide (k' ≤ (↑c2.length : Int)) && decide ((↑c2.length : Int) ≤ (↑c2.length : Int)) then
        Option.bind (slices_Index_f nf (List.take ((↑c2.length : Int) - k').toNat (List.drop k'.toNat c2)) (there.getD t13.toNat 0)) fun r =>
        bif decide (r.fst < 0) then
          bif decide ((↑c2.length : Int) > far) then
            g0 t13 ((↑c2.length : Int)) (IntKind.i64.wrap (t13 + 1))
          else
            g0 best far (IntKind.i64.wrap (t13 + 1))
        else
          bif decide (r.fst > far) then
            g0 t13 r.fst (IntKind.i64.wrap (t13 + 1))
          else
            g0 best far (IntKind.i64.wrap (t13 + 1))
      else
        none
    else
      none
  else
    some ((best, ()))
def hold_Min_1_p (nf : Nat) (l0 : Int → List Int → List Int → Int → Int → Int → Option (Int × Unit)) (k' : Int) (there : List Int) (c2 : List Int) : Option (Int × Unit) :=
  l0 k' there c2 0 (-1) 0
def hold_Min_1_l0 (nf : Nat) (k' : Int) (there : List Int) (c2 : List Int) : Nat → Int → Int → Int → Option (Int × Unit)
  | 0, _, _, _ => none
  | fu + 1, best, far, t13 => hold_Min_1_b0 nf  k' there c2  (hold_Min_1_l0 nf k' there c2  fu) best far t13
def hold_Min_1_f (nf : Nat) (k' : Int) (there : List Int) (c2 : List Int) : Option (Int × Unit) := hold_Min_1_p nf (fun p0 p1 p2 v0 v1 v2 => hold_Min_1_l0 nf p0 p1 p2 nf v0 v1 v2) k' there c2
noncomputable def hold_Min_1_L0 (nf : Nat) : LC (Int × Unit) := theL (findL tab (hold_Min_1_phi nf) (fun _ F => iter nf F) hold_Min_1_keep 0 0 (codeOf Try.f64) (fin tab [(Ty.int IntKind.i64, Md.bor false true)] (resL ([]) Try.f64)) (fun _ _ => none) (fin tab [(Ty.int IntKind.i64, Md.bor false true)] (resL ([]) Try.f64)))
def hold_Min_1_m0 (k' : Int) (there : List Int) (c2 : List Int) (best : Int) (far : Int) (t13 : Int) : St := ⟨fresh, [(0, AV.v (Ty.int IntKind.i64) (Md.bor false true) k'), (1, AV.v (Ty.int IntKind.i64).sl (Md.bor true false) there), (2, AV.rop (Ty.int IntKind.i64).sl (Md.bor true false) c2), (6, AV.v (Ty.int IntKind.i64) (Md.bor false true) best), (7, AV.v (Ty.int IntKind.i64) (Md.bor false true) far), (11, AV.v (Ty.int IntKind.i64).sl (Md.bor true false) there), (12, AV.v (Ty.int IntKind.i64) (Md.bor false true) (↑there.length : Int)), (13, AV.v (Ty.int IntKind.i64) (Md.bor false true) t13)]⟩
theorem hold_Min_1_h0 (nf : Nat)  (k' : Int) (there : List Int) (c2 : List Int) (fu : Nat) (best : Int) (far : Int) (t13 : Int) : iter (fu + 1) (LC.F tab (hold_Min_1_phi nf) (fun _ F => iter nf F) hold_Min_1_keep 0 (hold_Min_1_L0 nf )) (hold_Min_1_m0 k' there c2 best far t13) = hold_Min_1_b0 nf  k' there c2  (fun best far t13 => iter fu (LC.F tab (hold_Min_1_phi nf) (fun _ F => iter nf F) hold_Min_1_keep 0 (hold_Min_1_L0 nf )) (hold_Min_1_m0 k' there c2 best far t13)) best far t13 := by kernel_rfl
theorem hold_Min_1_e0 (nf : Nat)  (k' : Int) (there : List Int) (c2 : List Int) : ∀ (fu : Nat) (best : Int) (far : Int) (t13 : Int), iter fu (LC.F tab (hold_Min_1_phi nf) (fun _ F => iter nf F) hold_Min_1_keep 0 (hold_Min_1_L0 nf )) (hold_Min_1_m0 k' there c2 best far t13) = hold_Min_1_l0 nf k' there c2  fu best far t13 := by
  intro fu
  induction fu with
  | zero => intros; rfl
  | succ fu ih =>
    intro best far t13
    rw [hold_Min_1_h0 nf  k' there c2 fu best far t13]
    simp only [ih]
    rfl
theorem hold_Min_1_eq (nf : Nat) (k' : Int) (there : List Int) (c2 : List Int) : runF tab (hold_Min_1_phi nf) hold_Min_1_keep nf [PT.val (Ty.int IntKind.i64) (Md.bor true false), PT.val (Ty.int IntKind.i64).sl (Md.bor true false), PT.ptr (Ty.int IntKind.i64).sl (Md.bor true false)] [(Ty.int IntKind.i64, Md.bor false true)] (resL ([]) Try.f64) (codeOf Try.f64) ⟨k', there, c2, ()⟩ = hold_Min_1_f nf k' there c2 := by
  have h : runF tab (hold_Min_1_phi nf) hold_Min_1_keep nf [PT.val (Ty.int IntKind.i64) (Md.bor true false), PT.val (Ty.int IntKind.i64).sl (Md.bor true false), PT.ptr (Ty.int IntKind.i64).sl (Md.bor true false)] [(Ty.int IntKind.i64, Md.bor false true)] (resL ([]) Try.f64) (codeOf Try.f64) ⟨k', there, c2, ()⟩ = hold_Min_1_p nf (fun p0 p1 p2 v0 v1 v2 => iter nf (LC.F tab (hold_Min_1_phi nf) (fun _ F => iter nf F) hold_Min_1_keep 0 (hold_Min_1_L0 nf)) (hold_Min_1_m0 p0 p1 p2 v0 v1 v2)) k' there c2 := by kernel_rfl
  rw [h]
  simp only [hold_Min_1_e0]
  rfl
def hold_Min_1_F (nf : Nat) (x : denPs [.val (.int .i64) (.bor true false), .val (.sl (.int .i64)) (.bor true false), .ptr (.sl (.int .i64)) (.bor true false)]) : Option (denL [(.int .i64, .bor false true)]) := hold_Min_1_f nf x.1 x.2.1 x.2.2.1
def hold_Min_1_C (nf : Nat) : Contract := ⟨[.val (.int .i64) (.bor true false), .val (.sl (.int .i64)) (.bor true false), .ptr (.sl (.int .i64)) (.bor true false)], [(.int .i64, .bor false true)], hold_Min_1_F nf, []⟩
theorem hold_Min_1_ok : FnOK Try.prog 64 := ⟨Try.f64, codeOf Try.f64, Try.func64, by kernel_rfl, by kernel_rfl⟩
theorem hold_Min_1_holds (nf : Nat) : Contract.Holds Try.prog 64 (hold_Min_1_C nf) :=
  fn_holds (Φ := hold_Min_1_phi nf) (keep := hold_Min_1_keep) (n := nf) ⟨tabs.1, tabs.2, (ctx_cons slices_Index_ok (slices_Index_holds nf) ctx_nil), mixed, bk_ok bkls rfl⟩ (fn := Try.f64) ⟨Try.func64, by kernel_rfl, by kernel_rfl, by kernel_rfl⟩ (fun x => hold_Min_1_eq nf x.1 x.2.1 x.2.2.1)

/-! codemason hold.play codemason hold.Min 1 -/
def hold_play__hold_Min_1_phi (nf : Nat) : Nat → Option Contract := lookC [(63, slices_Index_C nf), (64, hold_Min_1_C nf), (83, slices_Delete_C nf)]
def hold_play__hold_Min_1_keep : Nat → List Nat := lookK [(0, [0, 1, 2, 3, 9, 10, 15, 16, 17])]
def hold_play__hold_Min_1_b0 (nf : Nat) (refs : List Int) (places : Int) (again : Bool) (goes : List Int × Unit) (g0 : List Int → Int → Int → Option (Int × Unit)) (there : List Int) (miss : Int) (t17 : Int) : Option (Int × Unit) :=
  bif decide (t17 < (↑refs.length : Int)) then
    bif inb t17 refs.length then
      Option.bind (slices_Index_f nf there (refs.getD t17.toNat 0)) fun r =>
      bif decide (r.fst ≥ 0) then
        bif again then
          Option.bind (slices_Delete_f nf there r.fst (IntKind.i64.wrap (r.fst + 1))) fun r2 =>
          bif bimp false ![refs.getD t17.toNat 0].isEmpty && (List.length r2.fst + [refs.getD t17.toNat 0].length).ble lim then
            g0 (r2.fst ++ [refs.getD t17.toNat 0]) miss (IntKind.i64.wrap (t17 + 1))
          else
            none
        else
          g0 there miss (IntKind.i64.wrap (t17 + 1))
      else
        bif (↑there.length : Int) == places then
          Option.bind (hold_Min_1_f nf t17 there goes.fst) fun r3 =>
          bif decide (r3.fst < 0) then
            some ((-1, ()))
          else
            Option.bind (slices_Delete_f nf there r3.fst (IntKind.i64.wrap (r3.fst + 1))) fun r4 =>
            bif bimp false ![refs.getD t17.toNat 0].isEmpty && (List.length r4.fst + [refs.getD t17.toNat 0].length).ble lim then
              g0 (r4.fst ++ [refs.getD t17.toNat 0]) (IntKind.i64.wrap (miss + 1)) (IntKind.i64.wrap (t17 + 1))
            else
              none
        else
          bif bimp false ![refs.getD t17.toNat 0].isEmpty && (there.length + [refs.getD t17.toNat 0].length).ble lim then
            g0 (there ++ [refs.getD t17.toNat 0]) (IntKind.i64.wrap (miss + 1)) (IntKind.i64.wrap (t17 + 1))
          else
            none
    else
      none
  else
    some ((miss, ()))
def hold_play__hold_Min_1_p (nf : Nat) (l0 : List Int → Int → Bool → List Int × Unit → List Int → Int → Int → Option (Int × Unit)) (refs : List Int) (places : Int) (again : Bool) (goes : List Int × Unit) : Option (Int × Unit) :=
  l0 refs places again goes [] 0 0
def hold_play__hold_Min_1_l0 (nf : Nat) (refs : List Int) (places : Int) (again : Bool) (goes : List Int × Unit) : Nat → List Int → Int → Int → Option (Int × Unit)
  | 0, _, _, _ => none
  | fu + 1, there, miss, t17 => hold_play__hold_Min_1_b0 nf  refs places again goes  (hold_play__hold_Min_1_l0 nf refs places again goes  fu) there miss t17
def hold_play__hold_Min_1_f (nf : Nat) (refs : List Int) (places : Int) (again : Bool) (goes : List Int × Unit) : Option (Int × Unit) := hold_play__hold_Min_1_p nf (fun p0 p1 p2 p3 v0 v1 v2 => hold_play__hold_Min_1_l0 nf p0 p1 p2 p3 nf v0 v1 v2) refs places again goes
noncomputable def hold_play__hold_Min_1_L0 (nf : Nat) : LC (Int × Unit) := theL (findL tab (hold_play__hold_Min_1_phi nf) (fun _ F => iter nf F) hold_play__hold_Min_1_keep 0 0 (codeOf Try.f61) (fin tab [(Ty.int IntKind.i64, Md.bor false true)] (resL ([]) Try.f61)) (fun _ _ => none) (fin tab [(Ty.int IntKind.i64, Md.bor false true)] (resL ([]) Try.f61)))
def hold_play__hold_Min_1_m0 (refs : List Int) (places : Int) (again : Bool) (goes : List Int × Unit) (there : List Int) (miss : Int) (t17 : Int) : St := ⟨fresh, [(0, AV.v (Ty.int IntKind.i64).sl (Md.bor true false) refs), (1, AV.v (Ty.int IntKind.i64) (Md.bor false true) places), (2, AV.v Ty.bool (Md.bor false true) again), (3, AV.clo 64 [AV.rop (Ty.int IntKind.i64).sl (Md.bor true false) goes.fst]), (9, AV.ow 500009 (Ty.int IntKind.i64).sl (Md.own false (Md.bor false false)) there), (10, AV.v (Ty.int IntKind.i64) (Md.bor false true) miss), (15, AV.v (Ty.int IntKind.i64).sl (Md.bor true false) refs), (16, AV.v (Ty.int IntKind.i64) (Md.bor false true) (↑refs.length : Int)), (17, AV.v (Ty.int IntKind.i64) (Md.bor false true) t17)]⟩
theorem hold_play__hold_Min_1_h0 (nf : Nat)  (refs : List Int) (places : Int) (again : Bool) (goes : List Int × Unit) (fu : Nat) (there : List Int) (miss : Int) (t17 : Int) : iter (fu + 1) (LC.F tab (hold_play__hold_Min_1_phi nf) (fun _ F => iter nf F) hold_play__hold_Min_1_keep 0 (hold_play__hold_Min_1_L0 nf )) (hold_play__hold_Min_1_m0 refs places again goes there miss t17) = hold_play__hold_Min_1_b0 nf  refs places again goes  (fun there miss t17 => iter fu (LC.F tab (hold_play__hold_Min_1_phi nf) (fun _ F => iter nf F) hold_play__hold_Min_1_keep 0 (hold_play__hold_Min_1_L0 nf )) (hold_play__hold_Min_1_m0 refs places again goes there miss t17)) there miss t17 := by kernel_rfl
theorem hold_play__hold_Min_1_e0 (nf : Nat)  (refs : List Int) (places : Int) (again : Bool) (goes : List Int × Unit) : ∀ (fu : Nat) (there : List Int) (miss : Int) (t17 : Int), iter fu (LC.F tab (hold_play__hold_Min_1_phi nf) (fun _ F => iter nf F) hold_play__hold_Min_1_keep 0 (hold_play__hold_Min_1_L0 nf )) (hold_play__hold_Min_1_m0 refs places again goes there miss t17) = hold_play__hold_Min_1_l0 nf refs places again goes  fu there miss t17 := by
  intro fu
  induction fu with
  | zero => intros; rfl
  | succ fu ih =>
    intro there miss t17
    rw [hold_play__hold_Min_1_h0 nf  refs places again goes fu there miss t17]
    simp only [ih]
    rfl
theorem hold_play__hold_Min_1_eq (nf : Nat) (refs : List Int) (places : Int) (again : Bool) (goes : List Int × Unit) : runF tab (hold_play__hold_Min_1_phi nf) hold_play__hold_Min_1_keep nf [PT.val (Ty.int IntKind.i64).sl (Md.bor true false), PT.val (Ty.int IntKind.i64) (Md.bor true false), PT.val Ty.bool (Md.bor true false), PT.clo 64 [((Ty.int IntKind.i64).sl, Md.bor true false)]] [(Ty.int IntKind.i64, Md.bor false true)] (resL ([]) Try.f61) (codeOf Try.f61) ⟨refs, places, again, goes, ()⟩ = hold_play__hold_Min_1_f nf refs places again goes := by
  have h : runF tab (hold_play__hold_Min_1_phi nf) hold_play__hold_Min_1_keep nf [PT.val (Ty.int IntKind.i64).sl (Md.bor true false), PT.val (Ty.int IntKind.i64) (Md.bor true false), PT.val Ty.bool (Md.bor true false), PT.clo 64 [((Ty.int IntKind.i64).sl, Md.bor true false)]] [(Ty.int IntKind.i64, Md.bor false true)] (resL ([]) Try.f61) (codeOf Try.f61) ⟨refs, places, again, goes, ()⟩ = hold_play__hold_Min_1_p nf (fun p0 p1 p2 p3 v0 v1 v2 => iter nf (LC.F tab (hold_play__hold_Min_1_phi nf) (fun _ F => iter nf F) hold_play__hold_Min_1_keep 0 (hold_play__hold_Min_1_L0 nf)) (hold_play__hold_Min_1_m0 p0 p1 p2 p3 v0 v1 v2)) refs places again goes := by kernel_rfl
  rw [h]
  simp only [hold_play__hold_Min_1_e0]
  rfl
def hold_play__hold_Min_1_F (nf : Nat) (x : denPs [.val (.sl (.int .i64)) (.bor true false), .val (.int .i64) (.bor true false), .val (.bool) (.bor true false), .clo 64 [(.sl (.int .i64), .bor true false)]]) : Option (denL [(.int .i64, .bor false true)]) := hold_play__hold_Min_1_f nf x.1 x.2.1 x.2.2.1 x.2.2.2.1
def hold_play__hold_Min_1_C (nf : Nat) : Contract := ⟨[.val (.sl (.int .i64)) (.bor true false), .val (.int .i64) (.bor true false), .val (.bool) (.bor true false), .clo 64 [(.sl (.int .i64), .bor true false)]], [(.int .i64, .bor false true)], hold_play__hold_Min_1_F nf, []⟩
theorem hold_play__hold_Min_1_ok : FnOK Try.prog 61 := ⟨Try.f61, codeOf Try.f61, Try.func61, by kernel_rfl, by kernel_rfl⟩
theorem hold_play__hold_Min_1_holds (nf : Nat) : Contract.Holds Try.prog 61 (hold_play__hold_Min_1_C nf) :=
  fn_holds (Φ := hold_play__hold_Min_1_phi nf) (keep := hold_play__hold_Min_1_keep) (n := nf) ⟨tabs.1, tabs.2, (ctx_cons slices_Index_ok (slices_Index_holds nf) (ctx_cons hold_Min_1_ok (hold_Min_1_holds nf) (ctx_cons slices_Delete_ok (slices_Delete_holds nf) ctx_nil))), mixed, bk_ok bkls rfl⟩ (fn := Try.f61) ⟨Try.func61, by kernel_rfl, by kernel_rfl, by kernel_rfl⟩ (fun x => hold_play__hold_Min_1_eq nf x.1 x.2.1 x.2.2.1 x.2.2.2.1)

/-! codemason hold.Min -/
def hold_Min_phi (nf : Nat) : Nat → Option Contract := lookC [(60, hold_wrong_C nf), (61, hold_play__hold_Min_1_C nf)]
def hold_Min_keep : Nat → List Nat := lookK []
def hold_Min_p (nf : Nat)  (refs : List Int) (places : Int) : Option (Int × Int × Unit) :=
  Option.bind (hold_wrong_f nf refs places) fun r =>
  bif r.fst != 0 then
    some ((0, r.fst, ()))
  else
    Option.bind (hold_play__hold_Min_1_f nf refs places false ((refs, ()))) fun r2 =>
    some ((r2.fst, 0, ()))
def hold_Min_f (nf : Nat) (refs : List Int) (places : Int) : Option (Int × Int × Unit) := hold_Min_p nf  refs places
theorem hold_Min_eq (nf : Nat) (refs : List Int) (places : Int) : runF tab (hold_Min_phi nf) hold_Min_keep nf [PT.val (Ty.int IntKind.i64).sl (Md.bor true false), PT.val (Ty.int IntKind.i64) (Md.bor true false)] [(Ty.int IntKind.i64, Md.bor false true), (Ty.int IntKind.i64, Md.bor false true)] (resL ([]) Try.f26) (codeOf Try.f26) ⟨refs, places, ()⟩ = hold_Min_f nf refs places := by
  have h : runF tab (hold_Min_phi nf) hold_Min_keep nf [PT.val (Ty.int IntKind.i64).sl (Md.bor true false), PT.val (Ty.int IntKind.i64) (Md.bor true false)] [(Ty.int IntKind.i64, Md.bor false true), (Ty.int IntKind.i64, Md.bor false true)] (resL ([]) Try.f26) (codeOf Try.f26) ⟨refs, places, ()⟩ = hold_Min_p nf  refs places := by kernel_rfl
  exact h
def hold_Min_F (nf : Nat) (x : denPs [.val (.sl (.int .i64)) (.bor true false), .val (.int .i64) (.bor true false)]) : Option (denL [(.int .i64, .bor false true), (.int .i64, .bor false true)]) := hold_Min_f nf x.1 x.2.1
def hold_Min_C (nf : Nat) : Contract := ⟨[.val (.sl (.int .i64)) (.bor true false), .val (.int .i64) (.bor true false)], [(.int .i64, .bor false true), (.int .i64, .bor false true)], hold_Min_F nf, []⟩
theorem hold_Min_ok : FnOK Try.prog 26 := ⟨Try.f26, codeOf Try.f26, Try.func26, by kernel_rfl, by kernel_rfl⟩
theorem hold_Min_holds (nf : Nat) : Contract.Holds Try.prog 26 (hold_Min_C nf) :=
  fn_holds (Φ := hold_Min_phi nf) (keep := hold_Min_keep) (n := nf) ⟨tabs.1, tabs.2, (ctx_cons hold_wrong_ok (hold_wrong_holds nf) (ctx_cons hold_play__hold_Min_1_ok (hold_play__hold_Min_1_holds nf) ctx_nil)), mixed, bk_ok bkls rfl⟩ (fn := Try.f26) ⟨Try.func26, by kernel_rfl, by kernel_rfl, by kernel_rfl⟩ (fun x => hold_Min_eq nf x.1 x.2.1)

/-! codemason codemasonref.Has -/
def ref_Has_phi (nf : Nat) : Nat → Option Contract := lookC []
def ref_Has_keep : Nat → List Nat := lookK [(0, [0, 1, 7, 8, 9])]
def ref_Has_b0 (nf : Nat) (l' : List Int) (x : Int) (g0 : Int → Option (Bool × Unit)) (t9 : Int) : Option (Bool × Unit) :=
  bif decide (t9 < (↑l'.length : Int)) then
    bif inb t9 l'.length then
      bif x == l'.getD t9.toNat 0 then
        some ((true, ()))
      else
        g0 (IntKind.i64.wrap (t9 + 1))
    else
      none
  else
    some ((false, ()))
def ref_Has_p (nf : Nat) (l0 : List Int → Int → Int → Option (Bool × Unit)) (l' : List Int) (x : Int) : Option (Bool × Unit) :=
  l0 l' x 0
def ref_Has_l0 (nf : Nat) (l' : List Int) (x : Int) : Nat → Int → Option (Bool × Unit)
  | 0, _ => none
  | fu + 1, t9 => ref_Has_b0 nf  l' x  (ref_Has_l0 nf l' x  fu) t9
def ref_Has_f (nf : Nat) (l' : List Int) (x : Int) : Option (Bool × Unit) := ref_Has_p nf (fun p0 p1 v0 => ref_Has_l0 nf p0 p1 nf v0) l' x
noncomputable def ref_Has_L0 (nf : Nat) : LC (Bool × Unit) := theL (findL tab (ref_Has_phi nf) (fun _ F => iter nf F) ref_Has_keep 0 0 (codeOf Try.f16) (fin tab [(Ty.bool, Md.bor false true)] (resL ([]) Try.f16)) (fun _ _ => none) (fin tab [(Ty.bool, Md.bor false true)] (resL ([]) Try.f16)))
def ref_Has_m0 (l' : List Int) (x : Int) (t9 : Int) : St := ⟨fresh, [(0, AV.v (Ty.int IntKind.i64).sl (Md.bor true false) l'), (1, AV.v (Ty.int IntKind.i64) (Md.bor false true) x), (7, AV.v (Ty.int IntKind.i64).sl (Md.bor true false) l'), (8, AV.v (Ty.int IntKind.i64) (Md.bor false true) (↑l'.length : Int)), (9, AV.v (Ty.int IntKind.i64) (Md.bor false true) t9)]⟩
theorem ref_Has_h0 (nf : Nat)  (l' : List Int) (x : Int) (fu : Nat) (t9 : Int) : iter (fu + 1) (LC.F tab (ref_Has_phi nf) (fun _ F => iter nf F) ref_Has_keep 0 (ref_Has_L0 nf )) (ref_Has_m0 l' x t9) = ref_Has_b0 nf  l' x  (fun t9 => iter fu (LC.F tab (ref_Has_phi nf) (fun _ F => iter nf F) ref_Has_keep 0 (ref_Has_L0 nf )) (ref_Has_m0 l' x t9)) t9 := by kernel_rfl
theorem ref_Has_e0 (nf : Nat)  (l' : List Int) (x : Int) : ∀ (fu : Nat) (t9 : Int), iter fu (LC.F tab (ref_Has_phi nf) (fun _ F => iter nf F) ref_Has_keep 0 (ref_Has_L0 nf )) (ref_Has_m0 l' x t9) = ref_Has_l0 nf l' x  fu t9 := by
  intro fu
  induction fu with
  | zero => intros; rfl
  | succ fu ih =>
    intro t9
    rw [ref_Has_h0 nf  l' x fu t9]
    simp only [ih]
    rfl
theorem ref_Has_eq (nf : Nat) (l' : List Int) (x : Int) : runF tab (ref_Has_phi nf) ref_Has_keep nf [PT.val (Ty.int IntKind.i64).sl (Md.bor true false), PT.val (Ty.int IntKind.i64) (Md.bor true false)] [(Ty.bool, Md.bor false true)] (resL ([]) Try.f16) (codeOf Try.f16) ⟨l', x, ()⟩ = ref_Has_f nf l' x := by
  have h : runF tab (ref_Has_phi nf) ref_Has_keep nf [PT.val (Ty.int IntKind.i64).sl (Md.bor true false), PT.val (Ty.int IntKind.i64) (Md.bor true false)] [(Ty.bool, Md.bor false true)] (resL ([]) Try.f16) (codeOf Try.f16) ⟨l', x, ()⟩ = ref_Has_p nf (fun p0 p1 v0 => iter nf (LC.F tab (ref_Has_phi nf) (fun _ F => iter nf F) ref_Has_keep 0 (ref_Has_L0 nf)) (ref_Has_m0 p0 p1 v0)) l' x := by kernel_rfl
  rw [h]
  simp only [ref_Has_e0]
  rfl
def ref_Has_F (nf : Nat) (x : denPs [.val (.sl (.int .i64)) (.bor true false), .val (.int .i64) (.bor true false)]) : Option (denL [(.bool, .bor false true)]) := ref_Has_f nf x.1 x.2.1
def ref_Has_C (nf : Nat) : Contract := ⟨[.val (.sl (.int .i64)) (.bor true false), .val (.int .i64) (.bor true false)], [(.bool, .bor false true)], ref_Has_F nf, []⟩
theorem ref_Has_ok : FnOK Try.prog 16 := ⟨Try.f16, codeOf Try.f16, Try.func16, by kernel_rfl, by kernel_rfl⟩
theorem ref_Has_holds (nf : Nat) : Contract.Holds Try.prog 16 (ref_Has_C nf) :=
  fn_holds (Φ := ref_Has_phi nf) (keep := ref_Has_keep) (n := nf) ⟨tabs.1, tabs.2, ctx_nil, mixed, bk_ok bkls rfl⟩ (fn := Try.f16) ⟨Try.func16, by kernel_rfl, by kernel_rfl, by kernel_rfl⟩ (fun x => ref_Has_eq nf x.1 x.2.1)

/-! codemason codemasonref.Bit -/
def ref_Bit_phi (nf : Nat) : Nat → Option Contract := lookC []
def ref_Bit_keep : Nat → List Nat := lookK []
def ref_Bit_p (nf : Nat)  (w : Int) (i : Int) : Option (Bool × Unit) :=
  bif decide (i ≥ 0) then
    bif decide (i < 32) then
      bif decide (0 ≤ IntKind.u64.wrap i) then
        some ((IntKind.u32.wrap (↑(BitVec.ofInt IntKind.u32.bits w &&& BitVec.ofInt IntKind.u32.bits (shlI IntKind.u32 1 (IntKind.u64.wrap i))).toNat : Int) != 0, ()))
      else
        none
    else
      some ((false, ()))
  else
    some ((false, ()))
def ref_Bit_f (nf : Nat) (w : Int) (i : Int) : Option (Bool × Unit) := ref_Bit_p nf  w i
theorem ref_Bit_eq (nf : Nat) (w : Int) (i : Int) : runF tab (ref_Bit_phi nf) ref_Bit_keep nf [PT.val (Ty.int IntKind.u32) (Md.bor true false), PT.val (Ty.int IntKind.i64) (Md.bor true false)] [(Ty.bool, Md.bor false true)] (resL ([]) Try.f37) (codeOf Try.f37) ⟨w, i, ()⟩ = ref_Bit_f nf w i := by
  have h : runF tab (ref_Bit_phi nf) ref_Bit_keep nf [PT.val (Ty.int IntKind.u32) (Md.bor true false), PT.val (Ty.int IntKind.i64) (Md.bor true false)] [(Ty.bool, Md.bor false true)] (resL ([]) Try.f37) (codeOf Try.f37) ⟨w, i, ()⟩ = ref_Bit_p nf  w i := by kernel_rfl
  exact h
def ref_Bit_F (nf : Nat) (x : denPs [.val (.int .u32) (.bor true false), .val (.int .i64) (.bor true false)]) : Option (denL [(.bool, .bor false true)]) := ref_Bit_f nf x.1 x.2.1
def ref_Bit_C (nf : Nat) : Contract := ⟨[.val (.int .u32) (.bor true false), .val (.int .i64) (.bor true false)], [(.bool, .bor false true)], ref_Bit_F nf, []⟩
theorem ref_Bit_ok : FnOK Try.prog 37 := ⟨Try.f37, codeOf Try.f37, Try.func37, by kernel_rfl, by kernel_rfl⟩
theorem ref_Bit_holds (nf : Nat) : Contract.Holds Try.prog 37 (ref_Bit_C nf) :=
  fn_holds (Φ := ref_Bit_phi nf) (keep := ref_Bit_keep) (n := nf) ⟨tabs.1, tabs.2, ctx_nil, mixed, bk_ok bkls rfl⟩ (fn := Try.f37) ⟨Try.func37, by kernel_rfl, by kernel_rfl, by kernel_rfl⟩ (fun x => ref_Bit_eq nf x.1 x.2.1)

/-! codemason codemasonref.Fewest 1 -/
def ref_Fewest_1_phi (nf : Nat) : Nat → Option Contract := lookC []
def ref_Fewest_1_keep : Nat → List Nat := lookK []
def ref_Fewest_1_p (nf : Nat)  (s : Int) (k' : Int) (c2 : List (Int × Int)) : Option (Option (List (Int × Int)) × Unit) :=
  bif !(getM (Ty.int IntKind.u32) (Ty.int IntKind.i64) c2 s).isSome then
    some ((some (insM (Ty.int IntKind.u32) (Ty.int IntKind.i64) c2 s k'), ()))
  else
    bif decide (k' < (getM (Ty.int IntKind.u32) (Ty.int IntKind.i64) c2 s).getD 0) then
      some ((some (insM (Ty.int IntKind.u32) (Ty.int IntKind.i64) c2 s k'), ()))
    else
      some ((some c2, ()))
def ref_Fewest_1_f (nf : Nat) (s : Int) (k' : Int) (c2 : List (Int × Int)) : Option (Option (List (Int × Int)) × Unit) := ref_Fewest_1_p nf  s k' c2
theorem ref_Fewest_1_eq (nf : Nat) (s : Int) (k' : Int) (c2 : List (Int × Int)) : runF tab (ref_Fewest_1_phi nf) ref_Fewest_1_keep nf [PT.val (Ty.int IntKind.u32) (Md.bor true false), PT.val (Ty.int IntKind.i64) (Md.bor true false), PT.box ((Ty.int IntKind.u32).mp (Ty.int IntKind.i64)) (Md.own true (Md.bor false false))] [(((Ty.int IntKind.u32).mp (Ty.int IntKind.i64)).bx, Md.own false (Md.own true (Md.bor false false)))] (resL ([2]) Try.f65) (codeOf Try.f65) ⟨s, k', c2, ()⟩ = ref_Fewest_1_f nf s k' c2 := by
  have h : runF tab (ref_Fewest_1_phi nf) ref_Fewest_1_keep nf [PT.val (Ty.int IntKind.u32) (Md.bor true false), PT.val (Ty.int IntKind.i64) (Md.bor true false), PT.box ((Ty.int IntKind.u32).mp (Ty.int IntKind.i64)) (Md.own true (Md.bor false false))] [(((Ty.int IntKind.u32).mp (Ty.int IntKind.i64)).bx, Md.own false (Md.own true (Md.bor false false)))] (resL ([2]) Try.f65) (codeOf Try.f65) ⟨s, k', c2, ()⟩ = ref_Fewest_1_p nf  s k' c2 := by kernel_rfl
  exact h
def ref_Fewest_1_F (nf : Nat) (x : denPs [.val (.int .u32) (.bor true false), .val (.int .i64) (.bor true false), .box (.mp (.int .u32) (.int .i64)) (.own true (.bor false false))]) : Option (denL [(.bx (.mp (.int .u32) (.int .i64)), .own false (.own true (.bor false false)))]) := ref_Fewest_1_f nf x.1 x.2.1 x.2.2.1
def ref_Fewest_1_C (nf : Nat) : Contract := ⟨[.val (.int .u32) (.bor true false), .val (.int .i64) (.bor true false), .box (.mp (.int .u32) (.int .i64)) (.own true (.bor false false))], [(.bx (.mp (.int .u32) (.int .i64)), .own false (.own true (.bor false false)))], ref_Fewest_1_F nf, [2]⟩
theorem ref_Fewest_1_ok : FnOK Try.prog 65 := ⟨Try.f65, codeOf Try.f65, Try.func65, by kernel_rfl, by kernel_rfl⟩
theorem ref_Fewest_1_holds (nf : Nat) : Contract.Holds Try.prog 65 (ref_Fewest_1_C nf) :=
  fn_holds (Φ := ref_Fewest_1_phi nf) (keep := ref_Fewest_1_keep) (n := nf) ⟨tabs.1, tabs.2, ctx_nil, mixed, bk_ok bkls rfl⟩ (fn := Try.f65) ⟨Try.func65, by kernel_rfl, by kernel_rfl, by kernel_rfl⟩ (fun x => ref_Fewest_1_eq nf x.1 x.2.1 x.2.2.1)

/-! codemason codemasonref.Size -/
def ref_Size_phi (nf : Nat) : Nat → Option Contract := lookC [(37, ref_Bit_C nf)]
def ref_Size_keep : Nat → List Nat := lookK [(0, [0, 3, 4])]
def ref_Size_b0 (nf : Nat) (w : Int) (g0 : Int → Int → Option (Int × Unit)) (n' : Int) (i : Int) : Option (Int × Unit) :=
  bif decide (i < 32) then
    Option.bind (ref_Bit_f nf w i) fun r =>
    bif r.fst then
      g0 (IntKind.i64.wrap (n' + 1)) (IntKind.i64.wrap (i + 1))
    else
      g0 n' (IntKind.i64.wrap (i + 1))
  else
    some ((n', ()))
def ref_Size_p (nf : Nat) (l0 : Int → Int → Int → Option (Int × Unit)) (w : Int) : Option (Int × Unit) :=
  l0 w 0 0
def ref_Size_l0 (nf : Nat) (w : Int) : Nat → Int → Int → Option (Int × Unit)
  | 0, _, _ => none
  | fu + 1, n', i => ref_Size_b0 nf  w  (ref_Size_l0 nf w  fu) n' i
def ref_Size_f (nf : Nat) (w : Int) : Option (Int × Unit) := ref_Size_p nf (fun p0 v0 v1 => ref_Size_l0 nf p0 nf v0 v1) w
noncomputable def ref_Size_L0 (nf : Nat) : LC (Int × Unit) := theL (findL tab (ref_Size_phi nf) (fun _ F => iter nf F) ref_Size_keep 0 0 (codeOf Try.f66) (fin tab [(Ty.int IntKind.i64, Md.bor false true)] (resL ([]) Try.f66)) (fun _ _ => none) (fin tab [(Ty.int IntKind.i64, Md.bor false true)] (resL ([]) Try.f66)))
def ref_Size_m0 (w : Int) (n' : Int) (i : Int) : St := ⟨fresh, [(0, AV.v (Ty.int IntKind.u32) (Md.bor false true) w), (3, AV.v (Ty.int IntKind.i64) (Md.bor false true) n'), (4, AV.v (Ty.int IntKind.i64) (Md.bor false true) i)]⟩
theorem ref_Size_h0 (nf : Nat)  (w : Int) (fu : Nat) (n' : Int) (i : Int) : iter (fu + 1) (LC.F tab (ref_Size_phi nf) (fun _ F => iter nf F) ref_Size_keep 0 (ref_Size_L0 nf )) (ref_Size_m0 w n' i) = ref_Size_b0 nf  w  (fun n' i => iter fu (LC.F tab (ref_Size_phi nf) (fun _ F => iter nf F) ref_Size_keep 0 (ref_Size_L0 nf )) (ref_Size_m0 w n' i)) n' i := by kernel_rfl
theorem ref_Size_e0 (nf : Nat)  (w : Int) : ∀ (fu : Nat) (n' : Int) (i : Int), iter fu (LC.F tab (ref_Size_phi nf) (fun _ F => iter nf F) ref_Size_keep 0 (ref_Size_L0 nf )) (ref_Size_m0 w n' i) = ref_Size_l0 nf w  fu n' i := by
  intro fu
  induction fu with
  | zero => intros; rfl
  | succ fu ih =>
    intro n' i
    rw [ref_Size_h0 nf  w fu n' i]
    simp only [ih]
    rfl
theorem ref_Size_eq (nf : Nat) (w : Int) : runF tab (ref_Size_phi nf) ref_Size_keep nf [PT.val (Ty.int IntKind.u32) (Md.bor true false)] [(Ty.int IntKind.i64, Md.bor false true)] (resL ([]) Try.f66) (codeOf Try.f66) ⟨w, ()⟩ = ref_Size_f nf w := by
  have h : runF tab (ref_Size_phi nf) ref_Size_keep nf [PT.val (Ty.int IntKind.u32) (Md.bor true false)] [(Ty.int IntKind.i64, Md.bor false true)] (resL ([]) Try.f66) (codeOf Try.f66) ⟨w, ()⟩ = ref_Size_p nf (fun p0 v0 v1 => iter nf (LC.F tab (ref_Size_phi nf) (fun _ F => iter nf F) ref_Size_keep 0 (ref_Size_L0 nf)) (ref_Size_m0 p0 v0 v1)) w := by kernel_rfl
  rw [h]
  simp only [ref_Size_e0]
  rfl
def ref_Size_F (nf : Nat) (x : denPs [.val (.int .u32) (.bor true false)]) : Option (denL [(.int .i64, .bor false true)]) := ref_Size_f nf x.1
def ref_Size_C (nf : Nat) : Contract := ⟨[.val (.int .u32) (.bor true false)], [(.int .i64, .bor false true)], ref_Size_F nf, []⟩
theorem ref_Size_ok : FnOK Try.prog 66 := ⟨Try.f66, codeOf Try.f66, Try.func66, by kernel_rfl, by kernel_rfl⟩
theorem ref_Size_holds (nf : Nat) : Contract.Holds Try.prog 66 (ref_Size_C nf) :=
  fn_holds (Φ := ref_Size_phi nf) (keep := ref_Size_keep) (n := nf) ⟨tabs.1, tabs.2, (ctx_cons ref_Bit_ok (ref_Bit_holds nf) ctx_nil), mixed, bk_ok bkls rfl⟩ (fn := Try.f66) ⟨Try.func66, by kernel_rfl, by kernel_rfl, by kernel_rfl⟩ (fun x => ref_Size_eq nf x.1)

/-! codemason codemasonref.Fewest -/
def ref_Fewest_phi (nf : Nat) : Nat → Option Contract := lookC [(16, ref_Has_C nf), (37, ref_Bit_C nf), (65, ref_Fewest_1_C nf), (66, ref_Size_C nf)]
def ref_Fewest_keep : Nat → List Nat := lookK [(10, [8, 14, 19, 37, 38, 107, 109, 110]), (8, [0, 1, 5, 8, 11, 14, 15, 16, 17, 18, 35, 37, 38, 39, 40, 41, 60, 61, 62, 107]), (6, [0, 1, 5, 8, 11, 14, 15, 35, 37, 38, 39, 40, 41, 60, 61, 62, 107]), (4, [0, 1, 5, 8, 10, 11, 14, 35, 37, 38, 39, 40, 41, 45, 46, 47, 107]), (2, [0, 1, 5, 8, 35, 37, 38, 39, 40, 41, 107]), (0, [0, 1, 5, 14, 22, 23, 24, 35, 107])]
def ref_Fewest_b0 (nf : Nat) (l2 : List Int → Int → List Int → List (Int × Int) → Int → Option (Int × Unit)) (refs : List Int) (places : Int) (g0 : List Int → Int → Option (Int × Unit)) (names : List Int) (t24 : Int) : Option (Int × Unit) :=
  bif decide (t24 < (↑refs.length : Int)) then
    bif inb t24 refs.length then
      Option.bind (ref_Has_f nf names (refs.getD t24.toNat 0)) fun r =>
      bif !r.fst then
        bif bimp false ![refs.getD t24.toNat 0].isEmpty && (names.length + [refs.getD t24.toNat 0].length).ble lim then
          g0 (names ++ [refs.getD t24.toNat 0]) (IntKind.i64.wrap (t24 + 1))
        else
          none
      else
        g0 names (IntKind.i64.wrap (t24 + 1))
    else
      none
  else
    l2 refs places names (insM (Ty.int IntKind.u32) (Ty.int IntKind.i64) [] 0 0) 0
def ref_Fewest_b2 (nf : Nat) (l4 : List Int → Int → Int → List Int → List Int → List (Int × Int) → Int → Int → Option (Int × Unit)) (l10 : List (Int × Int) → Int → List (Int × Int) → Option (Int × Unit)) (refs : List Int) (places : Int) (g2 : List Int → List (Int × Int) → Int → Option (Int × Unit)) (names2 : List Int) (now : List (Int × Int)) (t41 : Int) : Option (Int × Unit) :=
  bif decide (t41 < (↑refs.length : Int)) then
    bif inb t41 refs.length then
      l4 refs places t41 names2 names2 now 0 0
    else
      none
  else
    l10 now (-1) now
def ref_Fewest_b4 (nf : Nat) (l6 : List Int → Int → Int → Int → List Int → List (Int × Int) → List (Int × Int) → List (Int × Int) → Option (Int × Unit)) (refs : List Int) (places : Int) (t41 : Int) (names2 : List Int) (g2 : List Int → List (Int × Int) → Int → Option (Int × Unit)) (g4 : List Int → List (Int × Int) → Int → Int → Option (Int × Unit)) (names3 : List Int) (now2 : List (Int × Int)) (bit : Int) (t47 : Int) : Option (Int × Unit) :=
  bif decide (t47 < (↑names2.length : Int)) then
    bif inb t47 names3.length then
      bif names3.getD t47.toNat 0 == refs.getD t41.toNat 0 then
        bif decide (0 ≤ IntKind.u64.wrap t47) then
          g4 names3 now2 (shlI IntKind.u32 1 (IntKind.u64.wrap t47)) (IntKind.i64.wrap (t47 + 1))
        else
          none
      else
        g4 names3 now2 bit (IntKind.i64.wrap (t47 + 1))
    else
      none
  else
    l6 refs places bit t41 names3 now2 [] now2
def ref_Fewest_b6 (nf : Nat) (l8 : List Int → Int → Int → List (Int × Int) → Nat → Int → List Int → List (Int × Int) → List (Int × Int) → Int → Option (Int × Unit)) (refs : List Int) (places : Int) (bit : Int) (t41 : Int) (g2 : List Int → List (Int × Int) → Int → Option (Int × Unit)) (g6 : List Int → List (Int × Int) → List (Int × Int) → List (Int × Int) → Option (Int × Unit)) (names4 : List Int) (now3 : List (Int × Int)) (next : List (Int × Int)) (t62 : List (Int × Int)) : Option (Int × Unit) :=
  bif t62.isEmpty then
    g2 names4 next (IntKind.i64.wrap (t41 + 1))
  else
    agree t62.length fun i =>
    bif IntKind.u32.wrap (↑(BitVec.ofInt IntKind.u32.bits (t62.getD i (0, 0)).fst &&& BitVec.ofInt IntKind.u32.bits bit).toNat : Int) != 0 then
      Option.bind (ref_Fewest_1_f nf ((t62.getD i (0, 0)).fst) ((t62.getD i (0, 0)).snd) next) fun r2 =>
      Option.bind r2.fst fun r3 =>
      g6 names4 now3 r3 (t62.eraseIdx i)
    else
      Option.bind (ref_Size_f nf ((t62.getD i (0, 0)).fst)) fun r4 =>
      bif decide (r4.fst < places) then
        Option.bind (ref_Fewest_1_f nf (IntKind.u32.wrap (↑(BitVec.ofInt IntKind.u32.bits (t62.getD i (0, 0)).fst ||| BitVec.ofInt IntKind.u32.bits bit).toNat : Int)) (IntKind.i64.wrap ((t62.getD i (0, 0)).snd + 1)) next) fun r5 =>
        Option.bind r5.fst fun r6 =>
        g6 names4 now3 r6 (t62.eraseIdx i)
      else
        l8 refs places bit t62 i t41 names4 now3 next 0
def ref_Fewest_b8 (nf : Nat) (refs : List Int) (places : Int) (bit : Int) (t62 : List (Int × Int)) (i : Nat) (t41 : Int) (g6 : List Int → List (Int × Int) → List (Int × Int) → List (Int × Int) → Option (Int × Unit)) (g2 : List Int → List (Int × Int) → Int → Option (Int × Unit)) (g8 : List Int → List (Int × Int) → List (Int × Int) → Int → Option (Int × Unit)) (names5 : List Int) (now4 : List (Int × Int)) (next2 : List (Int × Int)) (i2 : Int) : Option (Int × Unit) :=
  bif decide (i2 < (↑names5.length : Int)) then
    Option.bind (ref_Bit_f nf ((t62.getD i (0, 0)).fst) i2) fun r7 =>
    bif r7.fst then
      bif decide (0 ≤ IntKind.u64.wrap i2) then
        Option.bind (ref_Fewest_1_f nf (IntKind.u32.wrap (↑(BitVec.ofInt IntKind.u32.bits (IntKind.u32.wrap ((t62.getD i (0, 0)).fst - shlI IntKind.u32 1 (IntKind.u64.wrap i2))) ||| BitVec.ofInt IntKind.u32.bits bit).toNat : Int)) (IntKind.i64.wrap ((t62.getD i (0, 0)).snd + 1)) next2) fun r8 =>
        Option.bind r8.fst fun r9 =>
        g8 names5 now4 r9 (IntKind.i64.wrap (i2 + 1))
      else
        none
    else
      g8 names5 now4 next2 (IntKind.i64.wrap (i2 + 1))
  else
    g6 names5 now4 next2 (t62.eraseIdx i)
def ref_Fewest_b10 (nf : Nat)  (g10 : List (Int × Int) → Int → List (Int × Int) → Option (Int × Unit)) (now5 : List (Int × Int)) (best : Int) (t110 : List (Int × Int)) : Option (Int × Unit) :=
  bif t110.isEmpty then
    some ((best, ()))
  else
    agree t110.length fun i3 =>
    bif decide (best < 0) then
      g10 now5 ((t110.getD i3 (0, 0)).snd) (t110.eraseIdx i3)
    else
      bif decide ((t110.getD i3 (0, 0)).snd < best) then
        g10 now5 ((t110.getD i3 (0, 0)).snd) (t110.eraseIdx i3)
      else
        g10 now5 best (t110.eraseIdx i3)
def ref_Fewest_p (nf : Nat) (l0 : List Int → Int → List Int → Int → Option (Int × Unit)) (refs : List Int) (places : Int) : Option (Int × Unit) :=
  l0 refs places [] 0
def ref_Fewest_l10 (nf : Nat)  : Nat → List (Int × Int) → Int → List (Int × Int) → Option (Int × Unit)
  | 0, _, _, _ => none
  | fu + 1, now5, best, t110 => ref_Fewest_b10 nf    (ref_Fewest_l10 nf   fu) now5 best t110
def ref_Fewest_l8 (nf : Nat) (refs : List Int) (places : Int) (bit : Int) (t62 : List (Int × Int)) (i : Nat) (t41 : Int) (g6 : List Int → List (Int × Int) → List (Int × Int) → List (Int × Int) → Option (Int × Unit)) (g2 : List Int → List (Int × Int) → Int → Option (Int × Unit)) : Nat → List Int → List (Int × Int) → List (Int × Int) → Int → Option (Int × Unit)
  | 0, _, _, _, _ => none
  | fu + 1, names5, now4, next2, i2 => ref_Fewest_b8 nf  refs places bit t62 i t41 g6 g2 (ref_Fewest_l8 nf refs places bit t62 i t41 g6 g2 fu) names5 now4 next2 i2
def ref_Fewest_l6 (nf : Nat) (refs : List Int) (places : Int) (bit : Int) (t41 : Int) (g2 : List Int → List (Int × Int) → Int → Option (Int × Unit)) : Nat → List Int → List (Int × Int) → List (Int × Int) → List (Int × Int) → Option (Int × Unit)
  | 0, _, _, _, _ => none
  | fu + 1, names4, now3, next, t62 => ref_Fewest_b6 nf (fun _ _ _ p3 p4 _ v0 v1 v2 v3 => ref_Fewest_l8 nf refs places bit p3 p4 t41 (fun names4 now3 next t62 => ref_Fewest_l6 nf refs places bit t41 g2 fu names4 now3 next t62) g2 nf v0 v1 v2 v3) refs places bit t41 g2 (ref_Fewest_l6 nf refs places bit t41 g2 fu) names4 now3 next t62
def ref_Fewest_l4 (nf : Nat) (refs : List Int) (places : Int) (t41 : Int) (names2 : List Int) (g2 : List Int → List (Int × Int) → Int → Option (Int × Unit)) : Nat → List Int → List (Int × Int) → Int → Int → Option (Int × Unit)
  | 0, _, _, _, _ => none
  | fu + 1, names3, now2, bit, t47 => ref_Fewest_b4 nf (fun _ _ p2 _ v0 v1 v2 v3 => ref_Fewest_l6 nf refs places p2 t41 g2 nf v0 v1 v2 v3) refs places t41 names2 g2 (ref_Fewest_l4 nf refs places t41 names2 g2 fu) names3 now2 bit t47
def ref_Fewest_l2 (nf : Nat) (refs : List Int) (places : Int) : Nat → List Int → List (Int × Int) → Int → Option (Int × Unit)
  | 0, _, _, _ => none
  | fu + 1, names2, now, t41 => ref_Fewest_b2 nf (fun _ _ p2 p3 v0 v1 v2 v3 => ref_Fewest_l4 nf refs places p2 p3 (fun names2 now t41 => ref_Fewest_l2 nf refs places  fu names2 now t41) nf v0 v1 v2 v3) (fun  v0 v1 v2 => ref_Fewest_l10 nf   nf v0 v1 v2) refs places  (ref_Fewest_l2 nf refs places  fu) names2 now t41
def ref_Fewest_l0 (nf : Nat) (refs : List Int) (places : Int) : Nat → List Int → Int → Option (Int × Unit)
  | 0, _, _ => none
  | fu + 1, names, t24 => ref_Fewest_b0 nf (fun _ _ v0 v1 v2 => ref_Fewest_l2 nf refs places  nf v0 v1 v2) refs places  (ref_Fewest_l0 nf refs places  fu) names t24
def ref_Fewest_f (nf : Nat) (refs : List Int) (places : Int) : Option (Int × Unit) := ref_Fewest_p nf (fun p0 p1 v0 v1 => ref_Fewest_l0 nf p0 p1 nf v0 v1) refs places
noncomputable def ref_Fewest_L0 (nf : Nat) : LC (Int × Unit) := theL (findL tab (ref_Fewest_phi nf) (fun _ F => iter nf F) ref_Fewest_keep 0 0 (codeOf Try.f27) (fin tab [(Ty.int IntKind.i64, Md.bor false true)] (resL ([]) Try.f27)) (fun _ _ => none) (fin tab [(Ty.int IntKind.i64, Md.bor false true)] (resL ([]) Try.f27)))
def ref_Fewest_m0 (refs : List Int) (places : Int) (names : List Int) (t24 : Int) : St := ⟨fresh, [(0, AV.v (Ty.int IntKind.i64).sl (Md.bor true false) refs), (1, AV.v (Ty.int IntKind.i64) (Md.bor false true) places), (5, AV.ow 500005 (Ty.int IntKind.i64).sl (Md.own false (Md.bor false false)) names), (14, AV.dead), (22, AV.v (Ty.int IntKind.i64).sl (Md.bor true false) refs), (23, AV.v (Ty.int IntKind.i64) (Md.bor false true) (↑refs.length : Int)), (24, AV.v (Ty.int IntKind.i64) (Md.bor false true) t24), (35, AV.dead), (107, AV.dead)]⟩
noncomputable def ref_Fewest_L2 (nf : Nat) : LC (Int × Unit) := theL (findL tab (ref_Fewest_phi nf) (fun _ F => iter nf F) ref_Fewest_keep 2 0 (codeOf Try.f27) (fin tab [(Ty.int IntKind.i64, Md.bor false true)] (resL ([]) Try.f27)) (fun _ _ => none) (fin tab [(Ty.int IntKind.i64, Md.bor false true)] (resL ([]) Try.f27)))
def ref_Fewest_m2 (refs : List Int) (places : Int) (names2 : List Int) (now : List (Int × Int)) (t41 : Int) : St := ⟨fresh, [(0, AV.v (Ty.int IntKind.i64).sl (Md.bor true false) refs), (1, AV.v (Ty.int IntKind.i64) (Md.bor false true) places), (5, AV.ow 500005 (Ty.int IntKind.i64).sl (Md.own false (Md.bor false false)) names2), (8, AV.ow 500008 ((Ty.int IntKind.u32).mp (Ty.int IntKind.i64)) (Md.own true (Md.bor false false)) now), (35, AV.dead), (37, AV.dead), (38, AV.dead), (39, AV.v (Ty.int IntKind.i64).sl (Md.bor true false) refs), (40, AV.v (Ty.int IntKind.i64) (Md.bor false true) (↑refs.length : Int)), (41, AV.v (Ty.int IntKind.i64) (Md.bor false true) t41), (107, AV.dead)]⟩
noncomputable def ref_Fewest_L4 (nf : Nat) (G2 : St → Option (Int × Unit)) : LC (Int × Unit) := theL (findL tab (ref_Fewest_phi nf) (fun _ F => iter nf F) ref_Fewest_keep 4 2 (ref_Fewest_L2 nf ).c (fun st => norm (ref_Fewest_keep 2) st G2) (ref_Fewest_L2 nf ).Kx (ref_Fewest_L2 nf ).Kr)
def ref_Fewest_m4 (refs : List Int) (places : Int) (t41 : Int) (names2 : List Int) (names3 : List Int) (now2 : List (Int × Int)) (bit : Int) (t47 : Int) : St := ⟨fresh, [(0, AV.v (Ty.int IntKind.i64).sl (Md.bor true false) refs), (1, AV.v (Ty.int IntKind.i64) (Md.bor false true) places), (5, AV.ow 500005 (Ty.int IntKind.i64).sl (Md.own false (Md.bor false false)) names3), (8, AV.ow 500008 ((Ty.int IntKind.u32).mp (Ty.int IntKind.i64)) (Md.own true (Md.bor false false)) now2), (10, AV.v (Ty.int IntKind.i64) (Md.bor false true) (refs.getD t41.toNat 0)), (11, AV.v (Ty.int IntKind.u32) (Md.bor false true) bit), (14, AV.dead), (35, AV.dead), (37, AV.dead), (38, AV.dead), (39, AV.v (Ty.int IntKind.i64).sl (Md.bor true false) refs), (40, AV.v (Ty.int IntKind.i64) (Md.bor false true) (↑refs.length : Int)), (41, AV.v (Ty.int IntKind.i64) (Md.bor false true) t41), (45, AV.al 5 500005 []), (46, AV.v (Ty.int IntKind.i64) (Md.bor false true) (↑names2.length : Int)), (47, AV.v (Ty.int IntKind.i64) (Md.bor false true) t47), (107, AV.dead)]⟩
noncomputable def ref_Fewest_L6 (nf : Nat) (G2 : St → Option (Int × Unit)) : LC (Int × Unit) := theL (findL tab (ref_Fewest_phi nf) (fun _ F => iter nf F) ref_Fewest_keep 6 2 (ref_Fewest_L2 nf ).c (fun st => norm (ref_Fewest_keep 2) st G2) (ref_Fewest_L2 nf ).Kx (ref_Fewest_L2 nf ).Kr)
def ref_Fewest_m6 (refs : List Int) (places : Int) (bit : Int) (t41 : Int) (names4 : List Int) (now3 : List (Int × Int)) (next : List (Int × Int)) (t62 : List (Int × Int)) : St := ⟨fresh, [(0, AV.v (Ty.int IntKind.i64).sl (Md.bor true false) refs), (1, AV.v (Ty.int IntKind.i64) (Md.bor false true) places), (5, AV.ow 500005 (Ty.int IntKind.i64).sl (Md.own false (Md.bor false false)) names4), (8, AV.ow 500008 ((Ty.int IntKind.u32).mp (Ty.int IntKind.i64)) (Md.own true (Md.bor false false)) now3), (11, AV.v (Ty.int IntKind.u32) (Md.bor false true) bit), (14, AV.box 14 500014 ((Ty.int IntKind.u32).mp (Ty.int IntKind.i64)) (Md.own true (Md.bor false false)) next), (15, AV.clo 65 [AV.pl 14 14 [Stp.dr]]), (35, AV.dead), (37, AV.dead), (38, AV.dead), (39, AV.v (Ty.int IntKind.i64).sl (Md.bor true false) refs), (40, AV.v (Ty.int IntKind.i64) (Md.bor false true) (↑refs.length : Int)), (41, AV.v (Ty.int IntKind.i64) (Md.bor false true) t41), (60, AV.clo 65 [AV.pl 14 14 [Stp.dr]]), (61, AV.al 8 500008 []), (62, AV.it 8 500008 [] (Ty.int IntKind.u32) (Ty.int IntKind.i64) t62 none), (107, AV.dead)]⟩
noncomputable def ref_Fewest_L8 (nf : Nat) (G2 : St → Option (Int × Unit)) (G6 : St → Option (Int × Unit)) : LC (Int × Unit) := theL (findL tab (ref_Fewest_phi nf) (fun _ F => iter nf F) ref_Fewest_keep 8 6 (ref_Fewest_L6 nf G2).c (fun st => norm (ref_Fewest_keep 6) st G6) (ref_Fewest_L6 nf G2).Kx (ref_Fewest_L6 nf G2).Kr)
def ref_Fewest_m8 (refs : List Int) (places : Int) (bit : Int) (t62 : List (Int × Int)) (i : Nat) (t41 : Int) (names5 : List Int) (now4 : List (Int × Int)) (next2 : List (Int × Int)) (i2 : Int) : St := ⟨fresh, [(0, AV.v (Ty.int IntKind.i64).sl (Md.bor true false) refs), (1, AV.v (Ty.int IntKind.i64) (Md.bor false true) places), (5, AV.ow 500005 (Ty.int IntKind.i64).sl (Md.own false (Md.bor false false)) names5), (8, AV.ow 500008 ((Ty.int IntKind.u32).mp (Ty.int IntKind.i64)) (Md.own true (Md.bor false false)) now4), (11, AV.v (Ty.int IntKind.u32) (Md.bor false true) bit), (14, AV.box 14 500014 ((Ty.int IntKind.u32).mp (Ty.int IntKind.i64)) (Md.own true (Md.bor false false)) next2), (15, AV.clo 65 [AV.pl 14 14 [Stp.dr]]), (16, AV.v (Ty.int IntKind.u32) (Md.bor false true) (t62.getD i (0, 0)).fst), (17, AV.v (Ty.int IntKind.i64) (Md.bor false true) (t62.getD i (0, 0)).snd), (18, AV.v (Ty.int IntKind.i64) (Md.bor false true) i2), (35, AV.dead), (37, AV.dead), (38, AV.dead), (39, AV.v (Ty.int IntKind.i64).sl (Md.bor true false) refs), (40, AV.v (Ty.int IntKind.i64) (Md.bor false true) (↑refs.length : Int)), (41, AV.v (Ty.int IntKind.i64) (Md.bor false true) t41), (60, AV.clo 65 [AV.pl 14 14 [Stp.dr]]), (61, AV.al 8 500008 []), (62, AV.it 8 500008 [] (Ty.int IntKind.u32) (Ty.int IntKind.i64) (t62.eraseIdx i) none), (107, AV.dead)]⟩
noncomputable def ref_Fewest_L10 (nf : Nat) : LC (Int × Unit) := theL (findL tab (ref_Fewest_phi nf) (fun _ F => iter nf F) ref_Fewest_keep 10 0 (codeOf Try.f27) (fin tab [(Ty.int IntKind.i64, Md.bor false true)] (resL ([]) Try.f27)) (fun _ _ => none) (fin tab [(Ty.int IntKind.i64, Md.bor false true)] (resL ([]) Try.f27)))
def ref_Fewest_m10 (now5 : List (Int × Int)) (best : Int) (t110 : List (Int × Int)) : St := ⟨fresh, [(8, AV.ow 500008 ((Ty.int IntKind.u32).mp (Ty.int IntKind.i64)) (Md.own true (Md.bor false false)) now5), (14, AV.dead), (19, AV.v (Ty.int IntKind.i64) (Md.bor false true) best), (37, AV.dead), (38, AV.dead), (107, AV.dead), (109, AV.al 8 500008 []), (110, AV.it 8 500008 [] (Ty.int IntKind.u32) (Ty.int IntKind.i64) t110 none)]⟩
theorem ref_Fewest_h10 (nf : Nat)   (fu : Nat) (now5 : List (Int × Int)) (best : Int) (t110 : List (Int × Int)) : iter (fu + 1) (LC.F tab (ref_Fewest_phi nf) (fun _ F => iter nf F) ref_Fewest_keep 10 (ref_Fewest_L10 nf )) (ref_Fewest_m10  now5 best t110) = ref_Fewest_b10 nf    (fun now5 best t110 => iter fu (LC.F tab (ref_Fewest_phi nf) (fun _ F => iter nf F) ref_Fewest_keep 10 (ref_Fewest_L10 nf )) (ref_Fewest_m10  now5 best t110)) now5 best t110 := by kernel_rfl
theorem ref_Fewest_e10 (nf : Nat)   : ∀ (fu : Nat) (now5 : List (Int × Int)) (best : Int) (t110 : List (Int × Int)), iter fu (LC.F tab (ref_Fewest_phi nf) (fun _ F => iter nf F) ref_Fewest_keep 10 (ref_Fewest_L10 nf )) (ref_Fewest_m10  now5 best t110) = ref_Fewest_l10 nf   fu now5 best t110 := by
  intro fu
  induction fu with
  | zero => intros; rfl
  | succ fu ih =>
    intro now5 best t110
    rw [ref_Fewest_h10 nf   fu now5 best t110]
    simp only [ih]
    rfl
theorem ref_Fewest_h8 (nf : Nat) (G2 : St → Option (Int × Unit)) (G6 : St → Option (Int × Unit)) (refs : List Int) (places : Int) (bit : Int) (t62 : List (Int × Int)) (i : Nat) (t41 : Int) (fu : Nat) (names5 : List Int) (now4 : List (Int × Int)) (next2 : List (Int × Int)) (i2 : Int) : iter (fu + 1) (LC.F tab (ref_Fewest_phi nf) (fun _ F => iter nf F) ref_Fewest_keep 8 (ref_Fewest_L8 nf G2 G6)) (ref_Fewest_m8 refs places bit t62 i t41 names5 now4 next2 i2) = ref_Fewest_b8 nf  refs places bit t62 i t41 (fun names4 now3 next t62 => G6 (ref_Fewest_m6 refs places bit t41 names4 now3 next t62)) (fun names2 now t41 => G2 (ref_Fewest_m2 refs places names2 now t41)) (fun names5 now4 next2 i2 => iter fu (LC.F tab (ref_Fewest_phi nf) (fun _ F => iter nf F) ref_Fewest_keep 8 (ref_Fewest_L8 nf G2 G6)) (ref_Fewest_m8 refs places bit t62 i t41 names5 now4 next2 i2)) names5 now4 next2 i2 := by kernel_rfl
theorem ref_Fewest_e8 (nf : Nat) (G2 : St → Option (Int × Unit)) (G6 : St → Option (Int × Unit)) (refs : List Int) (places : Int) (bit : Int) (t62 : List (Int × Int)) (i : Nat) (t41 : Int) : ∀ (fu : Nat) (names5 : List Int) (now4 : List (Int × Int)) (next2 : List (Int × Int)) (i2 : Int), iter fu (LC.F tab (ref_Fewest_phi nf) (fun _ F => iter nf F) ref_Fewest_keep 8 (ref_Fewest_L8 nf G2 G6)) (ref_Fewest_m8 refs places bit t62 i t41 names5 now4 next2 i2) = ref_Fewest_l8 nf refs places bit t62 i t41 (fun names4 now3 next t62 => G6 (ref_Fewest_m6 refs places bit t41 names4 now3 next t62)) (fun names2 now t41 => G2 (ref_Fewest_m2 refs places names2 now t41)) fu names5 now4 next2 i2 := by
  intro fu
  induction fu with
  | zero => intros; rfl
  | succ fu ih =>
    intro names5 now4 next2 i2
    rw [ref_Fewest_h8 nf G2 G6 refs places bit t62 i t41 fu names5 now4 next2 i2]
    simp only [ih]
    rfl
theorem ref_Fewest_h6 (nf : Nat) (G2 : St → Option (Int × Unit)) (refs : List Int) (places : Int) (bit : Int) (t41 : Int) (fu : Nat) (names4 : List Int) (now3 : List (Int × Int)) (next : List (Int × Int)) (t62 : List (Int × Int)) : iter (fu + 1) (LC.F tab (ref_Fewest_phi nf) (fun _ F => iter nf F) ref_Fewest_keep 6 (ref_Fewest_L6 nf G2)) (ref_Fewest_m6 refs places bit t41 names4 now3 next t62) = ref_Fewest_b6 nf (fun _ _ _ p3 p4 _ v0 v1 v2 v3 => iter nf (LC.F tab (ref_Fewest_phi nf) (fun _ F => iter nf F) ref_Fewest_keep 8 (ref_Fewest_L8 nf G2 (iter fu (LC.F tab (ref_Fewest_phi nf) (fun _ F => iter nf F) ref_Fewest_keep 6 (ref_Fewest_L6 nf G2))))) (ref_Fewest_m8 refs places bit p3 p4 t41 v0 v1 v2 v3)) refs places bit t41 (fun names2 now t41 => G2 (ref_Fewest_m2 refs places names2 now t41)) (fun names4 now3 next t62 => iter fu (LC.F tab (ref_Fewest_phi nf) (fun _ F => iter nf F) ref_Fewest_keep 6 (ref_Fewest_L6 nf G2)) (ref_Fewest_m6 refs places bit t41 names4 now3 next t62)) names4 now3 next t62 := by kernel_rfl
theorem ref_Fewest_e6 (nf : Nat) (G2 : St → Option (Int × Unit)) (refs : List Int) (places : Int) (bit : Int) (t41 : Int) : ∀ (fu : Nat) (names4 : List Int) (now3 : List (Int × Int)) (next : List (Int × Int)) (t62 : List (Int × Int)), iter fu (LC.F tab (ref_Fewest_phi nf) (fun _ F => iter nf F) ref_Fewest_keep 6 (ref_Fewest_L6 nf G2)) (ref_Fewest_m6 refs places bit t41 names4 now3 next t62) = ref_Fewest_l6 nf refs places bit t41 (fun names2 now t41 => G2 (ref_Fewest_m2 refs places names2 now t41)) fu names4 now3 next t62 := by
  intro fu
  induction fu with
  | zero => intros; rfl
  | succ fu ih =>
    intro names4 now3 next t62
    rw [ref_Fewest_h6 nf G2 refs places bit t41 fu names4 now3 next t62]
    simp only [ih, ref_Fewest_e8]
    rfl
theorem ref_Fewest_h4 (nf : Nat) (G2 : St → Option (Int × Unit)) (refs : List Int) (places : Int) (t41 : Int) (names2 : List Int) (fu : Nat) (names3 : List Int) (now2 : List (Int × Int)) (bit : Int) (t47 : Int) : iter (fu + 1) (LC.F tab (ref_Fewest_phi nf) (fun _ F => iter nf F) ref_Fewest_keep 4 (ref_Fewest_L4 nf G2)) (ref_Fewest_m4 refs places t41 names2 names3 now2 bit t47) = ref_Fewest_b4 nf (fun _ _ p2 _ v0 v1 v2 v3 => iter nf (LC.F tab (ref_Fewest_phi nf) (fun _ F => iter nf F) ref_Fewest_keep 6 (ref_Fewest_L6 nf G2)) (ref_Fewest_m6 refs places p2 t41 v0 v1 v2 v3)) refs places t41 names2 (fun names2 now t41 => G2 (ref_Fewest_m2 refs places names2 now t41)) (fun names3 now2 bit t47 => iter fu (LC.F tab (ref_Fewest_phi nf) (fun _ F => iter nf F) ref_Fewest_keep 4 (ref_Fewest_L4 nf G2)) (ref_Fewest_m4 refs places t41 names2 names3 now2 bit t47)) names3 now2 bit t47 := by kernel_rfl
theorem ref_Fewest_e4 (nf : Nat) (G2 : St → Option (Int × Unit)) (refs : List Int) (places : Int) (t41 : Int) (names2 : List Int) : ∀ (fu : Nat) (names3 : List Int) (now2 : List (Int × Int)) (bit : Int) (t47 : Int), iter fu (LC.F tab (ref_Fewest_phi nf) (fun _ F => iter nf F) ref_Fewest_keep 4 (ref_Fewest_L4 nf G2)) (ref_Fewest_m4 refs places t41 names2 names3 now2 bit t47) = ref_Fewest_l4 nf refs places t41 names2 (fun names2 now t41 => G2 (ref_Fewest_m2 refs places names2 now t41)) fu names3 now2 bit t47 := by
  intro fu
  induction fu with
  | zero => intros; rfl
  | succ fu ih =>
    intro names3 now2 bit t47
    rw [ref_Fewest_h4 nf G2 refs places t41 names2 fu names3 now2 bit t47]
    simp only [ih, ref_Fewest_e6]
    rfl
theorem ref_Fewest_h2 (nf : Nat)  (refs : List Int) (places : Int) (fu : Nat) (names2 : List Int) (now : List (Int × Int)) (t41 : Int) : iter (fu + 1) (LC.F tab (ref_Fewest_phi nf) (fun _ F => iter nf F) ref_Fewest_keep 2 (ref_Fewest_L2 nf )) (ref_Fewest_m2 refs places names2 now t41) = ref_Fewest_b2 nf (fun _ _ p2 p3 v0 v1 v2 v3 => iter nf (LC.F tab (ref_Fewest_phi nf) (fun _ F => iter nf F) ref_Fewest_keep 4 (ref_Fewest_L4 nf (iter fu (LC.F tab (ref_Fewest_phi nf) (fun _ F => iter nf F) ref_Fewest_keep 2 (ref_Fewest_L2 nf ))))) (ref_Fewest_m4 refs places p2 p3 v0 v1 v2 v3)) (fun  v0 v1 v2 => iter nf (LC.F tab (ref_Fewest_phi nf) (fun _ F => iter nf F) ref_Fewest_keep 10 (ref_Fewest_L10 nf )) (ref_Fewest_m10  v0 v1 v2)) refs places  (fun names2 now t41 => iter fu (LC.F tab (ref_Fewest_phi nf) (fun _ F => iter nf F) ref_Fewest_keep 2 (ref_Fewest_L2 nf )) (ref_Fewest_m2 refs places names2 now t41)) names2 now t41 := by kernel_rfl
theorem ref_Fewest_e2 (nf : Nat)  (refs : List Int) (places : Int) : ∀ (fu : Nat) (names2 : List Int) (now : List (Int × Int)) (t41 : Int), iter fu (LC.F tab (ref_Fewest_phi nf) (fun _ F => iter nf F) ref_Fewest_keep 2 (ref_Fewest_L2 nf )) (ref_Fewest_m2 refs places names2 now t41) = ref_Fewest_l2 nf refs places  fu names2 now t41 := by
  intro fu
  induction fu with
  | zero => intros; rfl
  | succ fu ih =>
    intro names2 now t41
    rw [ref_Fewest_h2 nf  refs places fu names2 now t41]
    simp only [ih, ref_Fewest_e4, ref_Fewest_e10]
    rfl
theorem ref_Fewest_h0 (nf : Nat)  (refs : List Int) (places : Int) (fu : Nat) (names : List Int) (t24 : Int) : iter (fu + 1) (LC.F tab (ref_Fewest_phi nf) (fun _ F => iter nf F) ref_Fewest_keep 0 (ref_Fewest_L0 nf )) (ref_Fewest_m0 refs places names t24) = ref_Fewest_b0 nf (fun _ _ v0 v1 v2 => iter nf (LC.F tab (ref_Fewest_phi nf) (fun _ F => iter nf F) ref_Fewest_keep 2 (ref_Fewest_L2 nf )) (ref_Fewest_m2 refs places v0 v1 v2)) refs places  (fun names t24 => iter fu (LC.F tab (ref_Fewest_phi nf) (fun _ F => iter nf F) ref_Fewest_keep 0 (ref_Fewest_L0 nf )) (ref_Fewest_m0 refs places names t24)) names t24 := by kernel_rfl
theorem ref_Fewest_e0 (nf : Nat)  (refs : List Int) (places : Int) : ∀ (fu : Nat) (names : List Int) (t24 : Int), iter fu (LC.F tab (ref_Fewest_phi nf) (fun _ F => iter nf F) ref_Fewest_keep 0 (ref_Fewest_L0 nf )) (ref_Fewest_m0 refs places names t24) = ref_Fewest_l0 nf refs places  fu names t24 := by
  intro fu
  induction fu with
  | zero => intros; rfl
  | succ fu ih =>
    intro names t24
    rw [ref_Fewest_h0 nf  refs places fu names t24]
    simp only [ih, ref_Fewest_e2]
    rfl
theorem ref_Fewest_eq (nf : Nat) (refs : List Int) (places : Int) : runF tab (ref_Fewest_phi nf) ref_Fewest_keep nf [PT.val (Ty.int IntKind.i64).sl (Md.bor true false), PT.val (Ty.int IntKind.i64) (Md.bor true false)] [(Ty.int IntKind.i64, Md.bor false true)] (resL ([]) Try.f27) (codeOf Try.f27) ⟨refs, places, ()⟩ = ref_Fewest_f nf refs places := by
  have h : runF tab (ref_Fewest_phi nf) ref_Fewest_keep nf [PT.val (Ty.int IntKind.i64).sl (Md.bor true false), PT.val (Ty.int IntKind.i64) (Md.bor true false)] [(Ty.int IntKind.i64, Md.bor false true)] (resL ([]) Try.f27) (codeOf Try.f27) ⟨refs, places, ()⟩ = ref_Fewest_p nf (fun p0 p1 v0 v1 => iter nf (LC.F tab (ref_Fewest_phi nf) (fun _ F => iter nf F) ref_Fewest_keep 0 (ref_Fewest_L0 nf)) (ref_Fewest_m0 p0 p1 v0 v1)) refs places := by kernel_rfl
  rw [h]
  simp only [ref_Fewest_e0]
  rfl
def ref_Fewest_F (nf : Nat) (x : denPs [.val (.sl (.int .i64)) (.bor true false), .val (.int .i64) (.bor true false)]) : Option (denL [(.int .i64, .bor false true)]) := ref_Fewest_f nf x.1 x.2.1
def ref_Fewest_C (nf : Nat) : Contract := ⟨[.val (.sl (.int .i64)) (.bor true false), .val (.int .i64) (.bor true false)], [(.int .i64, .bor false true)], ref_Fewest_F nf, []⟩
theorem ref_Fewest_ok : FnOK Try.prog 27 := ⟨Try.f27, codeOf Try.f27, Try.func27, by kernel_rfl, by kernel_rfl⟩
theorem ref_Fewest_holds (nf : Nat) : Contract.Holds Try.prog 27 (ref_Fewest_C nf) :=
  fn_holds (Φ := ref_Fewest_phi nf) (keep := ref_Fewest_keep) (n := nf) ⟨tabs.1, tabs.2, (ctx_cons ref_Has_ok (ref_Has_holds nf) (ctx_cons ref_Bit_ok (ref_Bit_holds nf) (ctx_cons ref_Fewest_1_ok (ref_Fewest_1_holds nf) (ctx_cons ref_Size_ok (ref_Size_holds nf) ctx_nil)))), mixed, bk_ok bkls rfl⟩ (fn := Try.f27) ⟨Try.func27, by kernel_rfl, by kernel_rfl, by kernel_rfl⟩ (fun x => ref_Fewest_eq nf x.1 x.2.1)

/-! codemason codemasonlaw.HoldLeasts -/
def law_HoldLeasts_phi (nf : Nat) : Nat → Option Contract := lookC [(25, law_holdCode_C nf), (26, hold_Min_C nf), (27, ref_Fewest_C nf)]
def law_HoldLeasts_keep : Nat → List Nat := lookK []
def law_HoldLeasts_p (nf : Nat)  (refs : List Int) (places : Int) : Option (Bool × Unit) :=
  Option.bind (hold_Min_f nf refs places) fun r =>
  Option.bind (law_holdCode_f nf refs places) fun r2 =>
  bif r2.fst != 0 then
    bif r.snd.fst == r2.fst then
      some ((r.fst == 0, ()))
    else
      some ((false, ()))
  else
    bif r.snd.fst == 0 then
      Option.bind (ref_Fewest_f nf refs places) fun r3 =>
      some ((r.fst == r3.fst, ()))
    else
      some ((false, ()))
def law_HoldLeasts_f (nf : Nat) (refs : List Int) (places : Int) : Option (Bool × Unit) := law_HoldLeasts_p nf  refs places
theorem law_HoldLeasts_eq (nf : Nat) (refs : List Int) (places : Int) : runF tab (law_HoldLeasts_phi nf) law_HoldLeasts_keep nf [PT.val (Ty.int IntKind.i64).sl (Md.bor false false), PT.val (Ty.int IntKind.i64) (Md.bor false false)] [(Ty.bool, Md.bor false true)] (resL ([]) Try.f8) (codeOf Try.f8) ⟨refs, places, ()⟩ = law_HoldLeasts_f nf refs places := by
  have h : runF tab (law_HoldLeasts_phi nf) law_HoldLeasts_keep nf [PT.val (Ty.int IntKind.i64).sl (Md.bor false false), PT.val (Ty.int IntKind.i64) (Md.bor false false)] [(Ty.bool, Md.bor false true)] (resL ([]) Try.f8) (codeOf Try.f8) ⟨refs, places, ()⟩ = law_HoldLeasts_p nf  refs places := by kernel_rfl
  exact h
def law_HoldLeasts_F (nf : Nat) (x : denPs [.val (.sl (.int .i64)) (.bor false false), .val (.int .i64) (.bor false false)]) : Option (denL [(.bool, .bor false true)]) := law_HoldLeasts_f nf x.1 x.2.1
def law_HoldLeasts_C (nf : Nat) : Contract := ⟨[.val (.sl (.int .i64)) (.bor false false), .val (.int .i64) (.bor false false)], [(.bool, .bor false true)], law_HoldLeasts_F nf, []⟩
theorem law_HoldLeasts_ok : FnOK Try.prog 8 := ⟨Try.f8, codeOf Try.f8, Try.func8, by kernel_rfl, by kernel_rfl⟩
theorem law_HoldLeasts_holds (nf : Nat) : Contract.Holds Try.prog 8 (law_HoldLeasts_C nf) :=
  fn_holds (Φ := law_HoldLeasts_phi nf) (keep := law_HoldLeasts_keep) (n := nf) ⟨tabs.1, tabs.2, (ctx_cons law_holdCode_ok (law_holdCode_holds nf) (ctx_cons hold_Min_ok (hold_Min_holds nf) (ctx_cons ref_Fewest_ok (ref_Fewest_holds nf) ctx_nil))), mixed, bk_ok bkls rfl⟩ (fn := Try.f8) ⟨Try.func8, by kernel_rfl, by kernel_rfl, by kernel_rfl⟩ (fun x => law_HoldLeasts_eq nf x.1 x.2.1)
end
end Go.Proofs.Ytoglkjmdloppcaa.S
