/- The functions of the code, as plain functions, and the theorems that say so: made by a program of this proof's own. -/
import Derived.Test.YtoglkjmdloppcaaAbCheck
import Derived.Test.YtoglkjmdloppcaaGrow
import Derived.Test.YtoglkjmdloppcaaChecked
namespace Go.Proofs.Ytoglkjmdloppcaa.S
open Go Go.Ab
noncomputable section
def bkl : List (Nat × Bk) := []
def tyL : List (Nat × Ty) := [(2, .int .i64), (3, .int .i64), (4, .bool), (5, .int .u8), (6, .int .u8), (7, .pair (.int .i64) (.pair (.int .i64) (.pair (.bool) (.pair (.int .u8) (.unit))))), (8, .pair (.int .i64) (.pair (.int .i64) (.pair (.bool) (.pair (.int .u8) (.unit))))), (12, .int .u64), (21, .int .i32), (22, .sl (.sl (.int .i64))), (23, .sl (.int .u32)), (24, .int .u32), (25, .pair (.bool) (.pair (.bool) (.pair (.sl (.int .u32)) (.pair (.sl (.int .u32)) (.pair (.int .u32) (.unit)))))), (26, .pair (.bool) (.pair (.bool) (.pair (.sl (.int .u32)) (.pair (.sl (.int .u32)) (.pair (.int .u32) (.unit)))))), (27, .int .i64), (34, .sl (.int .i64)), (40, .sl (.pair (.sl (.pair (.int .i64) (.pair (.sl (.int .i64)) (.unit)))) (.pair (.sl (.pair (.int .i64) (.pair (.int .i64) (.pair (.int .i64) (.pair (.int .i64) (.pair (.int .i64) (.unit))))))) (.pair (.int .i64) (.pair (.int .i64) (.pair (.int .i64) (.pair (.sl (.int .i64)) (.unit)))))))), (45, .sl (.pair (.int .i64) (.pair (.int .i64) (.pair (.int .i64) (.pair (.int .i64) (.unit)))))), (46, .sl (.pair (.int .i64) (.pair (.int .i64) (.unit)))), (59, .sl (.pair (.int .i64) (.pair (.int .i64) (.unit)))), (69, .int .u64), (70, .mp (.int .i64) (.pair (.int .i64) (.pair (.int .i64) (.unit)))), (74, .sl (.pair (.sl (.pair (.int .i64) (.pair (.int .i64) (.pair (.int .i64) (.pair (.int .i64) (.pair (.int .i64) (.unit))))))) (.pair (.int .i64) (.pair (.int .i64) (.pair (.int .i64) (.unit)))))), (77, .pair (.int .i64) (.pair (.int .i64) (.unit))), (80, .sl (.pair (.int .i64) (.pair (.sl (.int .i64)) (.unit)))), (81, .sl (.pair (.int .i64) (.pair (.int .i64) (.pair (.int .i64) (.pair (.int .i64) (.pair (.int .i64) (.unit))))))), (82, .pair (.sl (.pair (.int .i64) (.pair (.sl (.int .i64)) (.unit)))) (.pair (.sl (.pair (.int .i64) (.pair (.int .i64) (.pair (.int .i64) (.pair (.int .i64) (.pair (.int .i64) (.unit))))))) (.pair (.int .i64) (.pair (.int .i64) (.pair (.int .i64) (.pair (.sl (.int .i64)) (.unit))))))), (83, .pair (.sl (.pair (.int .i64) (.pair (.sl (.int .i64)) (.unit)))) (.pair (.sl (.pair (.int .i64) (.pair (.int .i64) (.pair (.int .i64) (.pair (.int .i64) (.pair (.int .i64) (.unit))))))) (.pair (.int .i64) (.pair (.int .i64) (.pair (.int .i64) (.pair (.sl (.int .i64)) (.unit))))))), (84, .pair (.int .i64) (.pair (.sl (.int .i64)) (.unit))), (85, .pair (.int .i64) (.pair (.sl (.int .i64)) (.unit))), (86, .pair (.int .i64) (.pair (.int .i64) (.pair (.int .i64) (.pair (.int .i64) (.pair (.int .i64) (.unit)))))), (87, .pair (.int .i64) (.pair (.int .i64) (.pair (.int .i64) (.pair (.int .i64) (.pair (.int .i64) (.unit)))))), (96, .pair (.int .i64) (.pair (.int .i64) (.pair (.int .i64) (.pair (.int .i64) (.unit))))), (97, .pair (.int .i64) (.pair (.int .i64) (.pair (.int .i64) (.pair (.int .i64) (.unit))))), (98, .pair (.int .i64) (.pair (.int .i64) (.unit))), (99, .pair (.int .i64) (.pair (.int .i64) (.unit))), (103, .mp (.int .u32) (.int .i64)), (108, .mp (.int .u32) (.bool)), (117, .pair (.sl (.pair (.int .i64) (.pair (.int .i64) (.pair (.int .i64) (.pair (.int .i64) (.pair (.int .i64) (.unit))))))) (.pair (.int .i64) (.pair (.int .i64) (.pair (.int .i64) (.unit))))), (118, .pair (.sl (.pair (.int .i64) (.pair (.int .i64) (.pair (.int .i64) (.pair (.int .i64) (.pair (.int .i64) (.unit))))))) (.pair (.int .i64) (.pair (.int .i64) (.pair (.int .i64) (.unit))))), (125, .sl (.sl (.int .u32))), (136, .int .u8), (137, .int .u8), (140, .int .i32), (141, .int .i32)]
def mdL : List (Nat × Md) := [(2, .bor false true), (3, .bor false true), (4, .bor false true), (5, .bor false true), (6, .bor false true), (7, .bor false true), (8, .bor false true), (12, .bor false true), (21, .bor false true), (22, .own false (.bor false false)), (23, .own false (.bor false false)), (24, .bor false true), (25, .bor true false), (26, .bor true false), (27, .bor false true), (34, .own false (.bor false false)), (40, .own false (.bor false false)), (45, .own false (.bor false false)), (46, .own false (.bor false false)), (59, .own false (.bor false false)), (69, .bor false true), (70, .own false (.bor false false)), (74, .own false (.bor false false)), (77, .bor false true), (80, .own false (.bor false false)), (81, .own false (.bor false false)), (82, .bor true false), (83, .bor true false), (84, .bor true false), (85, .bor true false), (86, .bor false true), (87, .bor false true), (96, .bor false true), (97, .bor false true), (98, .bor false true), (99, .bor false true), (103, .own false (.bor false false)), (108, .own false (.bor false false)), (117, .bor true false), (118, .bor true false), (125, .own false (.bor false false)), (136, .bor false true), (137, .bor false true), (140, .bor false true), (141, .bor false true)]
def tab : Tab := ⟨lookT tyL, lookM mdL, hasT [77, 132], hasT [9, 10, 11], fun _ => none, lookB bkl⟩
theorem bkls : BkL Try.prog bkl := fun _ h => by cases h
theorem tabs : TabOK Try.prog tab ∧ EqOK Try.prog tab := tab_ok (by kernel_rfl) (by kernel_rfl)
theorem mixed : Try.prog.follows .mixedOrders = true := by kernel_rfl

/-! codemason way.Check 1 -/
def way_Check_1_phi (nf : Nat) : Nat → Option Contract := lookC []
def way_Check_1_keep : Nat → List Nat := lookK []
def way_Check_1_p (nf : Nat)  (j : Int) (c1 : List (List Int)) : Option (Bool × Unit) :=
  bif decide (j < 0) then
    some ((true, ()))
  else
    some ((decide (j ≥ (↑c1.length : Int)), ()))
def way_Check_1_f (nf : Nat) (j : Int) (c1 : List (List Int)) : Option (Bool × Unit) := way_Check_1_p nf  j c1
theorem way_Check_1_eq (nf : Nat) (j : Int) (c1 : List (List Int)) : runF tab (way_Check_1_phi nf) way_Check_1_keep nf [PT.val (Ty.int IntKind.i64) (Md.bor true false), PT.ptr (Ty.int IntKind.i64).sl.sl (Md.bor true false)] [(Ty.bool, Md.bor false true)] (resL ([]) Try.f86) (codeOf Try.f86) ⟨j, c1, ()⟩ = way_Check_1_f nf j c1 := by
  have h : runF tab (way_Check_1_phi nf) way_Check_1_keep nf [PT.val (Ty.int IntKind.i64) (Md.bor true false), PT.ptr (Ty.int IntKind.i64).sl.sl (Md.bor true false)] [(Ty.bool, Md.bor false true)] (resL ([]) Try.f86) (codeOf Try.f86) ⟨j, c1, ()⟩ = way_Check_1_p nf  j c1 := by kernel_rfl
  exact h
def way_Check_1_F (nf : Nat) (x : denPs [.val (.int .i64) (.bor true false), .ptr (.sl (.sl (.int .i64))) (.bor true false)]) : Option (denL [(.bool, .bor false true)]) := way_Check_1_f nf x.1 x.2.1
def way_Check_1_C (nf : Nat) : Contract := ⟨[.val (.int .i64) (.bor true false), .ptr (.sl (.sl (.int .i64))) (.bor true false)], [(.bool, .bor false true)], way_Check_1_F nf, []⟩
theorem way_Check_1_ok : FnOK Try.prog 86 := ⟨Try.f86, codeOf Try.f86, Try.func86, by kernel_rfl, by kernel_rfl⟩
theorem way_Check_1_holds (nf : Nat) : Contract.Holds Try.prog 86 (way_Check_1_C nf) :=
  fn_holds (Φ := way_Check_1_phi nf) (keep := way_Check_1_keep) (n := nf) ⟨tabs.1, tabs.2, ctx_nil, mixed, bk_ok bkls rfl⟩ (fn := Try.f86) ⟨Try.func86, by kernel_rfl, by kernel_rfl, by kernel_rfl⟩ (fun x => way_Check_1_eq nf x.1 x.2.1)

/-! slices.IndexFunc   int int  codemason way.Check 1 -/
def slices_IndexFunc__way_Check_1_phi (nf : Nat) : Nat → Option Contract := lookC [(86, way_Check_1_C nf)]
def slices_IndexFunc__way_Check_1_keep : Nat → List Nat := lookK [(0, [0, 1, 7, 8])]
def slices_IndexFunc__way_Check_1_b0 (nf : Nat) (s : List Int) (f : List (List Int) × Unit) (g0 : Int → Option (Int × Unit)) (t8 : Int) : Option (Int × Unit) :=
  bif decide (t8 < (↑s.length : Int)) then
    bif inb t8 s.length then
      Option.bind (way_Check_1_f nf (s.getD t8.toNat 0) f.fst) fun r =>
      bif r.fst then
        some ((t8, ()))
      else
        g0 (IntKind.i64.wrap (t8 + 1))
    else
      none
  else
    some ((-1, ()))
def slices_IndexFunc__way_Check_1_p (nf : Nat) (l0 : List Int → List (List Int) × Unit → Int → Option (Int × Unit)) (s : List Int) (f : List (List Int) × Unit) : Option (Int × Unit) :=
  l0 s f 0
def slices_IndexFunc__way_Check_1_l0 (nf : Nat) (s : List Int) (f : List (List Int) × Unit) : Nat → Int → Option (Int × Unit)
  | 0, _ => none
  | fu + 1, t8 => slices_IndexFunc__way_Check_1_b0 nf  s f  (slices_IndexFunc__way_Check_1_l0 nf s f  fu) t8
def slices_IndexFunc__way_Check_1_f (nf : Nat) (s : List Int) (f : List (List Int) × Unit) : Option (Int × Unit) := slices_IndexFunc__way_Check_1_p nf (fun p0 p1 v0 => slices_IndexFunc__way_Check_1_l0 nf p0 p1 nf v0) s f
noncomputable def slices_IndexFunc__way_Check_1_L0 (nf : Nat) : LC (Int × Unit) := theL (findL tab (slices_IndexFunc__way_Check_1_phi nf) (fun _ F => iter nf F) slices_IndexFunc__way_Check_1_keep 0 0 (codeOf Try.f92) (fin tab [(Ty.int IntKind.i64, Md.bor false true)] (resL ([]) Try.f92)) (fun _ _ => none) (fin tab [(Ty.int IntKind.i64, Md.bor false true)] (resL ([]) Try.f92)))
def slices_IndexFunc__way_Check_1_m0 (s : List Int) (f : List (List Int) × Unit) (t8 : Int) : St := ⟨fresh, [(0, AV.v (Ty.int IntKind.i64).sl (Md.bor true false) s), (1, AV.clo 86 [AV.rop (Ty.int IntKind.i64).sl.sl (Md.bor true false) f.fst]), (7, AV.v (Ty.int IntKind.i64) (Md.bor false true) (↑s.length : Int)), (8, AV.v (Ty.int IntKind.i64) (Md.bor false true) t8)]⟩
theorem slices_IndexFunc__way_Check_1_h0 (nf : Nat)  (s : List Int) (f : List (List Int) × Unit) (fu : Nat) (t8 : Int) : iter (fu + 1) (LC.F tab (slices_IndexFunc__way_Check_1_phi nf) (fun _ F => iter nf F) slices_IndexFunc__way_Check_1_keep 0 (slices_IndexFunc__way_Check_1_L0 nf )) (slices_IndexFunc__way_Check_1_m0 s f t8) = slices_IndexFunc__way_Check_1_b0 nf  s f  (fun t8 => iter fu (LC.F tab (slices_IndexFunc__way_Check_1_phi nf) (fun _ F => iter nf F) slices_IndexFunc__way_Check_1_keep 0 (slices_IndexFunc__way_Check_1_L0 nf )) (slices_IndexFunc__way_Check_1_m0 s f t8)) t8 := by kernel_rfl
theorem slices_IndexFunc__way_Check_1_e0 (nf : Nat)  (s : List Int) (f : List (List Int) × Unit) : ∀ (fu : Nat) (t8 : Int), iter fu (LC.F tab (slices_IndexFunc__way_Check_1_phi nf) (fun _ F => iter nf F) slices_IndexFunc__way_Check_1_keep 0 (slices_IndexFunc__way_Check_1_L0 nf )) (slices_IndexFunc__way_Check_1_m0 s f t8) = slices_IndexFunc__way_Check_1_l0 nf s f  fu t8 := by
  intro fu
  induction fu with
  | zero => intros; rfl
  | succ fu ih =>
    intro t8
    rw [slices_IndexFunc__way_Check_1_h0 nf  s f fu t8]
    simp only [ih]
    rfl
theorem slices_IndexFunc__way_Check_1_eq (nf : Nat) (s : List Int) (f : List (List Int) × Unit) : runF tab (slices_IndexFunc__way_Check_1_phi nf) slices_IndexFunc__way_Check_1_keep nf [PT.val (Ty.int IntKind.i64).sl (Md.bor true false), PT.clo 86 [((Ty.int IntKind.i64).sl.sl, Md.bor true false)]] [(Ty.int IntKind.i64, Md.bor false true)] (resL ([]) Try.f92) (codeOf Try.f92) ⟨s, f, ()⟩ = slices_IndexFunc__way_Check_1_f nf s f := by
  have h : runF tab (slices_IndexFunc__way_Check_1_phi nf) slices_IndexFunc__way_Check_1_keep nf [PT.val (Ty.int IntKind.i64).sl (Md.bor true false), PT.clo 86 [((Ty.int IntKind.i64).sl.sl, Md.bor true false)]] [(Ty.int IntKind.i64, Md.bor false true)] (resL ([]) Try.f92) (codeOf Try.f92) ⟨s, f, ()⟩ = slices_IndexFunc__way_Check_1_p nf (fun p0 p1 v0 => iter nf (LC.F tab (slices_IndexFunc__way_Check_1_phi nf) (fun _ F => iter nf F) slices_IndexFunc__way_Check_1_keep 0 (slices_IndexFunc__way_Check_1_L0 nf)) (slices_IndexFunc__way_Check_1_m0 p0 p1 v0)) s f := by kernel_rfl
  rw [h]
  simp only [slices_IndexFunc__way_Check_1_e0]
  rfl
def slices_IndexFunc__way_Check_1_F (nf : Nat) (x : denPs [.val (.sl (.int .i64)) (.bor true false), .clo 86 [(.sl (.sl (.int .i64)), .bor true false)]]) : Option (denL [(.int .i64, .bor false true)]) := slices_IndexFunc__way_Check_1_f nf x.1 x.2.1
def slices_IndexFunc__way_Check_1_C (nf : Nat) : Contract := ⟨[.val (.sl (.int .i64)) (.bor true false), .clo 86 [(.sl (.sl (.int .i64)), .bor true false)]], [(.int .i64, .bor false true)], slices_IndexFunc__way_Check_1_F nf, []⟩
theorem slices_IndexFunc__way_Check_1_ok : FnOK Try.prog 92 := ⟨Try.f92, codeOf Try.f92, Try.func92, by kernel_rfl, by kernel_rfl⟩
theorem slices_IndexFunc__way_Check_1_holds (nf : Nat) : Contract.Holds Try.prog 92 (slices_IndexFunc__way_Check_1_C nf) :=
  fn_holds (Φ := slices_IndexFunc__way_Check_1_phi nf) (keep := slices_IndexFunc__way_Check_1_keep) (n := nf) ⟨tabs.1, tabs.2, (ctx_cons way_Check_1_ok (way_Check_1_holds nf) ctx_nil), mixed, bk_ok bkls rfl⟩ (fn := Try.f92) ⟨Try.func92, by kernel_rfl, by kernel_rfl, by kernel_rfl⟩ (fun x => slices_IndexFunc__way_Check_1_eq nf x.1 x.2.1)

/-! slices.ContainsFunc   int int  codemason way.Check 1 -/
def slices_ContainsFunc__way_Check_1_phi (nf : Nat) : Nat → Option Contract := lookC [(92, slices_IndexFunc__way_Check_1_C nf)]
def slices_ContainsFunc__way_Check_1_keep : Nat → List Nat := lookK []
def slices_ContainsFunc__way_Check_1_p (nf : Nat)  (s : List Int) (f : List (List Int) × Unit) : Option (Bool × Unit) :=
  Option.bind (slices_IndexFunc__way_Check_1_f nf s ((f.fst, ()))) fun r =>
  some ((decide (r.fst ≥ 0), ()))
def slices_ContainsFunc__way_Check_1_f (nf : Nat) (s : List Int) (f : List (List Int) × Unit) : Option (Bool × Unit) := slices_ContainsFunc__way_Check_1_p nf  s f
theorem slices_ContainsFunc__way_Check_1_eq (nf : Nat) (s : List Int) (f : List (List Int) × Unit) : runF tab (slices_ContainsFunc__way_Check_1_phi nf) slices_ContainsFunc__way_Check_1_keep nf [PT.val (Ty.int IntKind.i64).sl (Md.bor true false), PT.clo 86 [((Ty.int IntKind.i64).sl.sl, Md.bor true false)]] [(Ty.bool, Md.bor false true)] (resL ([]) Try.f85) (codeOf Try.f85) ⟨s, f, ()⟩ = slices_ContainsFunc__way_Check_1_f nf s f := by
  have h : runF tab (slices_ContainsFunc__way_Check_1_phi nf) slices_ContainsFunc__way_Check_1_keep nf [PT.val (Ty.int IntKind.i64).sl (Md.bor true false), PT.clo 86 [((Ty.int IntKind.i64).sl.sl, Md.bor true false)]] [(Ty.bool, Md.bor false true)] (resL ([]) Try.f85) (codeOf Try.f85) ⟨s, f, ()⟩ = slices_ContainsFunc__way_Check_1_p nf  s f := by kernel_rfl
  exact h
def slices_ContainsFunc__way_Check_1_F (nf : Nat) (x : denPs [.val (.sl (.int .i64)) (.bor true false), .clo 86 [(.sl (.sl (.int .i64)), .bor true false)]]) : Option (denL [(.bool, .bor false true)]) := slices_ContainsFunc__way_Check_1_f nf x.1 x.2.1
def slices_ContainsFunc__way_Check_1_C (nf : Nat) : Contract := ⟨[.val (.sl (.int .i64)) (.bor true false), .clo 86 [(.sl (.sl (.int .i64)), .bor true false)]], [(.bool, .bor false true)], slices_ContainsFunc__way_Check_1_F nf, []⟩
theorem slices_ContainsFunc__way_Check_1_ok : FnOK Try.prog 85 := ⟨Try.f85, codeOf Try.f85, Try.func85, by kernel_rfl, by kernel_rfl⟩
theorem slices_ContainsFunc__way_Check_1_holds (nf : Nat) : Contract.Holds Try.prog 85 (slices_ContainsFunc__way_Check_1_C nf) :=
  fn_holds (Φ := slices_ContainsFunc__way_Check_1_phi nf) (keep := slices_ContainsFunc__way_Check_1_keep) (n := nf) ⟨tabs.1, tabs.2, (ctx_cons slices_IndexFunc__way_Check_1_ok (slices_IndexFunc__way_Check_1_holds nf) ctx_nil), mixed, bk_ok bkls rfl⟩ (fn := Try.f85) ⟨Try.func85, by kernel_rfl, by kernel_rfl, by kernel_rfl⟩ (fun x => slices_ContainsFunc__way_Check_1_eq nf x.1 x.2.1)

/-! codemason way.Check -/
def way_Check_phi (nf : Nat) : Nat → Option Contract := lookC [(85, slices_ContainsFunc__way_Check_1_C nf)]
def way_Check_keep : Nat → List Nat := lookK [(0, [0, 1, 13, 14, 15])]
def way_Check_b0 (nf : Nat) (next : List (List Int)) (g0 : List (List Int) → Int → Option (Int × Unit)) (next2 : List (List Int)) (t15 : Int) : Option (Int × Unit) :=
  bif decide (t15 < (↑next.length : Int)) then
    bif inb t15 next.length then
      bif decide ((↑(List.length (next.getD t15.toNat [])) : Int) > 3) then
        some ((1, ()))
      else
        Option.bind (slices_ContainsFunc__way_Check_1_f nf (next.getD t15.toNat []) ((next2, ()))) fun r =>
        bif r.fst then
          some ((2, ()))
        else
          g0 next2 (IntKind.i64.wrap (t15 + 1))
    else
      none
  else
    some ((0, ()))
def way_Check_p (nf : Nat) (l0 : List (List Int) → List (List Int) → Int → Option (Int × Unit)) (next : List (List Int)) : Option (Int × Unit) :=
  bif decide ((↑next.length : Int) < 1) then
    some ((1, ()))
  else
    bif decide ((↑next.length : Int) > 8) then
      some ((1, ()))
    else
      l0 next next 0
def way_Check_l0 (nf : Nat) (next : List (List Int)) : Nat → List (List Int) → Int → Option (Int × Unit)
  | 0, _, _ => none
  | fu + 1, next2, t15 => way_Check_b0 nf  next  (way_Check_l0 nf next  fu) next2 t15
def way_Check_f (nf : Nat) (next : List (List Int)) : Option (Int × Unit) := way_Check_p nf (fun p0 v0 v1 => way_Check_l0 nf p0 nf v0 v1) next
noncomputable def way_Check_L0 (nf : Nat) : LC (Int × Unit) := theL (findL tab (way_Check_phi nf) (fun _ F => iter nf F) way_Check_keep 0 0 (codeOf Try.f72) (fin tab [(Ty.int IntKind.i64, Md.bor false true)] (resL ([]) Try.f72)) (fun _ _ => none) (fin tab [(Ty.int IntKind.i64, Md.bor false true)] (resL ([]) Try.f72)))
def way_Check_m0 (next : List (List Int)) (next2 : List (List Int)) (t15 : Int) : St := ⟨fresh, [(0, AV.v (Ty.int IntKind.i64).sl.sl (Md.bor true false) next), (1, AV.box 1 500001 (Ty.int IntKind.i64).sl.sl (Md.bor true false) next2), (13, AV.v (Ty.int IntKind.i64).sl.sl (Md.bor true false) next), (14, AV.v (Ty.int IntKind.i64) (Md.bor false true) (↑next.length : Int)), (15, AV.v (Ty.int IntKind.i64) (Md.bor false true) t15)]⟩
theorem way_Check_h0 (nf : Nat)  (next : List (List Int)) (fu : Nat) (next2 : List (List Int)) (t15 : Int) : iter (fu + 1) (LC.F tab (way_Check_phi nf) (fun _ F => iter nf F) way_Check_keep 0 (way_Check_L0 nf )) (way_Check_m0 next next2 t15) = way_Check_b0 nf  next  (fun next2 t15 => iter fu (LC.F tab (way_Check_phi nf) (fun _ F => iter nf F) way_Check_keep 0 (way_Check_L0 nf )) (way_Check_m0 next next2 t15)) next2 t15 := by kernel_rfl
theorem way_Check_e0 (nf : Nat)  (next : List (List Int)) : ∀ (fu : Nat) (next2 : List (List Int)) (t15 : Int), iter fu (LC.F tab (way_Check_phi nf) (fun _ F => iter nf F) way_Check_keep 0 (way_Check_L0 nf )) (way_Check_m0 next next2 t15) = way_Check_l0 nf next  fu next2 t15 := by
  intro fu
  induction fu with
  | zero => intros; rfl
  | succ fu ih =>
    intro next2 t15
    rw [way_Check_h0 nf  next fu next2 t15]
    simp only [ih]
    rfl
theorem way_Check_eq (nf : Nat) (next : List (List Int)) : runF tab (way_Check_phi nf) way_Check_keep nf [PT.val (Ty.int IntKind.i64).sl.sl (Md.bor true false)] [(Ty.int IntKind.i64, Md.bor false true)] (resL ([]) Try.f72) (codeOf Try.f72) ⟨next, ()⟩ = way_Check_f nf next := by
  have h : runF tab (way_Check_phi nf) way_Check_keep nf [PT.val (Ty.int IntKind.i64).sl.sl (Md.bor true false)] [(Ty.int IntKind.i64, Md.bor false true)] (resL ([]) Try.f72) (codeOf Try.f72) ⟨next, ()⟩ = way_Check_p nf (fun p0 v0 v1 => iter nf (LC.F tab (way_Check_phi nf) (fun _ F => iter nf F) way_Check_keep 0 (way_Check_L0 nf)) (way_Check_m0 p0 v0 v1)) next := by kernel_rfl
  rw [h]
  simp only [way_Check_e0]
  rfl
def way_Check_F (nf : Nat) (x : denPs [.val (.sl (.sl (.int .i64))) (.bor true false)]) : Option (denL [(.int .i64, .bor false true)]) := way_Check_f nf x.1
def way_Check_C (nf : Nat) : Contract := ⟨[.val (.sl (.sl (.int .i64))) (.bor true false)], [(.int .i64, .bor false true)], way_Check_F nf, []⟩
theorem way_Check_ok : FnOK Try.prog 72 := ⟨Try.f72, codeOf Try.f72, Try.func72, by kernel_rfl, by kernel_rfl⟩
theorem way_Check_holds (nf : Nat) : Contract.Holds Try.prog 72 (way_Check_C nf) :=
  fn_holds (Φ := way_Check_phi nf) (keep := way_Check_keep) (n := nf) ⟨tabs.1, tabs.2, (ctx_cons slices_ContainsFunc__way_Check_1_ok (slices_ContainsFunc__way_Check_1_holds nf) ctx_nil), mixed, bk_ok bkls rfl⟩ (fn := Try.f72) ⟨Try.func72, by kernel_rfl, by kernel_rfl, by kernel_rfl⟩ (fun x => way_Check_eq nf x.1)

/-! codemason fact.wrong 1 -/
def fact_wrong_1_phi (nf : Nat) : Nat → Option Contract := lookC []
def fact_wrong_1_keep : Nat → List Nat := lookK []
def fact_wrong_1_p (nf : Nat)  (s : Int) : Option (Bool × Unit) :=
  some ((decide (s > 255), ()))
def fact_wrong_1_f (nf : Nat) (s : Int) : Option (Bool × Unit) := fact_wrong_1_p nf  s
theorem fact_wrong_1_eq (nf : Nat) (s : Int) : runF tab (fact_wrong_1_phi nf) fact_wrong_1_keep nf [PT.val (Ty.int IntKind.u32) (Md.bor true false)] [(Ty.bool, Md.bor false true)] (resL ([]) Try.f75) (codeOf Try.f75) ⟨s, ()⟩ = fact_wrong_1_f nf s := by
  have h : runF tab (fact_wrong_1_phi nf) fact_wrong_1_keep nf [PT.val (Ty.int IntKind.u32) (Md.bor true false)] [(Ty.bool, Md.bor false true)] (resL ([]) Try.f75) (codeOf Try.f75) ⟨s, ()⟩ = fact_wrong_1_p nf  s := by kernel_rfl
  exact h
def fact_wrong_1_F (nf : Nat) (x : denPs [.val (.int .u32) (.bor true false)]) : Option (denL [(.bool, .bor false true)]) := fact_wrong_1_f nf x.1
def fact_wrong_1_C (nf : Nat) : Contract := ⟨[.val (.int .u32) (.bor true false)], [(.bool, .bor false true)], fact_wrong_1_F nf, []⟩
theorem fact_wrong_1_ok : FnOK Try.prog 75 := ⟨Try.f75, codeOf Try.f75, Try.func75, by kernel_rfl, by kernel_rfl⟩
theorem fact_wrong_1_holds (nf : Nat) : Contract.Holds Try.prog 75 (fact_wrong_1_C nf) :=
  fn_holds (Φ := fact_wrong_1_phi nf) (keep := fact_wrong_1_keep) (n := nf) ⟨tabs.1, tabs.2, ctx_nil, mixed, bk_ok bkls rfl⟩ (fn := Try.f75) ⟨Try.func75, by kernel_rfl, by kernel_rfl, by kernel_rfl⟩ (fun x => fact_wrong_1_eq nf x.1)

/-! slices.IndexFunc   uint32 uint32  codemason fact.wrong 1 -/
def slices_IndexFunc__fact_wrong_1_phi (nf : Nat) : Nat → Option Contract := lookC [(75, fact_wrong_1_C nf)]
def slices_IndexFunc__fact_wrong_1_keep : Nat → List Nat := lookK [(0, [0, 1, 7, 8])]
def slices_IndexFunc__fact_wrong_1_b0 (nf : Nat) (s : List Int) (g0 : Int → Option (Int × Unit)) (t8 : Int) : Option (Int × Unit) :=
  bif decide (t8 < (↑s.length : Int)) then
    bif inb t8 s.length then
      Option.bind (fact_wrong_1_f nf (s.getD t8.toNat 0)) fun r =>
      bif r.fst then
        some ((t8, ()))
      else
        g0 (IntKind.i64.wrap (t8 + 1))
    else
      none
  else
    some ((-1, ()))
def slices_IndexFunc__fact_wrong_1_p (nf : Nat) (l0 : List Int → Int → Option (Int × Unit)) (s : List Int) (f : Unit) : Option (Int × Unit) :=
  l0 s 0
def slices_IndexFunc__fact_wrong_1_l0 (nf : Nat) (s : List Int) : Nat → Int → Option (Int × Unit)
  | 0, _ => none
  | fu + 1, t8 => slices_IndexFunc__fact_wrong_1_b0 nf  s  (slices_IndexFunc__fact_wrong_1_l0 nf s  fu) t8
def slices_IndexFunc__fact_wrong_1_f (nf : Nat) (s : List Int) (f : Unit) : Option (Int × Unit) := slices_IndexFunc__fact_wrong_1_p nf (fun p0 v0 => slices_IndexFunc__fact_wrong_1_l0 nf p0 nf v0) s f
noncomputable def slices_IndexFunc__fact_wrong_1_L0 (nf : Nat) : LC (Int × Unit) := theL (findL tab (slices_IndexFunc__fact_wrong_1_phi nf) (fun _ F => iter nf F) slices_IndexFunc__fact_wrong_1_keep 0 0 (codeOf Try.f87) (fin tab [(Ty.int IntKind.i64, Md.bor false true)] (resL ([]) Try.f87)) (fun _ _ => none) (fin tab [(Ty.int IntKind.i64, Md.bor false true)] (resL ([]) Try.f87)))
def slices_IndexFunc__fact_wrong_1_m0 (s : List Int) (t8 : Int) : St := ⟨fresh, [(0, AV.v (Ty.int IntKind.u32).sl (Md.bor true false) s), (1, AV.clo 75 []), (7, AV.v (Ty.int IntKind.i64) (Md.bor false true) (↑s.length : Int)), (8, AV.v (Ty.int IntKind.i64) (Md.bor false true) t8)]⟩
theorem slices_IndexFunc__fact_wrong_1_h0 (nf : Nat)  (s : List Int) (fu : Nat) (t8 : Int) : iter (fu + 1) (LC.F tab (slices_IndexFunc__fact_wrong_1_phi nf) (fun _ F => iter nf F) slices_IndexFunc__fact_wrong_1_keep 0 (slices_IndexFunc__fact_wrong_1_L0 nf )) (slices_IndexFunc__fact_wrong_1_m0 s t8) = slices_IndexFunc__fact_wrong_1_b0 nf  s  (fun t8 => iter fu (LC.F tab (slices_IndexFunc__fact_wrong_1_phi nf) (fun _ F => iter nf F) slices_IndexFunc__fact_wrong_1_keep 0 (slices_IndexFunc__fact_wrong_1_L0 nf )) (slices_IndexFunc__fact_wrong_1_m0 s t8)) t8 := by kernel_rfl
theorem slices_IndexFunc__fact_wrong_1_e0 (nf : Nat)  (s : List Int) : ∀ (fu : Nat) (t8 : Int), iter fu (LC.F tab (slices_IndexFunc__fact_wrong_1_phi nf) (fun _ F => iter nf F) slices_IndexFunc__fact_wrong_1_keep 0 (slices_IndexFunc__fact_wrong_1_L0 nf )) (slices_IndexFunc__fact_wrong_1_m0 s t8) = slices_IndexFunc__fact_wrong_1_l0 nf s  fu t8 := by
  intro fu
  induction fu with
  | zero => intros; rfl
  | succ fu ih =>
    intro t8
    rw [slices_IndexFunc__fact_wrong_1_h0 nf  s fu t8]
    simp only [ih]
    rfl
theorem slices_IndexFunc__fact_wrong_1_eq (nf : Nat) (s : List Int) (f : Unit) : runF tab (slices_IndexFunc__fact_wrong_1_phi nf) slices_IndexFunc__fact_wrong_1_keep nf [PT.val (Ty.int IntKind.u32).sl (Md.bor true false), PT.clo 75 []] [(Ty.int IntKind.i64, Md.bor false true)] (resL ([]) Try.f87) (codeOf Try.f87) ⟨s, f, ()⟩ = slices_IndexFunc__fact_wrong_1_f nf s f := by
  have h : runF tab (slices_IndexFunc__fact_wrong_1_phi nf) slices_IndexFunc__fact_wrong_1_keep nf [PT.val (Ty.int IntKind.u32).sl (Md.bor true false), PT.clo 75 []] [(Ty.int IntKind.i64, Md.bor false true)] (resL ([]) Try.f87) (codeOf Try.f87) ⟨s, f, ()⟩ = slices_IndexFunc__fact_wrong_1_p nf (fun p0 v0 => iter nf (LC.F tab (slices_IndexFunc__fact_wrong_1_phi nf) (fun _ F => iter nf F) slices_IndexFunc__fact_wrong_1_keep 0 (slices_IndexFunc__fact_wrong_1_L0 nf)) (slices_IndexFunc__fact_wrong_1_m0 p0 v0)) s f := by kernel_rfl
  rw [h]
  simp only [slices_IndexFunc__fact_wrong_1_e0]
  rfl
def slices_IndexFunc__fact_wrong_1_F (nf : Nat) (x : denPs [.val (.sl (.int .u32)) (.bor true false), .clo 75 []]) : Option (denL [(.int .i64, .bor false true)]) := slices_IndexFunc__fact_wrong_1_f nf x.1 x.2.1
def slices_IndexFunc__fact_wrong_1_C (nf : Nat) : Contract := ⟨[.val (.sl (.int .u32)) (.bor true false), .clo 75 []], [(.int .i64, .bor false true)], slices_IndexFunc__fact_wrong_1_F nf, []⟩
theorem slices_IndexFunc__fact_wrong_1_ok : FnOK Try.prog 87 := ⟨Try.f87, codeOf Try.f87, Try.func87, by kernel_rfl, by kernel_rfl⟩
theorem slices_IndexFunc__fact_wrong_1_holds (nf : Nat) : Contract.Holds Try.prog 87 (slices_IndexFunc__fact_wrong_1_C nf) :=
  fn_holds (Φ := slices_IndexFunc__fact_wrong_1_phi nf) (keep := slices_IndexFunc__fact_wrong_1_keep) (n := nf) ⟨tabs.1, tabs.2, (ctx_cons fact_wrong_1_ok (fact_wrong_1_holds nf) ctx_nil), mixed, bk_ok bkls rfl⟩ (fn := Try.f87) ⟨Try.func87, by kernel_rfl, by kernel_rfl, by kernel_rfl⟩ (fun x => slices_IndexFunc__fact_wrong_1_eq nf x.1 x.2.1)

/-! slices.ContainsFunc   uint32 uint32  codemason fact.wrong 1 -/
def slices_ContainsFunc__fact_wrong_1_phi (nf : Nat) : Nat → Option Contract := lookC [(87, slices_IndexFunc__fact_wrong_1_C nf)]
def slices_ContainsFunc__fact_wrong_1_keep : Nat → List Nat := lookK []
def slices_ContainsFunc__fact_wrong_1_p (nf : Nat)  (s : List Int) (f : Unit) : Option (Bool × Unit) :=
  Option.bind (slices_IndexFunc__fact_wrong_1_f nf s (())) fun r =>
  some ((decide (r.fst ≥ 0), ()))
def slices_ContainsFunc__fact_wrong_1_f (nf : Nat) (s : List Int) (f : Unit) : Option (Bool × Unit) := slices_ContainsFunc__fact_wrong_1_p nf  s f
theorem slices_ContainsFunc__fact_wrong_1_eq (nf : Nat) (s : List Int) (f : Unit) : runF tab (slices_ContainsFunc__fact_wrong_1_phi nf) slices_ContainsFunc__fact_wrong_1_keep nf [PT.val (Ty.int IntKind.u32).sl (Md.bor true false), PT.clo 75 []] [(Ty.bool, Md.bor false true)] (resL ([]) Try.f73) (codeOf Try.f73) ⟨s, f, ()⟩ = slices_ContainsFunc__fact_wrong_1_f nf s f := by
  have h : runF tab (slices_ContainsFunc__fact_wrong_1_phi nf) slices_ContainsFunc__fact_wrong_1_keep nf [PT.val (Ty.int IntKind.u32).sl (Md.bor true false), PT.clo 75 []] [(Ty.bool, Md.bor false true)] (resL ([]) Try.f73) (codeOf Try.f73) ⟨s, f, ()⟩ = slices_ContainsFunc__fact_wrong_1_p nf  s f := by kernel_rfl
  exact h
def slices_ContainsFunc__fact_wrong_1_F (nf : Nat) (x : denPs [.val (.sl (.int .u32)) (.bor true false), .clo 75 []]) : Option (denL [(.bool, .bor false true)]) := slices_ContainsFunc__fact_wrong_1_f nf x.1 x.2.1
def slices_ContainsFunc__fact_wrong_1_C (nf : Nat) : Contract := ⟨[.val (.sl (.int .u32)) (.bor true false), .clo 75 []], [(.bool, .bor false true)], slices_ContainsFunc__fact_wrong_1_F nf, []⟩
theorem slices_ContainsFunc__fact_wrong_1_ok : FnOK Try.prog 73 := ⟨Try.f73, codeOf Try.f73, Try.func73, by kernel_rfl, by kernel_rfl⟩
theorem slices_ContainsFunc__fact_wrong_1_holds (nf : Nat) : Contract.Holds Try.prog 73 (slices_ContainsFunc__fact_wrong_1_C nf) :=
  fn_holds (Φ := slices_ContainsFunc__fact_wrong_1_phi nf) (keep := slices_ContainsFunc__fact_wrong_1_keep) (n := nf) ⟨tabs.1, tabs.2, (ctx_cons slices_IndexFunc__fact_wrong_1_ok (slices_IndexFunc__fact_wrong_1_holds nf) ctx_nil), mixed, bk_ok bkls rfl⟩ (fn := Try.f73) ⟨Try.func73, by kernel_rfl, by kernel_rfl, by kernel_rfl⟩ (fun x => slices_ContainsFunc__fact_wrong_1_eq nf x.1 x.2.1)

/-! slices.Concat   uint32 uint32  -/
def slices_Concat_phi (nf : Nat) : Nat → Option Contract := lookC [(88, slices_Grow_C nf)]
def slices_Concat_keep : Nat → List Nat := lookK [(2, [0, 6, 24, 25, 26, 27]), (0, [0, 3, 9, 10, 11])]
def slices_Concat_b0 (nf : Nat) (l2 : List (List Int) → List Int → Int → Option (List Int × Unit)) (slices : List (List Int)) (g0 : Int → Int → Option (List Int × Unit)) (size' : Int) (t11 : Int) : Option (List Int × Unit) :=
  bif decide (t11 < (↑slices.length : Int)) then
    bif inb t11 slices.length then
      bif decide (IntKind.i64.wrap (size' + (↑(List.length (slices.getD t11.toNat [])) : Int)) < 0) then
        none
      else
        g0 (IntKind.i64.wrap (size' + (↑(List.length (slices.getD t11.toNat [])) : Int))) (IntKind.i64.wrap (t11 + 1))
    else
      none
  else
    Option.bind (slices_Grow_f nf ([]) size') fun r =>
    l2 slices r.fst 0
def slices_Concat_b2 (nf : Nat) (slices : List (List Int)) (g2 : List Int → Int → Option (List Int × Unit)) (newslice : List Int) (t27 : Int) : Option (List Int × Unit) :=
  bif decide (t27 < (↑slices.length : Int)) then
    bif inb t27 slices.length then
      bif bimp false !List.isEmpty (slices.getD t27.toNat []) && (newslice.length + List.length (slices.getD t27.toNat [])).ble lim then
        g2 (newslice ++ slices.getD t27.toNat []) (IntKind.i64.wrap (t27 + 1))
      else
        none
    else
      none
  else
    some ((newslice, ()))
def slices_Concat_p (nf : Nat) (l0 : List (List Int) → Int → Int → Option (List Int × Unit)) (slices : List (List Int)) : Option (List Int × Unit) :=
  l0 slices 0 0
def slices_Concat_l2 (nf : Nat) (slices : List (List Int)) : Nat → List Int → Int → Option (List Int × Unit)
  | 0, _, _ => none
  | fu + 1, newslice, t27 => slices_Concat_b2 nf  slices  (slices_Concat_l2 nf slices  fu) newslice t27
def slices_Concat_l0 (nf : Nat) (slices : List (List Int)) : Nat → Int → Int → Option (List Int × Unit)
  | 0, _, _ => none
  | fu + 1, size', t11 => slices_Concat_b0 nf (fun _ v0 v1 => slices_Concat_l2 nf slices  nf v0 v1) slices  (slices_Concat_l0 nf slices  fu) size' t11
def slices_Concat_f (nf : Nat) (slices : List (List Int)) : Option (List Int × Unit) := slices_Concat_p nf (fun p0 v0 v1 => slices_Concat_l0 nf p0 nf v0 v1) slices
noncomputable def slices_Concat_L0 (nf : Nat) : LC (List Int × Unit) := theL (findL tab (slices_Concat_phi nf) (fun _ F => iter nf F) slices_Concat_keep 0 0 (codeOf Try.f74) (fin tab [((Ty.int IntKind.u32).sl, Md.own false (Md.bor false false))] (resL ([]) Try.f74)) (fun _ _ => none) (fin tab [((Ty.int IntKind.u32).sl, Md.own false (Md.bor false false))] (resL ([]) Try.f74)))
def slices_Concat_m0 (slices : List (List Int)) (size' : Int) (t11 : Int) : St := ⟨fresh, [(0, AV.v (Ty.int IntKind.u32).sl.sl (Md.bor true false) slices), (3, AV.v (Ty.int IntKind.i64) (Md.bor false true) size'), (9, AV.v (Ty.int IntKind.u32).sl.sl (Md.bor true false) slices), (10, AV.v (Ty.int IntKind.i64) (Md.bor false true) (↑slices.length : Int)), (11, AV.v (Ty.int IntKind.i64) (Md.bor false true) t11)]⟩
noncomputable def slices_Concat_L2 (nf : Nat) : LC (List Int × Unit) := theL (findL tab (slices_Concat_phi nf) (fun _ F => iter nf F) slices_Concat_keep 2 0 (codeOf Try.f74) (fin tab [((Ty.int IntKind.u32).sl, Md.own false (Md.bor false false))] (resL ([]) Try.f74)) (fun _ _ => none) (fin tab [((Ty.int IntKind.u32).sl, Md.own false (Md.bor false false))] (resL ([]) Try.f74)))
def slices_Concat_m2 (slices : List (List Int)) (newslice : List Int) (t27 : Int) : St := ⟨fresh, [(0, AV.v (Ty.int IntKind.u32).sl.sl (Md.bor true false) slices), (6, AV.ow 500006 (Ty.int IntKind.u32).sl (Md.own false (Md.bor false false)) newslice), (24, AV.dead), (25, AV.v (Ty.int IntKind.u32).sl.sl (Md.bor true false) slices), (26, AV.v (Ty.int IntKind.i64) (Md.bor false true) (↑slices.length : Int)), (27, AV.v (Ty.int IntKind.i64) (Md.bor false true) t27)]⟩
theorem slices_Concat_h2 (nf : Nat)  (slices : List (List Int)) (fu : Nat) (newslice : List Int) (t27 : Int) : iter (fu + 1) (LC.F tab (slices_Concat_phi nf) (fun _ F => iter nf F) slices_Concat_keep 2 (slices_Concat_L2 nf )) (slices_Concat_m2 slices newslice t27) = slices_Concat_b2 nf  slices  (fun newslice t27 => iter fu (LC.F tab (slices_Concat_phi nf) (fun _ F => iter nf F) slices_Concat_keep 2 (slices_Concat_L2 nf )) (slices_Concat_m2 slices newslice t27)) newslice t27 := by kernel_rfl
theorem slices_Concat_e2 (nf : Nat)  (slices : List (List Int)) : ∀ (fu : Nat) (newslice : List Int) (t27 : Int), iter fu (LC.F tab (slices_Concat_phi nf) (fun _ F => iter nf F) slices_Concat_keep 2 (slices_Concat_L2 nf )) (slices_Concat_m2 slices newslice t27) = slices_Concat_l2 nf slices  fu newslice t27 := by
  intro fu
  induction fu with
  | zero => intros; rfl
  | succ fu ih =>
    intro newslice t27
    rw [slices_Concat_h2 nf  slices fu newslice t27]
    simp only [ih]
    rfl
theorem slices_Concat_h0 (nf : Nat)  (slices : List (List Int)) (fu : Nat) (size' : Int) (t11 : Int) : iter (fu + 1) (LC.F tab (slices_Concat_phi nf) (fun _ F => iter nf F) slices_Concat_keep 0 (slices_Concat_L0 nf )) (slices_Concat_m0 slices size' t11) = slices_Concat_b0 nf (fun _ v0 v1 => iter nf (LC.F tab (slices_Concat_phi nf) (fun _ F => iter nf F) slices_Concat_keep 2 (slices_Concat_L2 nf )) (slices_Concat_m2 slices v0 v1)) slices  (fun size' t11 => iter fu (LC.F tab (slices_Concat_phi nf) (fun _ F => iter nf F) slices_Concat_keep 0 (slices_Concat_L0 nf )) (slices_Concat_m0 slices size' t11)) size' t11 := by kernel_rfl
theorem slices_Concat_e0 (nf : Nat)  (slices : List (List Int)) : ∀ (fu : Nat) (size' : Int) (t11 : Int), iter fu (LC.F tab (slices_Concat_phi nf) (fun _ F => iter nf F) slices_Concat_keep 0 (slices_Concat_L0 nf )) (slices_Concat_m0 slices size' t11) = slices_Concat_l0 nf slices  fu size' t11 := by
  intro fu
  induction fu with
  | zero => intros; rfl
  | succ fu ih =>
    intro size' t11
    rw [slices_Concat_h0 nf  slices fu size' t11]
    simp only [ih, slices_Concat_e2]
    rfl
theorem slices_Concat_eq (nf : Nat) (slices : List (List Int)) : runF tab (slices_Concat_phi nf) slices_Concat_keep nf [PT.val (Ty.int IntKind.u32).sl.sl (Md.bor true false)] [((Ty.int IntKind.u32).sl, Md.own false (Md.bor false false))] (resL ([]) Try.f74) (codeOf Try.f74) ⟨slices, ()⟩ = slices_Concat_f nf slices := by
  have h : runF tab (slices_Concat_phi nf) slices_Concat_keep nf [PT.val (Ty.int IntKind.u32).sl.sl (Md.bor true false)] [((Ty.int IntKind.u32).sl, Md.own false (Md.bor false false))] (resL ([]) Try.f74) (codeOf Try.f74) ⟨slices, ()⟩ = slices_Concat_p nf (fun p0 v0 v1 => iter nf (LC.F tab (slices_Concat_phi nf) (fun _ F => iter nf F) slices_Concat_keep 0 (slices_Concat_L0 nf)) (slices_Concat_m0 p0 v0 v1)) slices := by kernel_rfl
  rw [h]
  simp only [slices_Concat_e0]
  rfl
def slices_Concat_F (nf : Nat) (x : denPs [.val (.sl (.sl (.int .u32))) (.bor true false)]) : Option (denL [(.sl (.int .u32), .own false (.bor false false))]) := slices_Concat_f nf x.1
def slices_Concat_C (nf : Nat) : Contract := ⟨[.val (.sl (.sl (.int .u32))) (.bor true false)], [(.sl (.int .u32), .own false (.bor false false))], slices_Concat_F nf, []⟩
theorem slices_Concat_ok : FnOK Try.prog 74 := ⟨Try.f74, codeOf Try.f74, Try.func74, by kernel_rfl, by kernel_rfl⟩
theorem slices_Concat_holds (nf : Nat) : Contract.Holds Try.prog 74 (slices_Concat_C nf) :=
  fn_holds (Φ := slices_Concat_phi nf) (keep := slices_Concat_keep) (n := nf) ⟨tabs.1, tabs.2, (ctx_cons slices_Grow_ok (slices_Grow_holds nf) ctx_nil), mixed, bk_ok bkls rfl⟩ (fn := Try.f74) ⟨Try.func74, by kernel_rfl, by kernel_rfl, by kernel_rfl⟩ (fun x => slices_Concat_eq nf x.1)

/-! codemason fact.wrong -/
def fact_wrong_tab : Tab := ⟨lookT tyL, lookM ([(125, .own false (.bor true false))] ++ mdL), hasT [77, 132], hasT [9, 10, 11], fun _ => none, lookB bkl⟩
theorem fact_wrong_tabs : TabOK Try.prog fact_wrong_tab ∧ EqOK Try.prog fact_wrong_tab := tab_ok (by kernel_rfl) (by kernel_rfl)
def fact_wrong_phi (nf : Nat) : Nat → Option Contract := lookC [(72, way_Check_C nf), (73, slices_ContainsFunc__fact_wrong_1_C nf), (74, slices_Concat_C nf)]
def fact_wrong_keep : Nat → List Nat := lookK []
def fact_wrong_p (nf : Nat)  (next : List (List Int)) (law : Bool × Bool × List Int × List Int × Int × Unit) : Option (Int × Unit) :=
  Option.bind (way_Check_f nf next) fun r =>
  bif r.fst != 0 then
    some ((r.fst, ()))
  else
    bif (↑(List.length law.snd.snd.fst) : Int) != (↑next.length : Int) then
      some ((3, ()))
    else
      bif (↑(List.length law.snd.snd.snd.fst) : Int) != (↑next.length : Int) then
        some ((3, ()))
      else
        Option.bind (slices_Concat_f nf ([law.snd.snd.fst, law.snd.snd.snd.fst, [law.snd.snd.snd.snd.fst]])) fun r2 =>
        Option.bind (slices_ContainsFunc__fact_wrong_1_f nf r2.fst (())) fun r3 =>
        bif r3.fst then
          some ((4, ()))
        else
          some ((0, ()))
def fact_wrong_f (nf : Nat) (next : List (List Int)) (law : Bool × Bool × List Int × List Int × Int × Unit) : Option (Int × Unit) := fact_wrong_p nf  next law
theorem fact_wrong_eq (nf : Nat) (next : List (List Int)) (law : Bool × Bool × List Int × List Int × Int × Unit) : runF fact_wrong_tab (fact_wrong_phi nf) fact_wrong_keep nf [PT.val (Ty.int IntKind.i64).sl.sl (Md.bor true false), PT.val (Ty.bool.pair (Ty.bool.pair ((Ty.int IntKind.u32).sl.pair ((Ty.int IntKind.u32).sl.pair ((Ty.int IntKind.u32).pair Ty.unit))))) (Md.bor true false)] [(Ty.int IntKind.i64, Md.bor false true)] (resL ([]) Try.f31) (codeOf Try.f31) ⟨next, law, ()⟩ = fact_wrong_f nf next law := by
  have h : runF fact_wrong_tab (fact_wrong_phi nf) fact_wrong_keep nf [PT.val (Ty.int IntKind.i64).sl.sl (Md.bor true false), PT.val (Ty.bool.pair (Ty.bool.pair ((Ty.int IntKind.u32).sl.pair ((Ty.int IntKind.u32).sl.pair ((Ty.int IntKind.u32).pair Ty.unit))))) (Md.bor true false)] [(Ty.int IntKind.i64, Md.bor false true)] (resL ([]) Try.f31) (codeOf Try.f31) ⟨next, law, ()⟩ = fact_wrong_p nf  next law := by kernel_rfl
  exact h
def fact_wrong_F (nf : Nat) (x : denPs [.val (.sl (.sl (.int .i64))) (.bor true false), .val (.pair (.bool) (.pair (.bool) (.pair (.sl (.int .u32)) (.pair (.sl (.int .u32)) (.pair (.int .u32) (.unit)))))) (.bor true false)]) : Option (denL [(.int .i64, .bor false true)]) := fact_wrong_f nf x.1 x.2.1
def fact_wrong_C (nf : Nat) : Contract := ⟨[.val (.sl (.sl (.int .i64))) (.bor true false), .val (.pair (.bool) (.pair (.bool) (.pair (.sl (.int .u32)) (.pair (.sl (.int .u32)) (.pair (.int .u32) (.unit)))))) (.bor true false)], [(.int .i64, .bor false true)], fact_wrong_F nf, []⟩
theorem fact_wrong_ok : FnOK Try.prog 31 := ⟨Try.f31, codeOf Try.f31, Try.func31, by kernel_rfl, by kernel_rfl⟩
theorem fact_wrong_holds (nf : Nat) : Contract.Holds Try.prog 31 (fact_wrong_C nf) :=
  fn_holds (Φ := fact_wrong_phi nf) (keep := fact_wrong_keep) (n := nf) ⟨fact_wrong_tabs.1, fact_wrong_tabs.2, (ctx_cons way_Check_ok (way_Check_holds nf) (ctx_cons slices_ContainsFunc__fact_wrong_1_ok (slices_ContainsFunc__fact_wrong_1_holds nf) (ctx_cons slices_Concat_ok (slices_Concat_holds nf) ctx_nil))), mixed, bk_ok bkls rfl⟩ (fn := Try.f31) ⟨Try.func31, by kernel_rfl, by kernel_rfl, by kernel_rfl⟩ (fun x => fact_wrong_eq nf x.1 x.2.1)

/-! codemason fact.Turn -/
def fact_Turn_tab : Tab := ⟨lookT tyL, lookM ([(22, .own false (.own true (.bor false true)))] ++ mdL), hasT [77, 132], hasT [9, 10, 11], fun _ => none, lookB bkl⟩
theorem fact_Turn_tabs : TabOK Try.prog fact_Turn_tab ∧ EqOK Try.prog fact_Turn_tab := tab_ok (by kernel_rfl) (by kernel_rfl)
def fact_Turn_phi (nf : Nat) : Nat → Option Contract := lookC []
def fact_Turn_keep : Nat → List Nat := lookK [(2, [0, 3, 4, 5, 10, 11, 12, 13, 16, 17, 18, 19, 20]), (0, [0, 3, 10, 11, 12, 13])]
def fact_Turn_b0 (nf : Nat) (l2 : List (List Int) → Int → List (List Int) → Int → Option (List (List Int) × Unit)) (next : List (List Int)) (g0 : List (List Int) → Int → Option (List (List Int) × Unit)) (out : List (List Int)) (t13 : Int) : Option (List (List Int) × Unit) :=
  bif decide (t13 < (↑next.length : Int)) then
    bif inb t13 next.length then
      l2 next t13 out 0
    else
      none
  else
    some ((out, ()))
def fact_Turn_b2 (nf : Nat) (next : List (List Int)) (t13 : Int) (g0 : List (List Int) → Int → Option (List (List Int) × Unit)) (g2 : List (List Int) → Int → Option (List (List Int) × Unit)) (out2 : List (List Int)) (t20 : Int) : Option (List (List Int) × Unit) :=
  bif decide (t20 < (↑(List.length (next.getD t13.toNat [])) : Int)) then
    bif inb t20 (List.length (next.getD t13.toNat [])) then
      bif inb (List.getD (next.getD t13.toNat []) t20.toNat 0) out2.length then
        bif ![t13].isEmpty && (List.length (out2.getD (Int.toNat (List.getD (next.getD t13.toNat []) t20.toNat 0)) []) + [t13].length).ble lim then
          bif inb (List.getD (next.getD t13.toNat []) t20.toNat 0) out2.length then
            bif decide ([Stp.el (Int.toNat (List.getD (next.getD t13.toNat []) t20.toNat 0))] = [] ++ [Stp.el (Int.toNat (List.getD (next.getD t13.toNat []) t20.toNat 0))]) then
              g2 (out2.set (Int.toNat (List.getD (next.getD t13.toNat []) t20.toNat 0)) (out2.getD (Int.toNat (List.getD (next.getD t13.toNat []) t20.toNat 0)) [] ++ [t13])) (IntKind.i64.wrap (t20 + 1))
            else
              none
          else
            none
        else
          none
      else
        none
    else
      none
  else
    g0 out2 (IntKind.i64.wrap (t13 + 1))
def fact_Turn_p (nf : Nat) (l0 : List (List Int) → List (List Int) → Int → Option (List (List Int) × Unit)) (next : List (List Int)) : Option (List (List Int) × Unit) :=
  bif decide (0 ≤ (↑next.length : Int)) && decide ((↑next.length : Int) ≤ (↑next.length : Int)) && decide ((↑next.length : Int) ≤ (↑lim : Int)) then
    l0 next (List.replicate (↑next.length : Int).toNat []) 0
  else
    none
def fact_Turn_l2 (nf : Nat) (next : List (List Int)) (t13 : Int) (g0 : List (List Int) → Int → Option (List (List Int) × Unit)) : Nat → List (List Int) → Int → Option (List (List Int) × Unit)
  | 0, _, _ => none
  | fu + 1, out2, t20 => fact_Turn_b2 nf  next t13 g0 (fact_Turn_l2 nf next t13 g0 fu) out2 t20
def fact_Turn_l0 (nf : Nat) (next : List (List Int)) : Nat → List (List Int) → Int → Option (List (List Int) × Unit)
  | 0, _, _ => none
  | fu + 1, out, t13 => fact_Turn_b0 nf (fun _ p1 v0 v1 => fact_Turn_l2 nf next p1 (fun out t13 => fact_Turn_l0 nf next  fu out t13) nf v0 v1) next  (fact_Turn_l0 nf next  fu) out t13
def fact_Turn_f (nf : Nat) (next : List (List Int)) : Option (List (List Int) × Unit) := fact_Turn_p nf (fun p0 v0 v1 => fact_Turn_l0 nf p0 nf v0 v1) next
noncomputable def fact_Turn_L0 (nf : Nat) : LC (List (List Int) × Unit) := theL (findL fact_Turn_tab (fact_Turn_phi nf) (fun _ F => iter nf F) fact_Turn_keep 0 0 (codeOf Try.f32) (fin fact_Turn_tab [((Ty.int IntKind.i64).sl.sl, Md.bor false false)] (resL ([]) Try.f32)) (fun _ _ => none) (fin fact_Turn_tab [((Ty.int IntKind.i64).sl.sl, Md.bor false false)] (resL ([]) Try.f32)))
def fact_Turn_m0 (next : List (List Int)) (out : List (List Int)) (t13 : Int) : St := ⟨fresh, [(0, AV.v (Ty.int IntKind.i64).sl.sl (Md.bor true false) next), (3, AV.ow 500003 (Ty.int IntKind.i64).sl.sl (Md.own false (Md.own true (Md.bor false true))) out), (10, AV.dead), (11, AV.v (Ty.int IntKind.i64).sl.sl (Md.bor true false) next), (12, AV.v (Ty.int IntKind.i64) (Md.bor false true) (↑next.length : Int)), (13, AV.v (Ty.int IntKind.i64) (Md.bor false true) t13)]⟩
noncomputable def fact_Turn_L2 (nf : Nat) (G0 : St → Option (List (List Int) × Unit)) : LC (List (List Int) × Unit) := theL (findL fact_Turn_tab (fact_Turn_phi nf) (fun _ F => iter nf F) fact_Turn_keep 2 0 (fact_Turn_L0 nf ).c (fun st => norm (fact_Turn_keep 0) st G0) (fact_Turn_L0 nf ).Kx (fact_Turn_L0 nf ).Kr)
def fact_Turn_m2 (next : List (List Int)) (t13 : Int) (out2 : List (List Int)) (t20 : Int) : St := ⟨fresh, [(0, AV.v (Ty.int IntKind.i64).sl.sl (Md.bor true false) next), (3, AV.ow 500003 (Ty.int IntKind.i64).sl.sl (Md.own false (Md.own true (Md.bor false true))) out2), (4, AV.v (Ty.int IntKind.i64) (Md.bor false true) t13), (5, AV.v (Ty.int IntKind.i64).sl (Md.bor true false) (next.getD t13.toNat [])), (10, AV.dead), (11, AV.v (Ty.int IntKind.i64).sl.sl (Md.bor true false) next), (12, AV.v (Ty.int IntKind.i64) (Md.bor false true) (↑next.length : Int)), (13, AV.v (Ty.int IntKind.i64) (Md.bor false true) t13), (16, AV.rop (Ty.int IntKind.i64).sl (Md.bor true false) (next.getD t13.toNat [])), (17, AV.v (Ty.int IntKind.i64).sl (Md.bor true false) (next.getD t13.toNat [])), (18, AV.v (Ty.int IntKind.i64).sl (Md.bor true false) (next.getD t13.toNat [])), (19, AV.v (Ty.int IntKind.i64) (Md.bor false true) (↑(List.length (next.getD t13.toNat [])) : Int)), (20, AV.v (Ty.int IntKind.i64) (Md.bor false true) t20)]⟩
theorem fact_Turn_h2 (nf : Nat) (G0 : St → Option (List (List Int) × Unit)) (next : List (List Int)) (t13 : Int) (fu : Nat) (out2 : List (List Int)) (t20 : Int) : iter (fu + 1) (LC.F fact_Turn_tab (fact_Turn_phi nf) (fun _ F => iter nf F) fact_Turn_keep 2 (fact_Turn_L2 nf G0)) (fact_Turn_m2 next t13 out2 t20) = fact_Turn_b2 nf  next t13 (fun out t13 => G0 (fact_Turn_m0 next out t13)) (fun out2 t20 => iter fu (LC.F fact_Turn_tab (fact_Turn_phi nf) (fun _ F => iter nf F) fact_Turn_keep 2 (fact_Turn_L2 nf G0)) (fact_Turn_m2 next t13 out2 t20)) out2 t20 := by kernel_rfl
theorem fact_Turn_e2 (nf : Nat) (G0 : St → Option (List (List Int) × Unit)) (next : List (List Int)) (t13 : Int) : ∀ (fu : Nat) (out2 : List (List Int)) (t20 : Int), iter fu (LC.F fact_Turn_tab (fact_Turn_phi nf) (fun _ F => iter nf F) fact_Turn_keep 2 (fact_Turn_L2 nf G0)) (fact_Turn_m2 next t13 out2 t20) = fact_Turn_l2 nf next t13 (fun out t13 => G0 (fact_Turn_m0 next out t13)) fu out2 t20 := by
  intro fu
  induction fu with
  | zero => intros; rfl
  | succ fu ih =>
    intro out2 t20
    rw [fact_Turn_h2 nf G0 next t13 fu out2 t20]
    simp only [ih]
    rfl
theorem fact_Turn_h0 (nf : Nat)  (next : List (List Int)) (fu : Nat) (out : List (List Int)) (t13 : Int) : iter (fu + 1) (LC.F fact_Turn_tab (fact_Turn_phi nf) (fun _ F => iter nf F) fact_Turn_keep 0 (fact_Turn_L0 nf )) (fact_Turn_m0 next out t13) = fact_Turn_b0 nf (fun _ p1 v0 v1 => iter nf (LC.F fact_Turn_tab (fact_Turn_phi nf) (fun _ F => iter nf F) fact_Turn_keep 2 (fact_Turn_L2 nf (iter fu (LC.F fact_Turn_tab (fact_Turn_phi nf) (fun _ F => iter nf F) fact_Turn_keep 0 (fact_Turn_L0 nf ))))) (fact_Turn_m2 next p1 v0 v1)) next  (fun out t13 => iter fu (LC.F fact_Turn_tab (fact_Turn_phi nf) (fun _ F => iter nf F) fact_Turn_keep 0 (fact_Turn_L0 nf )) (fact_Turn_m0 next out t13)) out t13 := by kernel_rfl
theorem fact_Turn_e0 (nf : Nat)  (next : List (List Int)) : ∀ (fu : Nat) (out : List (List Int)) (t13 : Int), iter fu (LC.F fact_Turn_tab (fact_Turn_phi nf) (fun _ F => iter nf F) fact_Turn_keep 0 (fact_Turn_L0 nf )) (fact_Turn_m0 next out t13) = fact_Turn_l0 nf next  fu out t13 := by
  intro fu
  induction fu with
  | zero => intros; rfl
  | succ fu ih =>
    intro out t13
    rw [fact_Turn_h0 nf  next fu out t13]
    simp only [ih, fact_Turn_e2]
    rfl
theorem fact_Turn_eq (nf : Nat) (next : List (List Int)) : runF fact_Turn_tab (fact_Turn_phi nf) fact_Turn_keep nf [PT.val (Ty.int IntKind.i64).sl.sl (Md.bor true false)] [((Ty.int IntKind.i64).sl.sl, Md.bor false false)] (resL ([]) Try.f32) (codeOf Try.f32) ⟨next, ()⟩ = fact_Turn_f nf next := by
  have h : runF fact_Turn_tab (fact_Turn_phi nf) fact_Turn_keep nf [PT.val (Ty.int IntKind.i64).sl.sl (Md.bor true false)] [((Ty.int IntKind.i64).sl.sl, Md.bor false false)] (resL ([]) Try.f32) (codeOf Try.f32) ⟨next, ()⟩ = fact_Turn_p nf (fun p0 v0 v1 => iter nf (LC.F fact_Turn_tab (fact_Turn_phi nf) (fun _ F => iter nf F) fact_Turn_keep 0 (fact_Turn_L0 nf)) (fact_Turn_m0 p0 v0 v1)) next := by kernel_rfl
  rw [h]
  simp only [fact_Turn_e0]
  rfl
def fact_Turn_F (nf : Nat) (x : denPs [.val (.sl (.sl (.int .i64))) (.bor true false)]) : Option (denL [(.sl (.sl (.int .i64)), .bor false false)]) := fact_Turn_f nf x.1
def fact_Turn_C (nf : Nat) : Contract := ⟨[.val (.sl (.sl (.int .i64))) (.bor true false)], [(.sl (.sl (.int .i64)), .bor false false)], fact_Turn_F nf, []⟩
theorem fact_Turn_ok : FnOK Try.prog 32 := ⟨Try.f32, codeOf Try.f32, Try.func32, by kernel_rfl, by kernel_rfl⟩
theorem fact_Turn_holds (nf : Nat) : Contract.Holds Try.prog 32 (fact_Turn_C nf) :=
  fn_holds (Φ := fact_Turn_phi nf) (keep := fact_Turn_keep) (n := nf) ⟨fact_Turn_tabs.1, fact_Turn_tabs.2, ctx_nil, mixed, bk_ok bkls rfl⟩ (fn := Try.f32) ⟨Try.func32, by kernel_rfl, by kernel_rfl, by kernel_rfl⟩ (fun x => fact_Turn_eq nf x.1)

/-! codemason fact.behind -/
def fact_behind_phi (nf : Nat) : Nat → Option Contract := lookC []
def fact_behind_keep : Nat → List Nat := lookK []
def fact_behind_p (nf : Nat)  (law : Bool × Bool × List Int × List Int × Int × Unit) (i : Int) (s : Int) : Option (Int × Unit) :=
  bif inb i (List.length law.snd.snd.snd.fst) then
    bif inb i (List.length law.snd.snd.fst) then
      some ((IntKind.u32.wrap (↑(BitVec.ofInt IntKind.u32.bits (IntKind.u32.wrap (↑(BitVec.ofInt IntKind.u32.bits s &&& ~~~BitVec.ofInt IntKind.u32.bits (List.getD law.snd.snd.snd.fst i.toNat 0)).toNat : Int)) ||| BitVec.ofInt IntKind.u32.bits (List.getD law.snd.snd.fst i.toNat 0)).toNat : Int), ()))
    else
      none
  else
    none
def fact_behind_f (nf : Nat) (law : Bool × Bool × List Int × List Int × Int × Unit) (i : Int) (s : Int) : Option (Int × Unit) := fact_behind_p nf  law i s
theorem fact_behind_eq (nf : Nat) (law : Bool × Bool × List Int × List Int × Int × Unit) (i : Int) (s : Int) : runF tab (fact_behind_phi nf) fact_behind_keep nf [PT.val (Ty.bool.pair (Ty.bool.pair ((Ty.int IntKind.u32).sl.pair ((Ty.int IntKind.u32).sl.pair ((Ty.int IntKind.u32).pair Ty.unit))))) (Md.bor true false), PT.val (Ty.int IntKind.i64) (Md.bor true false), PT.val (Ty.int IntKind.u32) (Md.bor true false)] [(Ty.int IntKind.u32, Md.bor false true)] (resL ([]) Try.f33) (codeOf Try.f33) ⟨law, i, s, ()⟩ = fact_behind_f nf law i s := by
  have h : runF tab (fact_behind_phi nf) fact_behind_keep nf [PT.val (Ty.bool.pair (Ty.bool.pair ((Ty.int IntKind.u32).sl.pair ((Ty.int IntKind.u32).sl.pair ((Ty.int IntKind.u32).pair Ty.unit))))) (Md.bor true false), PT.val (Ty.int IntKind.i64) (Md.bor true false), PT.val (Ty.int IntKind.u32) (Md.bor true false)] [(Ty.int IntKind.u32, Md.bor false true)] (resL ([]) Try.f33) (codeOf Try.f33) ⟨law, i, s, ()⟩ = fact_behind_p nf  law i s := by kernel_rfl
  exact h
def fact_behind_F (nf : Nat) (x : denPs [.val (.pair (.bool) (.pair (.bool) (.pair (.sl (.int .u32)) (.pair (.sl (.int .u32)) (.pair (.int .u32) (.unit)))))) (.bor true false), .val (.int .i64) (.bor true false), .val (.int .u32) (.bor true false)]) : Option (denL [(.int .u32, .bor false true)]) := fact_behind_f nf x.1 x.2.1 x.2.2.1
def fact_behind_C (nf : Nat) : Contract := ⟨[.val (.pair (.bool) (.pair (.bool) (.pair (.sl (.int .u32)) (.pair (.sl (.int .u32)) (.pair (.int .u32) (.unit)))))) (.bor true false), .val (.int .i64) (.bor true false), .val (.int .u32) (.bor true false)], [(.int .u32, .bor false true)], fact_behind_F nf, []⟩
theorem fact_behind_ok : FnOK Try.prog 33 := ⟨Try.f33, codeOf Try.f33, Try.func33, by kernel_rfl, by kernel_rfl⟩
theorem fact_behind_holds (nf : Nat) : Contract.Holds Try.prog 33 (fact_behind_C nf) :=
  fn_holds (Φ := fact_behind_phi nf) (keep := fact_behind_keep) (n := nf) ⟨tabs.1, tabs.2, ctx_nil, mixed, bk_ok bkls rfl⟩ (fn := Try.f33) ⟨Try.func33, by kernel_rfl, by kernel_rfl, by kernel_rfl⟩ (fun x => fact_behind_eq nf x.1 x.2.1 x.2.2.1)

/-! codemason fact.Solve -/
def fact_Solve_phi (nf : Nat) : Nat → Option Contract := lookC [(31, fact_wrong_C nf), (32, fact_Turn_C nf), (33, fact_behind_C nf)]
def fact_Solve_keep : Nat → List Nat := lookK [(8, [0, 1, 3, 10, 11, 13, 14, 15, 43, 46, 70, 71, 72, 75, 76, 82, 83, 84]), (6, [0, 1, 3, 10, 11, 13, 43, 46, 70, 71, 72]), (4, [0, 1, 3, 10, 11, 13, 43, 46]), (2, [0, 1, 3, 7, 10, 11, 46, 49, 50]), (0, [0, 1, 3, 7, 27, 28, 29, 43])]
def fact_Solve_b0 (nf : Nat) (l2 : Bool × Bool × List Int × List Int × Int × Unit → List (List Int) → Bool × Bool × List Int × List Int × Int × Unit → Int → List Int → Int → Int → Int → Option (List Int × Int × Unit)) (next : List (List Int)) (law : Bool × Bool × List Int × List Int × Int × Unit) (g0 : Bool × Bool × List Int × List Int × Int × Unit → Int → Int → Option (List Int × Int × Unit)) (law2 : Bool × Bool × List Int × List Int × Int × Unit) (first : Int) (t29 : Int) : Option (List Int × Int × Unit) :=
  bif decide (t29 < (↑next.length : Int)) then
    bif inb t29 next.length then
      bif (↑(List.length (next.getD t29.toNat [])) : Int) == 0 then
        bif decide (0 ≤ t29) then
          g0 law2 (IntKind.u32.wrap (↑(BitVec.ofInt IntKind.u32.bits first ||| BitVec.ofInt IntKind.u32.bits (shlI IntKind.u32 1 t29)).toNat : Int)) (IntKind.i64.wrap (t29 + 1))
        else
          none
      else
        g0 law2 first (IntKind.i64.wrap (t29 + 1))
    else
      none
  else
    Option.bind (fact_Turn_f nf next) fun r2 =>
    bif decide (0 ≤ (↑(List.length r2.fst) : Int)) && decide ((↑(List.length r2.fst) : Int) ≤ (↑(List.length r2.fst) : Int)) && decide ((↑(List.length r2.fst) : Int) ≤ (↑lim : Int)) then
      l2 law r2.fst law2 first (List.replicate (↑(List.length r2.fst) : Int).toNat 0) first ((↑(List.replicate (↑(List.length r2.fst) : Int).toNat (0 : Int)).length : Int)) 0
    else
      none
def fact_Solve_b2 (nf : Nat) (l4 : List (List Int) → Bool × Bool × List Int × List Int × Int × Unit → Bool × Bool × List Int × List Int × Int × Unit → List Int → Int → Bool → Option (List Int × Int × Unit)) (law : Bool × Bool × List Int × List Int × Int × Unit) (g2 : List (List Int) → Bool × Bool × List Int × List Int × Int × Unit → Int → List Int → Int → Int → Int → Option (List Int × Int × Unit)) (next2 : List (List Int)) (law3 : Bool × Bool × List Int × List Int × Int × Unit) (first2 : Int) (so : List Int) (come : Int) (t49 : Int) (t50 : Int) : Option (List Int × Int × Unit) :=
  bif decide (t50 < t49) then
    bif law3.snd.fst then
      bif inb t50 so.length then
        bif decide (0 ≤ t50) then
          bif IntKind.u32.wrap (↑(BitVec.ofInt IntKind.u32.bits (shrI IntKind.u32 first2 t50) &&& BitVec.ofInt IntKind.u32.bits 1).toNat : Int) == 1 then
            bif inb t50 (so.set t50.toNat 255).length then
              g2 next2 law3 first2 ((so.set t50.toNat 255).set t50.toNat law3.snd.snd.snd.snd.fst) come t49 (IntKind.i64.wrap (t50 + 1))
            else
              none
          else
            g2 next2 law3 first2 (so.set t50.toNat 255) come t49 (IntKind.i64.wrap (t50 + 1))
        else
          none
      else
        none
    else
      bif decide (0 ≤ t50) then
        bif IntKind.u32.wrap (↑(BitVec.ofInt IntKind.u32.bits (shrI IntKind.u32 first2 t50) &&& BitVec.ofInt IntKind.u32.bits 1).toNat : Int) == 1 then
          bif inb t50 so.length then
            g2 next2 law3 first2 (so.set t50.toNat law3.snd.snd.snd.snd.fst) come t49 (IntKind.i64.wrap (t50 + 1))
          else
            none
        else
          g2 next2 law3 first2 so come t49 (IntKind.i64.wrap (t50 + 1))
      else
        none
  else
    l4 next2 law law3 so come true
def fact_Solve_b4 (nf : Nat) (l6 : List (List Int) → Bool × Bool × List Int × List Int × Int × Unit → Bool × Bool × List Int × List Int × Int × Unit → List Int → Int → Bool → Int → Option (List Int × Int × Unit)) (next2 : List (List Int)) (law : Bool × Bool × List Int × List Int × Int × Unit) (g4 : Bool × Bool × List Int × List Int × Int × Unit → List Int → Int → Bool → Option (List Int × Int × Unit)) (law4 : Bool × Bool × List Int × List Int × Int × Unit) (so2 : List Int) (come2 : Int) (more : Bool) : Option (List Int × Int × Unit) :=
  bif more then
    l6 next2 law law4 so2 come2 false 0
  else
    some ((so2, 0, ()))
def fact_Solve_b6 (nf : Nat) (l8 : List (List Int) → Bool × Bool × List Int × List Int × Int × Unit → Int → Bool × Bool × List Int × List Int × Int × Unit → List Int → Int → Bool → Int → Option (List Int × Int × Unit)) (next2 : List (List Int)) (law : Bool × Bool × List Int × List Int × Int × Unit) (g4 : Bool × Bool × List Int × List Int × Int × Unit → List Int → Int → Bool → Option (List Int × Int × Unit)) (g6 : Bool × Bool × List Int × List Int × Int × Unit → List Int → Int → Bool → Int → Option (List Int × Int × Unit)) (law5 : Bool × Bool × List Int × List Int × Int × Unit) (so3 : List Int) (come3 : Int) (more2 : Bool) (t72 : Int) : Option (List Int × Int × Unit) :=
  bif decide (t72 < (↑next2.length : Int)) then
    bif inb t72 next2.length then
      bif decide (0 ≤ t72) then
        bif IntKind.u32.wrap (↑(BitVec.ofInt IntKind.u32.bits (shrI IntKind.u32 come3 t72) &&& BitVec.ofInt IntKind.u32.bits 1).toNat : Int) == 0 then
          g6 law5 so3 come3 more2 (IntKind.i64.wrap (t72 + 1))
        else
          l8 next2 law t72 law5 so3 come3 more2 0
      else
        none
    else
      none
  else
    g4 law5 so3 come3 more2
def fact_Solve_b8 (nf : Nat) (next2 : List (List Int)) (law : Bool × Bool × List Int × List Int × Int × Unit) (t72 : Int) (g6 : Bool × Bool × List Int × List Int × Int × Unit → List Int → Int → Bool → Int → Option (List Int × Int × Unit)) (g4 : Bool × Bool × List Int × List Int × Int × Unit → List Int → Int → Bool → Option (List Int × Int × Unit)) (g8 : Bool × Bool × List Int × List Int × Int × Unit → List Int → Int → Bool → Int → Option (List Int × Int × Unit)) (law6 : Bool × Bool × List Int × List Int × Int × Unit) (so4 : List Int) (come4 : Int) (more3 : Bool) (t84 : Int) : Option (List Int × Int × Unit) :=
  bif decide (t84 < (↑(List.length (next2.getD t72.toNat [])) : Int)) then
    bif inb t84 (List.length (next2.getD t72.toNat [])) then
      bif inb (List.getD (next2.getD t72.toNat []) t84.toNat 0) so4.length then
        bif inb t72 so4.length then
          Option.bind (fact_behind_f nf law6 t72 (so4.getD t72.toNat 0)) fun r3 =>
          bif law6.snd.fst then
            bif inb (List.getD (next2.getD t72.toNat []) t84.toNat 0) so4.length then
              bif inb t72 so4.length then
                Option.bind (fact_behind_f nf law6 t72 (so4.getD t72.toNat 0)) fun r4 =>
                bif inb (List.getD (next2.getD t72.toNat []) t84.toNat 0) so4.length then
                  bif IntKind.u32.wrap (↑(BitVec.ofInt IntKind.u32.bits (so4.getD (Int.toNat (List.getD (next2.getD t72.toNat []) t84.toNat 0)) 0) &&& BitVec.ofInt IntKind.u32.bits r4.fst).toNat : Int) != so4.getD (Int.toNat (List.getD (next2.getD t72.toNat []) t84.toNat 0)) 0 then
                    bif inb (List.getD (next2.getD t72.toNat []) t84.toNat 0) so4.length then
                      bif decide (0 ≤ List.getD (next2.getD t72.toNat []) t84.toNat 0) then
                        g8 law6 (so4.set (Int.toNat (List.getD (next2.getD t72.toNat []) t84.toNat 0)) (IntKind.u32.wrap (↑(BitVec.ofInt IntKind.u32.bits (so4.getD (Int.toNat (List.getD (next2.getD t72.toNat []) t84.toNat 0)) 0) &&& BitVec.ofInt IntKind.u32.bits r4.fst).toNat : Int))) (IntKind.u32.wrap (↑(BitVec.ofInt IntKind.u32.bits come4 ||| BitVec.ofInt IntKind.u32.bits (shlI IntKind.u32 1 (List.getD (next2.getD t72.toNat []) t84.toNat 0))).toNat : Int)) true (IntKind.i64.wrap (t84 + 1))
                      else
                        none
                    else
                      none
                  else
                    bif decide (0 ≤ List.getD (next2.getD t72.toNat []) t84.toNat 0) then
                      bif IntKind.u32.wrap (↑(BitVec.ofInt IntKind.u32.bits (shrI IntKind.u32 come4 (List.getD (next2.getD t72.toNat []) t84.toNat 0)) &&& BitVec.ofInt IntKind.u32.bits 1).toNat : Int) == 0 then
                        bif inb (List.getD (next2.getD t72.toNat []) t84.toNat 0) so4.length then
                          bif decide (0 ≤ List.getD (next2.getD t72.toNat []) t84.toNat 0) then
                            g8 law6 (so4.set (Int.toNat (List.getD (next2.getD t72.toNat []) t84.toNat 0)) (IntKind.u32.wrap (↑(BitVec.ofInt IntKind.u32.bits (so4.getD (Int.toNat (List.getD (next2.getD t72.toNat []) t84.toNat 0)) 0) &&& BitVec.ofInt IntKind.u32.bits r4.fst).toNat : Int))) (IntKind.u32.wrap (↑(BitVec.ofInt IntKind.u32.bits come4 ||| BitVec.ofInt IntKind.u32.bits (shlI IntKind.u32 1 (List.getD (next2.getD t72.toNat []) t84.toNat 0))).toNat : Int)) true (IntKind.i64.wrap (t84 + 1))
                          else
                            none
                        else
                          none
                      else
                        g8 law6 so4 come4 more3 (IntKind.i64.wrap (t84 + 1))
                    else
                      none
                else
                  none
              else
                none
            else
              none
          else
            bif inb (List.getD (next2.getD t72.toNat []) t84.toNat 0) so4.length then
              bif IntKind.u32.wrap (↑(BitVec.ofInt IntKind.u32.bits (so4.getD (Int.toNat (List.getD (next2.getD t72.toNat []) t84.toNat 0)) 0) ||| BitVec.ofInt IntKind.u32.bits r3.fst).toNat : Int) != so4.getD (Int.toNat (List.getD (next2.getD t72.toNat []) t84.toNat 0)) 0 then
                bif inb (List.getD (next2.getD t72.toNat []) t84.toNat 0) so4.length then
                  bif decide (0 ≤ List.getD (next2.getD t72.toNat []) t84.toNat 0) then
                    g8 law6 (so4.set (Int.toNat (List.getD (next2.getD t72.toNat []) t84.toNat 0)) (IntKind.u32.wrap (↑(BitVec.ofInt IntKind.u32.bits (so4.getD (Int.toNat (List.getD (next2.getD t72.toNat []) t84.toNat 0)) 0) ||| BitVec.ofInt IntKind.u32.bits r3.fst).toNat : Int))) (IntKind.u32.wrap (↑(BitVec.ofInt IntKind.u32.bits come4 ||| BitVec.ofInt IntKind.u32.bits (shlI IntKind.u32 1 (List.getD (next2.getD t72.toNat []) t84.toNat 0))).toNat : Int)) true (IntKind.i64.wrap (t84 + 1))
                  else
                    none
                else
                  none
              else
                bif decide (0 ≤ List.getD (next2.getD t72.toNat []) t84.toNat 0) then
                  bif IntKind.u32.wrap (↑(BitVec.ofInt IntKind.u32.bits (shrI IntKind.u32 come4 (List.getD (next2.getD t72.toNat []) t84.toNat 0)) &&& BitVec.ofInt IntKind.u32.bits 1).toNat : Int) == 0 then
                    bif inb (List.getD (next2.getD t72.toNat []) t84.toNat 0) so4.length then
                      bif decide (0 ≤ List.getD (next2.getD t72.toNat []) t84.toNat 0) then
                        g8 law6 (so4.set (Int.toNat (List.getD (next2.getD t72.toNat []) t84.toNat 0)) (IntKind.u32.wrap (↑(BitVec.ofInt IntKind.u32.bits (so4.getD (Int.toNat (List.getD (next2.getD t72.toNat []) t84.toNat 0)) 0) ||| BitVec.ofInt IntKind.u32.bits r3.fst).toNat : Int))) (IntKind.u32.wrap (↑(BitVec.ofInt IntKind.u32.bits come4 ||| BitVec.ofInt IntKind.u32.bits (shlI IntKind.u32 1 (List.getD (next2.getD t72.toNat []) t84.toNat 0))).toNat : Int)) true (IntKind.i64.wrap (t84 + 1))
                      else
                        none
                    else
                      none
                  else
                    g8 law6 so4 come4 more3 (IntKind.i64.wrap (t84 + 1))
                else
                  none
            else
              none
        else
          none
      else
        none
    else
      none
  else
    g6 law6 so4 come4 more3 (IntKind.i64.wrap (t72 + 1))
def fact_Solve_p (nf : Nat) (l0 : List (List Int) → Bool × Bool × List Int × List Int × Int × Unit → Bool × Bool × List Int × List Int × Int × Unit → Int → Int → Option (List Int × Int × Unit)) (l2 : Bool × Bool × List Int × List Int × Int × Unit → List (List Int) → Bool × Bool × List Int × List Int × Int × Unit → Int → List Int → Int → Int → Int → Option (List Int × Int × Unit)) (next : List (List Int)) (law : Bool × Bool × List Int × List Int × Int × Unit) : Option (List Int × Int × Unit) :=
  Option.bind (fact_wrong_f nf next law) fun r =>
  bif r.fst != 0 then
    some (([], r.fst, ()))
  else
    bif law.fst then
      l0 next law law 0 0
    else
      bif decide (0 ≤ (↑next.length : Int)) && decide ((↑next.length : Int) ≤ (↑next.length : Int)) && decide ((↑next.length : Int) ≤ (↑lim : Int)) then
        l2 law next law 1 (List.replicate (↑next.length : Int).toNat 0) 1 ((↑(List.replicate (↑next.length : Int).toNat (0 : Int)).length : Int)) 0
      else
        none
def fact_Solve_l8 (nf : Nat) (next2 : List (List Int)) (law : Bool × Bool × List Int × List Int × Int × Unit) (t72 : Int) (g6 : Bool × Bool × List Int × List Int × Int × Unit → List Int → Int → Bool → Int → Option (List Int × Int × Unit)) (g4 : Bool × Bool × List Int × List Int × Int × Unit → List Int → Int → Bool → Option (List Int × Int × Unit)) : Nat → Bool × Bool × List Int × List Int × Int × Unit → List Int → Int → Bool → Int → Option (List Int × Int × Unit)
  | 0, _, _, _, _, _ => none
  | fu + 1, law6, so4, come4, more3, t84 => fact_Solve_b8 nf  next2 law t72 g6 g4 (fact_Solve_l8 nf next2 law t72 g6 g4 fu) law6 so4 come4 more3 t84
def fact_Solve_l6 (nf : Nat) (next2 : List (List Int)) (law : Bool × Bool × List Int × List Int × Int × Unit) (g4 : Bool × Bool × List Int × List Int × Int × Unit → List Int → Int → Bool → Option (List Int × Int × Unit)) : Nat → Bool × Bool × List Int × List Int × Int × Unit → List Int → Int → Bool → Int → Option (List Int × Int × Unit)
  | 0, _, _, _, _, _ => none
  | fu + 1, law5, so3, come3, more2, t72 => fact_Solve_b6 nf (fun _ _ p2 v0 v1 v2 v3 v4 => fact_Solve_l8 nf next2 law p2 (fun law5 so3 come3 more2 t72 => fact_Solve_l6 nf next2 law g4 fu law5 so3 come3 more2 t72) g4 nf v0 v1 v2 v3 v4) next2 law g4 (fact_Solve_l6 nf next2 law g4 fu) law5 so3 come3 more2 t72
def fact_Solve_l4 (nf : Nat) (next2 : List (List Int)) (law : Bool × Bool × List Int × List Int × Int × Unit) : Nat → Bool × Bool × List Int × List Int × Int × Unit → List Int → Int → Bool → Option (List Int × Int × Unit)
  | 0, _, _, _, _ => none
  | fu + 1, law4, so2, come2, more => fact_Solve_b4 nf (fun _ _ v0 v1 v2 v3 v4 => fact_Solve_l6 nf next2 law (fun law4 so2 come2 more => fact_Solve_l4 nf next2 law  fu law4 so2 come2 more) nf v0 v1 v2 v3 v4) next2 law  (fact_Solve_l4 nf next2 law  fu) law4 so2 come2 more
def fact_Solve_l2 (nf : Nat) (law : Bool × Bool × List Int × List Int × Int × Unit) : Nat → List (List Int) → Bool × Bool × List Int × List Int × Int × Unit → Int → List Int → Int → Int → Int → Option (List Int × Int × Unit)
  | 0, _, _, _, _, _, _, _ => none
  | fu + 1, next2, law3, first2, so, come, t49, t50 => fact_Solve_b2 nf (fun p0 _ v0 v1 v2 v3 => fact_Solve_l4 nf p0 law  nf v0 v1 v2 v3) law  (fact_Solve_l2 nf law  fu) next2 law3 first2 so come t49 t50
def fact_Solve_l0 (nf : Nat) (next : List (List Int)) (law : Bool × Bool × List Int × List Int × Int × Unit) : Nat → Bool × Bool × List Int × List Int × Int × Unit → Int → Int → Option (List Int × Int × Unit)
  | 0, _, _, _ => none
  | fu + 1, law2, first, t29 => fact_Solve_b0 nf (fun _ v0 v1 v2 v3 v4 v5 v6 => fact_Solve_l2 nf law  nf v0 v1 v2 v3 v4 v5 v6) next law  (fact_Solve_l0 nf next law  fu) law2 first t29
def fact_Solve_f (nf : Nat) (next : List (List Int)) (law : Bool × Bool × List Int × List Int × Int × Unit) : Option (List Int × Int × Unit) := fact_Solve_p nf (fun p0 p1 v0 v1 v2 => fact_Solve_l0 nf p0 p1 nf v0 v1 v2) (fun p0 v0 v1 v2 v3 v4 v5 v6 => fact_Solve_l2 nf p0 nf v0 v1 v2 v3 v4 v5 v6) next law
noncomputable def fact_Solve_L0 (nf : Nat) : LC (List Int × Int × Unit) := theL (findL tab (fact_Solve_phi nf) (fun _ F => iter nf F) fact_Solve_keep 0 0 (codeOf Try.f10) (fin tab [((Ty.int IntKind.u32).sl, Md.own false (Md.bor false false)), (Ty.int IntKind.i64, Md.bor false true)] (resL ([]) Try.f10)) (fun _ _ => none) (fin tab [((Ty.int IntKind.u32).sl, Md.own false (Md.bor false false)), (Ty.int IntKind.i64, Md.bor false true)] (resL ([]) Try.f10)))
def fact_Solve_m0 (next : List (List Int)) (law : Bool × Bool × List Int × List Int × Int × Unit) (law2 : Bool × Bool × List Int × List Int × Int × Unit) (first : Int) (t29 : Int) : St := ⟨fresh, [(0, AV.v (Ty.int IntKind.i64).sl.sl (Md.bor false false) next), (1, AV.v (Ty.bool.pair (Ty.bool.pair ((Ty.int IntKind.u32).sl.pair ((Ty.int IntKind.u32).sl.pair ((Ty.int IntKind.u32).pair Ty.unit))))) (Md.bor true false) law), (3, AV.box 3 500003 (Ty.bool.pair (Ty.bool.pair ((Ty.int IntKind.u32).sl.pair ((Ty.int IntKind.u32).sl.pair ((Ty.int IntKind.u32).pair Ty.unit))))) (Md.bor true false) law2), (7, AV.v (Ty.int IntKind.u32) (Md.bor false true) first), (27, AV.v (Ty.int IntKind.i64).sl.sl (Md.bor false false) next), (28, AV.v (Ty.int IntKind.i64) (Md.bor false true) (↑next.length : Int)), (29, AV.v (Ty.int IntKind.i64) (Md.bor false true) t29), (43, AV.dead)]⟩
noncomputable def fact_Solve_L2 (nf : Nat) : LC (List Int × Int × Unit) := theL (findL tab (fact_Solve_phi nf) (fun _ F => iter nf F) fact_Solve_keep 2 0 (codeOf Try.f10) (fin tab [((Ty.int IntKind.u32).sl, Md.own false (Md.bor false false)), (Ty.int IntKind.i64, Md.bor false true)] (resL ([]) Try.f10)) (fun _ _ => none) (fin tab [((Ty.int IntKind.u32).sl, Md.own false (Md.bor false false)), (Ty.int IntKind.i64, Md.bor false true)] (resL ([]) Try.f10)))
def fact_Solve_m2 (law : Bool × Bool × List Int × List Int × Int × Unit) (next2 : List (List Int)) (law3 : Bool × Bool × List Int × List Int × Int × Unit) (first2 : Int) (so : List Int) (come : Int) (t49 : Int) (t50 : Int) : St := ⟨fresh, [(0, AV.v (Ty.int IntKind.i64).sl.sl (Md.bor false false) next2), (1, AV.v (Ty.bool.pair (Ty.bool.pair ((Ty.int IntKind.u32).sl.pair ((Ty.int IntKind.u32).sl.pair ((Ty.int IntKind.u32).pair Ty.unit))))) (Md.bor true false) law), (3, AV.box 3 500003 (Ty.bool.pair (Ty.bool.pair ((Ty.int IntKind.u32).sl.pair ((Ty.int IntKind.u32).sl.pair ((Ty.int IntKind.u32).pair Ty.unit))))) (Md.bor true false) law3), (7, AV.v (Ty.int IntKind.u32) (Md.bor false true) first2), (10, AV.ow 500010 (Ty.int IntKind.u32).sl (Md.own false (Md.bor false false)) so), (11, AV.v (Ty.int IntKind.u32) (Md.bor false true) come), (46, AV.dead), (49, AV.v (Ty.int IntKind.i64) (Md.bor false true) t49), (50, AV.v (Ty.int IntKind.i64) (Md.bor false true) t50)]⟩
noncomputable def fact_Solve_L4 (nf : Nat) : LC (List Int × Int × Unit) := theL (findL tab (fact_Solve_phi nf) (fun _ F => iter nf F) fact_Solve_keep 4 0 (codeOf Try.f10) (fin tab [((Ty.int IntKind.u32).sl, Md.own false (Md.bor false false)), (Ty.int IntKind.i64, Md.bor false true)] (resL ([]) Try.f10)) (fun _ _ => none) (fin tab [((Ty.int IntKind.u32).sl, Md.own false (Md.bor false false)), (Ty.int IntKind.i64, Md.bor false true)] (resL ([]) Try.f10)))
def fact_Solve_m4 (next2 : List (List Int)) (law : Bool × Bool × List Int × List Int × Int × Unit) (law4 : Bool × Bool × List Int × List Int × Int × Unit) (so2 : List Int) (come2 : Int) (more : Bool) : St := ⟨fresh, [(0, AV.v (Ty.int IntKind.i64).sl.sl (Md.bor false false) next2), (1, AV.v (Ty.bool.pair (Ty.bool.pair ((Ty.int IntKind.u32).sl.pair ((Ty.int IntKind.u32).sl.pair ((Ty.int IntKind.u32).pair Ty.unit))))) (Md.bor true false) law), (3, AV.box 3 500003 (Ty.bool.pair (Ty.bool.pair ((Ty.int IntKind.u32).sl.pair ((Ty.int IntKind.u32).sl.pair ((Ty.int IntKind.u32).pair Ty.unit))))) (Md.bor true false) law4), (10, AV.ow 500010 (Ty.int IntKind.u32).sl (Md.own false (Md.bor false false)) so2), (11, AV.v (Ty.int IntKind.u32) (Md.bor false true) come2), (13, AV.v Ty.bool (Md.bor false true) more), (43, AV.dead), (46, AV.dead)]⟩
noncomputable def fact_Solve_L6 (nf : Nat) (G4 : St → Option (List Int × Int × Unit)) : LC (List Int × Int × Unit) := theL (findL tab (fact_Solve_phi nf) (fun _ F => iter nf F) fact_Solve_keep 6 4 (fact_Solve_L4 nf ).c (fun st => norm (fact_Solve_keep 4) st G4) (fact_Solve_L4 nf ).Kx (fact_Solve_L4 nf ).Kr)
def fact_Solve_m6 (next2 : List (List Int)) (law : Bool × Bool × List Int × List Int × Int × Unit) (law5 : Bool × Bool × List Int × List Int × Int × Unit) (so3 : List Int) (come3 : Int) (more2 : Bool) (t72 : Int) : St := ⟨fresh, [(0, AV.v (Ty.int IntKind.i64).sl.sl (Md.bor false false) next2), (1, AV.v (Ty.bool.pair (Ty.bool.pair ((Ty.int IntKind.u32).sl.pair ((Ty.int IntKind.u32).sl.pair ((Ty.int IntKind.u32).pair Ty.unit))))) (Md.bor true false) law), (3, AV.box 3 500003 (Ty.bool.pair (Ty.bool.pair ((Ty.int IntKind.u32).sl.pair ((Ty.int IntKind.u32).sl.pair ((Ty.int IntKind.u32).pair Ty.unit))))) (Md.bor true false) law5), (10, AV.ow 500010 (Ty.int IntKind.u32).sl (Md.own false (Md.bor false false)) so3), (11, AV.v (Ty.int IntKind.u32) (Md.bor false true) come3), (13, AV.v Ty.bool (Md.bor false true) more2), (43, AV.dead), (46, AV.dead), (70, AV.v (Ty.int IntKind.i64).sl.sl (Md.bor false false) next2), (71, AV.v (Ty.int IntKind.i64) (Md.bor false true) (↑next2.length : Int)), (72, AV.v (Ty.int IntKind.i64) (Md.bor false true) t72)]⟩
noncomputable def fact_Solve_L8 (nf : Nat) (G4 : St → Option (List Int × Int × Unit)) (G6 : St → Option (List Int × Int × Unit)) : LC (List Int × Int × Unit) := theL (findL tab (fact_Solve_phi nf) (fun _ F => iter nf F) fact_Solve_keep 8 6 (fact_Solve_L6 nf G4).c (fun st => norm (fact_Solve_keep 6) st G6) (fact_Solve_L6 nf G4).Kx (fact_Solve_L6 nf G4).Kr)
def fact_Solve_m8 (next2 : List (List Int)) (law : Bool × Bool × List Int × List Int × Int × Unit) (t72 : Int) (law6 : Bool × Bool × List Int × List Int × Int × Unit) (so4 : List Int) (come4 : Int) (more3 : Bool) (t84 : Int) : St := ⟨fresh, [(0, AV.v (Ty.int IntKind.i64).sl.sl (Md.bor false false) next2), (1, AV.v (Ty.bool.pair (Ty.bool.pair ((Ty.int IntKind.u32).sl.pair ((Ty.int IntKind.u32).sl.pair ((Ty.int IntKind.u32).pair Ty.unit))))) (Md.bor true false) law), (3, AV.box 3 500003 (Ty.bool.pair (Ty.bool.pair ((Ty.int IntKind.u32).sl.pair ((Ty.int IntKind.u32).sl.pair ((Ty.int IntKind.u32).pair Ty.unit))))) (Md.bor true false) law6), (10, AV.ow 500010 (Ty.int IntKind.u32).sl (Md.own false (Md.bor false false)) so4), (11, AV.v (Ty.int IntKind.u32) (Md.bor false true) come4), (13, AV.v Ty.bool (Md.bor false true) more3), (14, AV.v (Ty.int IntKind.i64) (Md.bor false true) t72), (15, AV.v (Ty.int IntKind.i64).sl (Md.bor false false) (next2.getD t72.toNat [])), (43, AV.dead), (46, AV.dead), (70, AV.v (Ty.int IntKind.i64).sl.sl (Md.bor false false) next2), (71, AV.v (Ty.int IntKind.i64) (Md.bor false true) (↑next2.length : Int)), (72, AV.v (Ty.int IntKind.i64) (Md.bor false true) t72), (75, AV.rop (Ty.int IntKind.i64).sl (Md.bor false false) (next2.getD t72.toNat [])), (76, AV.v (Ty.int IntKind.i64).sl (Md.bor false false) (next2.getD t72.toNat [])), (82, AV.v (Ty.int IntKind.i64).sl (Md.bor false false) (next2.getD t72.toNat [])), (83, AV.v (Ty.int IntKind.i64) (Md.bor false true) (↑(List.length (next2.getD t72.toNat [])) : Int)), (84, AV.v (Ty.int IntKind.i64) (Md.bor false true) t84)]⟩
theorem fact_Solve_h8 (nf : Nat) (G4 : St → Option (List Int × Int × Unit)) (G6 : St → Option (List Int × Int × Unit)) (next2 : List (List Int)) (law : Bool × Bool × List Int × List Int × Int × Unit) (t72 : Int) (fu : Nat) (law6 : Bool × Bool × List Int × List Int × Int × Unit) (so4 : List Int) (come4 : Int) (more3 : Bool) (t84 : Int) : iter (fu + 1) (LC.F tab (fact_Solve_phi nf) (fun _ F => iter nf F) fact_Solve_keep 8 (fact_Solve_L8 nf G4 G6)) (fact_Solve_m8 next2 law t72 law6 so4 come4 more3 t84) = fact_Solve_b8 nf  next2 law t72 (fun law5 so3 come3 more2 t72 => G6 (fact_Solve_m6 next2 law law5 so3 come3 more2 t72)) (fun law4 so2 come2 more => G4 (fact_Solve_m4 next2 law law4 so2 come2 more)) (fun law6 so4 come4 more3 t84 => iter fu (LC.F tab (fact_Solve_phi nf) (fun _ F => iter nf F) fact_Solve_keep 8 (fact_Solve_L8 nf G4 G6)) (fact_Solve_m8 next2 law t72 law6 so4 come4 more3 t84)) law6 so4 come4 more3 t84 := by kernel_rfl
theorem fact_Solve_e8 (nf : Nat) (G4 : St → Option (List Int × Int × Unit)) (G6 : St → Option (List Int × Int × Unit)) (next2 : List (List Int)) (law : Bool × Bool × List Int × List Int × Int × Unit) (t72 : Int) : ∀ (fu : Nat) (law6 : Bool × Bool × List Int × List Int × Int × Unit) (so4 : List Int) (come4 : Int) (more3 : Bool) (t84 : Int), iter fu (LC.F tab (fact_Solve_phi nf) (fun _ F => iter nf F) fact_Solve_keep 8 (fact_Solve_L8 nf G4 G6)) (fact_Solve_m8 next2 law t72 law6 so4 come4 more3 t84) = fact_Solve_l8 nf next2 law t72 (fun law5 so3 come3 more2 t72 => G6 (fact_Solve_m6 next2 law law5 so3 come3 more2 t72)) (fun law4 so2 come2 more => G4 (fact_Solve_m4 next2 law law4 so2 come2 more)) fu law6 so4 come4 more3 t84 := by
  intro fu
  induction fu with
  | zero => intros; rfl
  | succ fu ih =>
    intro law6 so4 come4 more3 t84
    rw [fact_Solve_h8 nf G4 G6 next2 law t72 fu law6 so4 come4 more3 t84]
    simp only [ih]
    rfl
theorem fact_Solve_h6 (nf : Nat) (G4 : St → Option (List Int × Int × Unit)) (next2 : List (List Int)) (law : Bool × Bool × List Int × List Int × Int × Unit) (fu : Nat) (law5 : Bool × Bool × List Int × List Int × Int × Unit) (so3 : List Int) (come3 : Int) (more2 : Bool) (t72 : Int) : iter (fu + 1) (LC.F tab (fact_Solve_phi nf) (fun _ F => iter nf F) fact_Solve_keep 6 (fact_Solve_L6 nf G4)) (fact_Solve_m6 next2 law law5 so3 come3 more2 t72) = fact_Solve_b6 nf (fun _ _ p2 v0 v1 v2 v3 v4 => iter nf (LC.F tab (fact_Solve_phi nf) (fun _ F => iter nf F) fact_Solve_keep 8 (fact_Solve_L8 nf G4 (iter fu (LC.F tab (fact_Solve_phi nf) (fun _ F => iter nf F) fact_Solve_keep 6 (fact_Solve_L6 nf G4))))) (fact_Solve_m8 next2 law p2 v0 v1 v2 v3 v4)) next2 law (fun law4 so2 come2 more => G4 (fact_Solve_m4 next2 law law4 so2 come2 more)) (fun law5 so3 come3 more2 t72 => iter fu (LC.F tab (fact_Solve_phi nf) (fun _ F => iter nf F) fact_Solve_keep 6 (fact_Solve_L6 nf G4)) (fact_Solve_m6 next2 law law5 so3 come3 more2 t72)) law5 so3 come3 more2 t72 := by kernel_rfl
theorem fact_Solve_e6 (nf : Nat) (G4 : St → Option (List Int × Int × Unit)) (next2 : List (List Int)) (law : Bool × Bool × List Int × List Int × Int × Unit) : ∀ (fu : Nat) (law5 : Bool × Bool × List Int × List Int × Int × Unit) (so3 : List Int) (come3 : Int) (more2 : Bool) (t72 : Int), iter fu (LC.F tab (fact_Solve_phi nf) (fun _ F => iter nf F) fact_Solve_keep 6 (fact_Solve_L6 nf G4)) (fact_Solve_m6 next2 law law5 so3 come3 more2 t72) = fact_Solve_l6 nf next2 law (fun law4 so2 come2 more => G4 (fact_Solve_m4 next2 law law4 so2 come2 more)) fu law5 so3 come3 more2 t72 := by
  intro fu
  induction fu with
  | zero => intros; rfl
  | succ fu ih =>
    intro law5 so3 come3 more2 t72
    rw [fact_Solve_h6 nf G4 next2 law fu law5 so3 come3 more2 t72]
    simp only [ih, fact_Solve_e8]
    rfl
theorem fact_Solve_h4 (nf : Nat)  (next2 : List (List Int)) (law : Bool × Bool × List Int × List Int × Int × Unit) (fu : Nat) (law4 : Bool × Bool × List Int × List Int × Int × Unit) (so2 : List Int) (come2 : Int) (more : Bool) : iter (fu + 1) (LC.F tab (fact_Solve_phi nf) (fun _ F => iter nf F) fact_Solve_keep 4 (fact_Solve_L4 nf )) (fact_Solve_m4 next2 law law4 so2 come2 more) = fact_Solve_b4 nf (fun _ _ v0 v1 v2 v3 v4 => iter nf (LC.F tab (fact_Solve_phi nf) (fun _ F => iter nf F) fact_Solve_keep 6 (fact_Solve_L6 nf (iter fu (LC.F tab (fact_Solve_phi nf) (fun _ F => iter nf F) fact_Solve_keep 4 (fact_Solve_L4 nf ))))) (fact_Solve_m6 next2 law v0 v1 v2 v3 v4)) next2 law  (fun law4 so2 come2 more => iter fu (LC.F tab (fact_Solve_phi nf) (fun _ F => iter nf F) fact_Solve_keep 4 (fact_Solve_L4 nf )) (fact_Solve_m4 next2 law law4 so2 come2 more)) law4 so2 come2 more := by kernel_rfl
theorem fact_Solve_e4 (nf : Nat)  (next2 : List (List Int)) (law : Bool × Bool × List Int × List Int × Int × Unit) : ∀ (fu : Nat) (law4 : Bool × Bool × List Int × List Int × Int × Unit) (so2 : List Int) (come2 : Int) (more : Bool), iter fu (LC.F tab (fact_Solve_phi nf) (fun _ F => iter nf F) fact_Solve_keep 4 (fact_Solve_L4 nf )) (fact_Solve_m4 next2 law law4 so2 come2 more) = fact_Solve_l4 nf next2 law  fu law4 so2 come2 more := by
  intro fu
  induction fu with
  | zero => intros; rfl
  | succ fu ih =>
    intro law4 so2 come2 more
    rw [fact_Solve_h4 nf  next2 law fu law4 so2 come2 more]
    simp only [ih, fact_Solve_e6]
    rfl
theorem fact_Solve_h2 (nf : Nat)  (law : Bool × Bool × List Int × List Int × Int × Unit) (fu : Nat) (next2 : List (List Int)) (law3 : Bool × Bool × List Int × List Int × Int × Unit) (first2 : Int) (so : List Int) (come : Int) (t49 : Int) (t50 : Int) : iter (fu + 1) (LC.F tab (fact_Solve_phi nf) (fun _ F => iter nf F) fact_Solve_keep 2 (fact_Solve_L2 nf )) (fact_Solve_m2 law next2 law3 first2 so come t49 t50) = fact_Solve_b2 nf (fun p0 _ v0 v1 v2 v3 => iter nf (LC.F tab (fact_Solve_phi nf) (fun _ F => iter nf F) fact_Solve_keep 4 (fact_Solve_L4 nf )) (fact_Solve_m4 p0 law v0 v1 v2 v3)) law  (fun next2 law3 first2 so come t49 t50 => iter fu (LC.F tab (fact_Solve_phi nf) (fun _ F => iter nf F) fact_Solve_keep 2 (fact_Solve_L2 nf )) (fact_Solve_m2 law next2 law3 first2 so come t49 t50)) next2 law3 first2 so come t49 t50 := by kernel_rfl
theorem fact_Solve_e2 (nf : Nat)  (law : Bool × Bool × List Int × List Int × Int × Unit) : ∀ (fu : Nat) (next2 : List (List Int)) (law3 : Bool × Bool × List Int × List Int × Int × Unit) (first2 : Int) (so : List Int) (come : Int) (t49 : Int) (t50 : Int), iter fu (LC.F tab (fact_Solve_phi nf) (fun _ F => iter nf F) fact_Solve_keep 2 (fact_Solve_L2 nf )) (fact_Solve_m2 law next2 law3 first2 so come t49 t50) = fact_Solve_l2 nf law  fu next2 law3 first2 so come t49 t50 := by
  intro fu
  induction fu with
  | zero => intros; rfl
  | succ fu ih =>
    intro next2 law3 first2 so come t49 t50
    rw [fact_Solve_h2 nf  law fu next2 law3 first2 so come t49 t50]
    simp only [ih, fact_Solve_e4]
    rfl
theorem fact_Solve_h0 (nf : Nat)  (next : List (List Int)) (law : Bool × Bool × List Int × List Int × Int × Unit) (fu : Nat) (law2 : Bool × Bool × List Int × List Int × Int × Unit) (first : Int) (t29 : Int) : iter (fu + 1) (LC.F tab (fact_Solve_phi nf) (fun _ F => iter nf F) fact_Solve_keep 0 (fact_Solve_L0 nf )) (fact_Solve_m0 next law law2 first t29) = fact_Solve_b0 nf (fun _ v0 v1 v2 v3 v4 v5 v6 => iter nf (LC.F tab (fact_Solve_phi nf) (fun _ F => iter nf F) fact_Solve_keep 2 (fact_Solve_L2 nf )) (fact_Solve_m2 law v0 v1 v2 v3 v4 v5 v6)) next law  (fun law2 first t29 => iter fu (LC.F tab (fact_Solve_phi nf) (fun _ F => iter nf F) fact_Solve_keep 0 (fact_Solve_L0 nf )) (fact_Solve_m0 next law law2 first t29)) law2 first t29 := by kernel_rfl
theorem fact_Solve_e0 (nf : Nat)  (next : List (List Int)) (law : Bool × Bool × List Int × List Int × Int × Unit) : ∀ (fu : Nat) (law2 : Bool × Bool × List Int × List Int × Int × Unit) (first : Int) (t29 : Int), iter fu (LC.F tab (fact_Solve_phi nf) (fun _ F => iter nf F) fact_Solve_keep 0 (fact_Solve_L0 nf )) (fact_Solve_m0 next law law2 first t29) = fact_Solve_l0 nf next law  fu law2 first t29 := by
  intro fu
  induction fu with
  | zero => intros; rfl
  | succ fu ih =>
    intro law2 first t29
    rw [fact_Solve_h0 nf  next law fu law2 first t29]
    simp only [ih, fact_Solve_e2]
    rfl
theorem fact_Solve_eq (nf : Nat) (next : List (List Int)) (law : Bool × Bool × List Int × List Int × Int × Unit) : runF tab (fact_Solve_phi nf) fact_Solve_keep nf [PT.val (Ty.int IntKind.i64).sl.sl (Md.bor false false), PT.val (Ty.bool.pair (Ty.bool.pair ((Ty.int IntKind.u32).sl.pair ((Ty.int IntKind.u32).sl.pair ((Ty.int IntKind.u32).pair Ty.unit))))) (Md.bor true false)] [((Ty.int IntKind.u32).sl, Md.own false (Md.bor false false)), (Ty.int IntKind.i64, Md.bor false true)] (resL ([]) Try.f10) (codeOf Try.f10) ⟨next, law, ()⟩ = fact_Solve_f nf next law := by
  have h : runF tab (fact_Solve_phi nf) fact_Solve_keep nf [PT.val (Ty.int IntKind.i64).sl.sl (Md.bor false false), PT.val (Ty.bool.pair (Ty.bool.pair ((Ty.int IntKind.u32).sl.pair ((Ty.int IntKind.u32).sl.pair ((Ty.int IntKind.u32).pair Ty.unit))))) (Md.bor true false)] [((Ty.int IntKind.u32).sl, Md.own false (Md.bor false false)), (Ty.int IntKind.i64, Md.bor false true)] (resL ([]) Try.f10) (codeOf Try.f10) ⟨next, law, ()⟩ = fact_Solve_p nf (fun p0 p1 v0 v1 v2 => iter nf (LC.F tab (fact_Solve_phi nf) (fun _ F => iter nf F) fact_Solve_keep 0 (fact_Solve_L0 nf)) (fact_Solve_m0 p0 p1 v0 v1 v2)) (fun p0 v0 v1 v2 v3 v4 v5 v6 => iter nf (LC.F tab (fact_Solve_phi nf) (fun _ F => iter nf F) fact_Solve_keep 2 (fact_Solve_L2 nf)) (fact_Solve_m2 p0 v0 v1 v2 v3 v4 v5 v6)) next law := by kernel_rfl
  rw [h]
  simp only [fact_Solve_e0, fact_Solve_e2]
  rfl
def fact_Solve_F (nf : Nat) (x : denPs [.val (.sl (.sl (.int .i64))) (.bor false false), .val (.pair (.bool) (.pair (.bool) (.pair (.sl (.int .u32)) (.pair (.sl (.int .u32)) (.pair (.int .u32) (.unit)))))) (.bor true false)]) : Option (denL [(.sl (.int .u32), .own false (.bor false false)), (.int .i64, .bor false true)]) := fact_Solve_f nf x.1 x.2.1
def fact_Solve_C (nf : Nat) : Contract := ⟨[.val (.sl (.sl (.int .i64))) (.bor false false), .val (.pair (.bool) (.pair (.bool) (.pair (.sl (.int .u32)) (.pair (.sl (.int .u32)) (.pair (.int .u32) (.unit)))))) (.bor true false)], [(.sl (.int .u32), .own false (.bor false false)), (.int .i64, .bor false true)], fact_Solve_F nf, []⟩
theorem fact_Solve_ok : FnOK Try.prog 10 := ⟨Try.f10, codeOf Try.f10, Try.func10, by kernel_rfl, by kernel_rfl⟩
theorem fact_Solve_holds (nf : Nat) : Contract.Holds Try.prog 10 (fact_Solve_C nf) :=
  fn_holds (Φ := fact_Solve_phi nf) (keep := fact_Solve_keep) (n := nf) ⟨tabs.1, tabs.2, (ctx_cons fact_wrong_ok (fact_wrong_holds nf) (ctx_cons fact_Turn_ok (fact_Turn_holds nf) (ctx_cons fact_behind_ok (fact_behind_holds nf) ctx_nil))), mixed, bk_ok bkls rfl⟩ (fn := Try.f10) ⟨Try.func10, by kernel_rfl, by kernel_rfl, by kernel_rfl⟩ (fun x => fact_Solve_eq nf x.1 x.2.1)

/-! codemason codemasonref.Inside -/
def ref_Inside_phi (nf : Nat) : Nat → Option Contract := lookC []
def ref_Inside_keep : Nat → List Nat := lookK [(0, [0, 1, 7, 8, 9])]
def ref_Inside_b0 (nf : Nat) (n' : Int) (l' : List Int) (g0 : Int → Option (Bool × Unit)) (t9 : Int) : Option (Bool × Unit) :=
  bif decide (t9 < (↑l'.length : Int)) then
    bif inb t9 l'.length then
      bif decide (l'.getD t9.toNat 0 < 0) then
        some ((false, ()))
      else
        bif decide (l'.getD t9.toNat 0 ≥ n') then
          some ((false, ()))
        else
          g0 (IntKind.i64.wrap (t9 + 1))
    else
      none
  else
    some ((true, ()))
def ref_Inside_p (nf : Nat) (l0 : Int → List Int → Int → Option (Bool × Unit)) (n' : Int) (l' : List Int) : Option (Bool × Unit) :=
  l0 n' l' 0
def ref_Inside_l0 (nf : Nat) (n' : Int) (l' : List Int) : Nat → Int → Option (Bool × Unit)
  | 0, _ => none
  | fu + 1, t9 => ref_Inside_b0 nf  n' l'  (ref_Inside_l0 nf n' l'  fu) t9
def ref_Inside_f (nf : Nat) (n' : Int) (l' : List Int) : Option (Bool × Unit) := ref_Inside_p nf (fun p0 p1 v0 => ref_Inside_l0 nf p0 p1 nf v0) n' l'
noncomputable def ref_Inside_L0 (nf : Nat) : LC (Bool × Unit) := theL (findL tab (ref_Inside_phi nf) (fun _ F => iter nf F) ref_Inside_keep 0 0 (codeOf Try.f15) (fin tab [(Ty.bool, Md.bor false true)] (resL ([]) Try.f15)) (fun _ _ => none) (fin tab [(Ty.bool, Md.bor false true)] (resL ([]) Try.f15)))
def ref_Inside_m0 (n' : Int) (l' : List Int) (t9 : Int) : St := ⟨fresh, [(0, AV.v (Ty.int IntKind.i64) (Md.bor false true) n'), (1, AV.v (Ty.int IntKind.i64).sl (Md.bor true false) l'), (7, AV.v (Ty.int IntKind.i64).sl (Md.bor true false) l'), (8, AV.v (Ty.int IntKind.i64) (Md.bor false true) (↑l'.length : Int)), (9, AV.v (Ty.int IntKind.i64) (Md.bor false true) t9)]⟩
theorem ref_Inside_h0 (nf : Nat)  (n' : Int) (l' : List Int) (fu : Nat) (t9 : Int) : iter (fu + 1) (LC.F tab (ref_Inside_phi nf) (fun _ F => iter nf F) ref_Inside_keep 0 (ref_Inside_L0 nf )) (ref_Inside_m0 n' l' t9) = ref_Inside_b0 nf  n' l'  (fun t9 => iter fu (LC.F tab (ref_Inside_phi nf) (fun _ F => iter nf F) ref_Inside_keep 0 (ref_Inside_L0 nf )) (ref_Inside_m0 n' l' t9)) t9 := by kernel_rfl
theorem ref_Inside_e0 (nf : Nat)  (n' : Int) (l' : List Int) : ∀ (fu : Nat) (t9 : Int), iter fu (LC.F tab (ref_Inside_phi nf) (fun _ F => iter nf F) ref_Inside_keep 0 (ref_Inside_L0 nf )) (ref_Inside_m0 n' l' t9) = ref_Inside_l0 nf n' l'  fu t9 := by
  intro fu
  induction fu with
  | zero => intros; rfl
  | succ fu ih =>
    intro t9
    rw [ref_Inside_h0 nf  n' l' fu t9]
    simp only [ih]
    rfl
theorem ref_Inside_eq (nf : Nat) (n' : Int) (l' : List Int) : runF tab (ref_Inside_phi nf) ref_Inside_keep nf [PT.val (Ty.int IntKind.i64) (Md.bor true false), PT.val (Ty.int IntKind.i64).sl (Md.bor true false)] [(Ty.bool, Md.bor false true)] (resL ([]) Try.f15) (codeOf Try.f15) ⟨n', l', ()⟩ = ref_Inside_f nf n' l' := by
  have h : runF tab (ref_Inside_phi nf) ref_Inside_keep nf [PT.val (Ty.int IntKind.i64) (Md.bor true false), PT.val (Ty.int IntKind.i64).sl (Md.bor true false)] [(Ty.bool, Md.bor false true)] (resL ([]) Try.f15) (codeOf Try.f15) ⟨n', l', ()⟩ = ref_Inside_p nf (fun p0 p1 v0 => iter nf (LC.F tab (ref_Inside_phi nf) (fun _ F => iter nf F) ref_Inside_keep 0 (ref_Inside_L0 nf)) (ref_Inside_m0 p0 p1 v0)) n' l' := by kernel_rfl
  rw [h]
  simp only [ref_Inside_e0]
  rfl
def ref_Inside_F (nf : Nat) (x : denPs [.val (.int .i64) (.bor true false), .val (.sl (.int .i64)) (.bor true false)]) : Option (denL [(.bool, .bor false true)]) := ref_Inside_f nf x.1 x.2.1
def ref_Inside_C (nf : Nat) : Contract := ⟨[.val (.int .i64) (.bor true false), .val (.sl (.int .i64)) (.bor true false)], [(.bool, .bor false true)], ref_Inside_F nf, []⟩
theorem ref_Inside_ok : FnOK Try.prog 15 := ⟨Try.f15, codeOf Try.f15, Try.func15, by kernel_rfl, by kernel_rfl⟩
theorem ref_Inside_holds (nf : Nat) : Contract.Holds Try.prog 15 (ref_Inside_C nf) :=
  fn_holds (Φ := ref_Inside_phi nf) (keep := ref_Inside_keep) (n := nf) ⟨tabs.1, tabs.2, ctx_nil, mixed, bk_ok bkls rfl⟩ (fn := Try.f15) ⟨Try.func15, by kernel_rfl, by kernel_rfl, by kernel_rfl⟩ (fun x => ref_Inside_eq nf x.1 x.2.1)

/-! codemason codemasonref.WayCheck -/
def ref_WayCheck_phi (nf : Nat) : Nat → Option Contract := lookC [(15, ref_Inside_C nf)]
def ref_WayCheck_keep : Nat → List Nat := lookK [(0, [0, 13, 14, 15])]
def ref_WayCheck_b0 (nf : Nat) (next : List (List Int)) (g0 : Int → Option (Int × Unit)) (t15 : Int) : Option (Int × Unit) :=
  bif decide (t15 < (↑next.length : Int)) then
    bif inb t15 next.length then
      bif decide ((↑(List.length (next.getD t15.toNat [])) : Int) > 3) then
        some ((1, ()))
      else
        Option.bind (ref_Inside_f nf ((↑next.length : Int)) (next.getD t15.toNat [])) fun r =>
        bif !r.fst then
          some ((2, ()))
        else
          g0 (IntKind.i64.wrap (t15 + 1))
    else
      none
  else
    some ((0, ()))
def ref_WayCheck_p (nf : Nat) (l0 : List (List Int) → Int → Option (Int × Unit)) (next : List (List Int)) : Option (Int × Unit) :=
  bif decide ((↑next.length : Int) < 1) then
    some ((1, ()))
  else
    bif decide ((↑next.length : Int) > 8) then
      some ((1, ()))
    else
      l0 next 0
def ref_WayCheck_l0 (nf : Nat) (next : List (List Int)) : Nat → Int → Option (Int × Unit)
  | 0, _ => none
  | fu + 1, t15 => ref_WayCheck_b0 nf  next  (ref_WayCheck_l0 nf next  fu) t15
def ref_WayCheck_f (nf : Nat) (next : List (List Int)) : Option (Int × Unit) := ref_WayCheck_p nf (fun p0 v0 => ref_WayCheck_l0 nf p0 nf v0) next
noncomputable def ref_WayCheck_L0 (nf : Nat) : LC (Int × Unit) := theL (findL tab (ref_WayCheck_phi nf) (fun _ F => iter nf F) ref_WayCheck_keep 0 0 (codeOf Try.f34) (fin tab [(Ty.int IntKind.i64, Md.bor false true)] (resL ([]) Try.f34)) (fun _ _ => none) (fin tab [(Ty.int IntKind.i64, Md.bor false true)] (resL ([]) Try.f34)))
def ref_WayCheck_m0 (next : List (List Int)) (t15 : Int) : St := ⟨fresh, [(0, AV.v (Ty.int IntKind.i64).sl.sl (Md.bor true false) next), (13, AV.v (Ty.int IntKind.i64).sl.sl (Md.bor true false) next), (14, AV.v (Ty.int IntKind.i64) (Md.bor false true) (↑next.length : Int)), (15, AV.v (Ty.int IntKind.i64) (Md.bor false true) t15)]⟩
theorem ref_WayCheck_h0 (nf : Nat)  (next : List (List Int)) (fu : Nat) (t15 : Int) : iter (fu + 1) (LC.F tab (ref_WayCheck_phi nf) (fun _ F => iter nf F) ref_WayCheck_keep 0 (ref_WayCheck_L0 nf )) (ref_WayCheck_m0 next t15) = ref_WayCheck_b0 nf  next  (fun t15 => iter fu (LC.F tab (ref_WayCheck_phi nf) (fun _ F => iter nf F) ref_WayCheck_keep 0 (ref_WayCheck_L0 nf )) (ref_WayCheck_m0 next t15)) t15 := by kernel_rfl
theorem ref_WayCheck_e0 (nf : Nat)  (next : List (List Int)) : ∀ (fu : Nat) (t15 : Int), iter fu (LC.F tab (ref_WayCheck_phi nf) (fun _ F => iter nf F) ref_WayCheck_keep 0 (ref_WayCheck_L0 nf )) (ref_WayCheck_m0 next t15) = ref_WayCheck_l0 nf next  fu t15 := by
  intro fu
  induction fu with
  | zero => intros; rfl
  | succ fu ih =>
    intro t15
    rw [ref_WayCheck_h0 nf  next fu t15]
    simp only [ih]
    rfl
theorem ref_WayCheck_eq (nf : Nat) (next : List (List Int)) : runF tab (ref_WayCheck_phi nf) ref_WayCheck_keep nf [PT.val (Ty.int IntKind.i64).sl.sl (Md.bor true false)] [(Ty.int IntKind.i64, Md.bor false true)] (resL ([]) Try.f34) (codeOf Try.f34) ⟨next, ()⟩ = ref_WayCheck_f nf next := by
  have h : runF tab (ref_WayCheck_phi nf) ref_WayCheck_keep nf [PT.val (Ty.int IntKind.i64).sl.sl (Md.bor true false)] [(Ty.int IntKind.i64, Md.bor false true)] (resL ([]) Try.f34) (codeOf Try.f34) ⟨next, ()⟩ = ref_WayCheck_p nf (fun p0 v0 => iter nf (LC.F tab (ref_WayCheck_phi nf) (fun _ F => iter nf F) ref_WayCheck_keep 0 (ref_WayCheck_L0 nf)) (ref_WayCheck_m0 p0 v0)) next := by kernel_rfl
  rw [h]
  simp only [ref_WayCheck_e0]
  rfl
def ref_WayCheck_F (nf : Nat) (x : denPs [.val (.sl (.sl (.int .i64))) (.bor true false)]) : Option (denL [(.int .i64, .bor false true)]) := ref_WayCheck_f nf x.1
def ref_WayCheck_C (nf : Nat) : Contract := ⟨[.val (.sl (.sl (.int .i64))) (.bor true false)], [(.int .i64, .bor false true)], ref_WayCheck_F nf, []⟩
theorem ref_WayCheck_ok : FnOK Try.prog 34 := ⟨Try.f34, codeOf Try.f34, Try.func34, by kernel_rfl, by kernel_rfl⟩
theorem ref_WayCheck_holds (nf : Nat) : Contract.Holds Try.prog 34 (ref_WayCheck_C nf) :=
  fn_holds (Φ := ref_WayCheck_phi nf) (keep := ref_WayCheck_keep) (n := nf) ⟨tabs.1, tabs.2, (ctx_cons ref_Inside_ok (ref_Inside_holds nf) ctx_nil), mixed, bk_ok bkls rfl⟩ (fn := Try.f34) ⟨Try.func34, by kernel_rfl, by kernel_rfl, by kernel_rfl⟩ (fun x => ref_WayCheck_eq nf x.1)

/-! codemason codemasonref.Fits -/
def ref_Fits_phi (nf : Nat) : Nat → Option Contract := lookC []
def ref_Fits_keep : Nat → List Nat := lookK []
def ref_Fits_p (nf : Nat)  (n' : Int) (s : Int) : Option (Bool × Unit) :=
  bif decide (n' ≥ 32) then
    some ((true, ()))
  else
    bif decide (n' ≥ 0) then
      bif decide (0 ≤ IntKind.u64.wrap n') then
        some ((decide (s < shlI IntKind.u32 1 (IntKind.u64.wrap n')), ()))
      else
        none
    else
      some ((false, ()))
def ref_Fits_f (nf : Nat) (n' : Int) (s : Int) : Option (Bool × Unit) := ref_Fits_p nf  n' s
theorem ref_Fits_eq (nf : Nat) (n' : Int) (s : Int) : runF tab (ref_Fits_phi nf) ref_Fits_keep nf [PT.val (Ty.int IntKind.i64) (Md.bor true false), PT.val (Ty.int IntKind.u32) (Md.bor true false)] [(Ty.bool, Md.bor false true)] (resL ([]) Try.f35) (codeOf Try.f35) ⟨n', s, ()⟩ = ref_Fits_f nf n' s := by
  have h : runF tab (ref_Fits_phi nf) ref_Fits_keep nf [PT.val (Ty.int IntKind.i64) (Md.bor true false), PT.val (Ty.int IntKind.u32) (Md.bor true false)] [(Ty.bool, Md.bor false true)] (resL ([]) Try.f35) (codeOf Try.f35) ⟨n', s, ()⟩ = ref_Fits_p nf  n' s := by kernel_rfl
  exact h
def ref_Fits_F (nf : Nat) (x : denPs [.val (.int .i64) (.bor true false), .val (.int .u32) (.bor true false)]) : Option (denL [(.bool, .bor false true)]) := ref_Fits_f nf x.1 x.2.1
def ref_Fits_C (nf : Nat) : Contract := ⟨[.val (.int .i64) (.bor true false), .val (.int .u32) (.bor true false)], [(.bool, .bor false true)], ref_Fits_F nf, []⟩
theorem ref_Fits_ok : FnOK Try.prog 35 := ⟨Try.f35, codeOf Try.f35, Try.func35, by kernel_rfl, by kernel_rfl⟩
theorem ref_Fits_holds (nf : Nat) : Contract.Holds Try.prog 35 (ref_Fits_C nf) :=
  fn_holds (Φ := ref_Fits_phi nf) (keep := ref_Fits_keep) (n := nf) ⟨tabs.1, tabs.2, ctx_nil, mixed, bk_ok bkls rfl⟩ (fn := Try.f35) ⟨Try.func35, by kernel_rfl, by kernel_rfl, by kernel_rfl⟩ (fun x => ref_Fits_eq nf x.1 x.2.1)

/-! codemason codemasonref.LawCheck -/
def ref_LawCheck_phi (nf : Nat) : Nat → Option Contract := lookC [(34, ref_WayCheck_C nf), (35, ref_Fits_C nf)]
def ref_LawCheck_keep : Nat → List Nat := lookK [(0, [0, 1, 3, 6])]
def ref_LawCheck_b0 (nf : Nat) (next : List (List Int)) (law : Bool × Bool × List Int × List Int × Int × Unit) (g0 : Bool × Bool × List Int × List Int × Int × Unit → Int → Option (Int × Unit)) (law2 : Bool × Bool × List Int × List Int × Int × Unit) (i : Int) : Option (Int × Unit) :=
  bif decide (i < (↑next.length : Int)) then
    bif inb i (List.length law2.snd.snd.fst) then
      Option.bind (ref_Fits_f nf 8 (List.getD law2.snd.snd.fst i.toNat 0)) fun r2 =>
      bif !r2.fst then
        some ((4, ()))
      else
        bif inb i (List.length law2.snd.snd.snd.fst) then
          Option.bind (ref_Fits_f nf 8 (List.getD law2.snd.snd.snd.fst i.toNat 0)) fun r3 =>
          bif !r3.fst then
            some ((4, ()))
          else
            g0 law2 (IntKind.i64.wrap (i + 1))
        else
          none
    else
      none
  else
    Option.bind (ref_Fits_f nf 8 law2.snd.snd.snd.snd.fst) fun r4 =>
    bif !r4.fst then
      some ((4, ()))
    else
      some ((0, ()))
def ref_LawCheck_p (nf : Nat) (l0 : List (List Int) → Bool × Bool × List Int × List Int × Int × Unit → Bool × Bool × List Int × List Int × Int × Unit → Int → Option (Int × Unit)) (next : List (List Int)) (law : Bool × Bool × List Int × List Int × Int × Unit) : Option (Int × Unit) :=
  Option.bind (ref_WayCheck_f nf next) fun r =>
  bif r.fst != 0 then
    some ((r.fst, ()))
  else
    bif (↑(List.length law.snd.snd.fst) : Int) != (↑next.length : Int) then
      some ((3, ()))
    else
      bif (↑(List.length law.snd.snd.snd.fst) : Int) != (↑next.length : Int) then
        some ((3, ()))
      else
        l0 next law law 0
def ref_LawCheck_l0 (nf : Nat) (next : List (List Int)) (law : Bool × Bool × List Int × List Int × Int × Unit) : Nat → Bool × Bool × List Int × List Int × Int × Unit → Int → Option (Int × Unit)
  | 0, _, _ => none
  | fu + 1, law2, i => ref_LawCheck_b0 nf  next law  (ref_LawCheck_l0 nf next law  fu) law2 i
def ref_LawCheck_f (nf : Nat) (next : List (List Int)) (law : Bool × Bool × List Int × List Int × Int × Unit) : Option (Int × Unit) := ref_LawCheck_p nf (fun p0 p1 v0 v1 => ref_LawCheck_l0 nf p0 p1 nf v0 v1) next law
noncomputable def ref_LawCheck_L0 (nf : Nat) : LC (Int × Unit) := theL (findL tab (ref_LawCheck_phi nf) (fun _ F => iter nf F) ref_LawCheck_keep 0 0 (codeOf Try.f11) (fin tab [(Ty.int IntKind.i64, Md.bor false true)] (resL ([]) Try.f11)) (fun _ _ => none) (fin tab [(Ty.int IntKind.i64, Md.bor false true)] (resL ([]) Try.f11)))
def ref_LawCheck_m0 (next : List (List Int)) (law : Bool × Bool × List Int × List Int × Int × Unit) (law2 : Bool × Bool × List Int × List Int × Int × Unit) (i : Int) : St := ⟨fresh, [(0, AV.v (Ty.int IntKind.i64).sl.sl (Md.bor true false) next), (1, AV.v (Ty.bool.pair (Ty.bool.pair ((Ty.int IntKind.u32).sl.pair ((Ty.int IntKind.u32).sl.pair ((Ty.int IntKind.u32).pair Ty.unit))))) (Md.bor true false) law), (3, AV.box 3 500003 (Ty.bool.pair (Ty.bool.pair ((Ty.int IntKind.u32).sl.pair ((Ty.int IntKind.u32).sl.pair ((Ty.int IntKind.u32).pair Ty.unit))))) (Md.bor true false) law2), (6, AV.v (Ty.int IntKind.i64) (Md.bor false true) i)]⟩
theorem ref_LawCheck_h0 (nf : Nat)  (next : List (List Int)) (law : Bool × Bool × List Int × List Int × Int × Unit) (fu : Nat) (law2 : Bool × Bool × List Int × List Int × Int × Unit) (i : Int) : iter (fu + 1) (LC.F tab (ref_LawCheck_phi nf) (fun _ F => iter nf F) ref_LawCheck_keep 0 (ref_LawCheck_L0 nf )) (ref_LawCheck_m0 next law law2 i) = ref_LawCheck_b0 nf  next law  (fun law2 i => iter fu (LC.F tab (ref_LawCheck_phi nf) (fun _ F => iter nf F) ref_LawCheck_keep 0 (ref_LawCheck_L0 nf )) (ref_LawCheck_m0 next law law2 i)) law2 i := by kernel_rfl
theorem ref_LawCheck_e0 (nf : Nat)  (next : List (List Int)) (law : Bool × Bool × List Int × List Int × Int × Unit) : ∀ (fu : Nat) (law2 : Bool × Bool × List Int × List Int × Int × Unit) (i : Int), iter fu (LC.F tab (ref_LawCheck_phi nf) (fun _ F => iter nf F) ref_LawCheck_keep 0 (ref_LawCheck_L0 nf )) (ref_LawCheck_m0 next law law2 i) = ref_LawCheck_l0 nf next law  fu law2 i := by
  intro fu
  induction fu with
  | zero => intros; rfl
  | succ fu ih =>
    intro law2 i
    rw [ref_LawCheck_h0 nf  next law fu law2 i]
    simp only [ih]
    rfl
theorem ref_LawCheck_eq (nf : Nat) (next : List (List Int)) (law : Bool × Bool × List Int × List Int × Int × Unit) : runF tab (ref_LawCheck_phi nf) ref_LawCheck_keep nf [PT.val (Ty.int IntKind.i64).sl.sl (Md.bor true false), PT.val (Ty.bool.pair (Ty.bool.pair ((Ty.int IntKind.u32).sl.pair ((Ty.int IntKind.u32).sl.pair ((Ty.int IntKind.u32).pair Ty.unit))))) (Md.bor true false)] [(Ty.int IntKind.i64, Md.bor false true)] (resL ([]) Try.f11) (codeOf Try.f11) ⟨next, law, ()⟩ = ref_LawCheck_f nf next law := by
  have h : runF tab (ref_LawCheck_phi nf) ref_LawCheck_keep nf [PT.val (Ty.int IntKind.i64).sl.sl (Md.bor true false), PT.val (Ty.bool.pair (Ty.bool.pair ((Ty.int IntKind.u32).sl.pair ((Ty.int IntKind.u32).sl.pair ((Ty.int IntKind.u32).pair Ty.unit))))) (Md.bor true false)] [(Ty.int IntKind.i64, Md.bor false true)] (resL ([]) Try.f11) (codeOf Try.f11) ⟨next, law, ()⟩ = ref_LawCheck_p nf (fun p0 p1 v0 v1 => iter nf (LC.F tab (ref_LawCheck_phi nf) (fun _ F => iter nf F) ref_LawCheck_keep 0 (ref_LawCheck_L0 nf)) (ref_LawCheck_m0 p0 p1 v0 v1)) next law := by kernel_rfl
  rw [h]
  simp only [ref_LawCheck_e0]
  rfl
def ref_LawCheck_F (nf : Nat) (x : denPs [.val (.sl (.sl (.int .i64))) (.bor true false), .val (.pair (.bool) (.pair (.bool) (.pair (.sl (.int .u32)) (.pair (.sl (.int .u32)) (.pair (.int .u32) (.unit)))))) (.bor true false)]) : Option (denL [(.int .i64, .bor false true)]) := ref_LawCheck_f nf x.1 x.2.1
def ref_LawCheck_C (nf : Nat) : Contract := ⟨[.val (.sl (.sl (.int .i64))) (.bor true false), .val (.pair (.bool) (.pair (.bool) (.pair (.sl (.int .u32)) (.pair (.sl (.int .u32)) (.pair (.int .u32) (.unit)))))) (.bor true false)], [(.int .i64, .bor false true)], ref_LawCheck_F nf, []⟩
theorem ref_LawCheck_ok : FnOK Try.prog 11 := ⟨Try.f11, codeOf Try.f11, Try.func11, by kernel_rfl, by kernel_rfl⟩
theorem ref_LawCheck_holds (nf : Nat) : Contract.Holds Try.prog 11 (ref_LawCheck_C nf) :=
  fn_holds (Φ := ref_LawCheck_phi nf) (keep := ref_LawCheck_keep) (n := nf) ⟨tabs.1, tabs.2, (ctx_cons ref_WayCheck_ok (ref_WayCheck_holds nf) (ctx_cons ref_Fits_ok (ref_Fits_holds nf) ctx_nil)), mixed, bk_ok bkls rfl⟩ (fn := Try.f11) ⟨Try.func11, by kernel_rfl, by kernel_rfl, by kernel_rfl⟩ (fun x => ref_LawCheck_eq nf x.1 x.2.1)

/-! codemason codemasonref.Words -/
def ref_Words_phi (nf : Nat) : Nat → Option Contract := lookC []
def ref_Words_keep : Nat → List Nat := lookK [(0, [0, 1, 5])]
def ref_Words_b0 (nf : Nat) (a : List Int) (b : List Int) (g0 : Int → Option (Bool × Unit)) (i : Int) : Option (Bool × Unit) :=
  bif decide (i < (↑a.length : Int)) then
    bif inb i a.length then
      bif inb i b.length then
        bif a.getD i.toNat 0 != b.getD i.toNat 0 then
          some ((false, ()))
        else
          g0 (IntKind.i64.wrap (i + 1))
      else
        none
    else
      none
  else
    some ((true, ()))
def ref_Words_p (nf : Nat) (l0 : List Int → List Int → Int → Option (Bool × Unit)) (a : List Int) (b : List Int) : Option (Bool × Unit) :=
  bif (↑a.length : Int) != (↑b.length : Int) then
    some ((false, ()))
  else
    l0 a b 0
def ref_Words_l0 (nf : Nat) (a : List Int) (b : List Int) : Nat → Int → Option (Bool × Unit)
  | 0, _ => none
  | fu + 1, i => ref_Words_b0 nf  a b  (ref_Words_l0 nf a b  fu) i
def ref_Words_f (nf : Nat) (a : List Int) (b : List Int) : Option (Bool × Unit) := ref_Words_p nf (fun p0 p1 v0 => ref_Words_l0 nf p0 p1 nf v0) a b
noncomputable def ref_Words_L0 (nf : Nat) : LC (Bool × Unit) := theL (findL tab (ref_Words_phi nf) (fun _ F => iter nf F) ref_Words_keep 0 0 (codeOf Try.f12) (fin tab [(Ty.bool, Md.bor false true)] (resL ([]) Try.f12)) (fun _ _ => none) (fin tab [(Ty.bool, Md.bor false true)] (resL ([]) Try.f12)))
def ref_Words_m0 (a : List Int) (b : List Int) (i : Int) : St := ⟨fresh, [(0, AV.v (Ty.int IntKind.u32).sl (Md.bor true false) a), (1, AV.v (Ty.int IntKind.u32).sl (Md.bor true false) b), (5, AV.v (Ty.int IntKind.i64) (Md.bor false true) i)]⟩
theorem ref_Words_h0 (nf : Nat)  (a : List Int) (b : List Int) (fu : Nat) (i : Int) : iter (fu + 1) (LC.F tab (ref_Words_phi nf) (fun _ F => iter nf F) ref_Words_keep 0 (ref_Words_L0 nf )) (ref_Words_m0 a b i) = ref_Words_b0 nf  a b  (fun i => iter fu (LC.F tab (ref_Words_phi nf) (fun _ F => iter nf F) ref_Words_keep 0 (ref_Words_L0 nf )) (ref_Words_m0 a b i)) i := by kernel_rfl
theorem ref_Words_e0 (nf : Nat)  (a : List Int) (b : List Int) : ∀ (fu : Nat) (i : Int), iter fu (LC.F tab (ref_Words_phi nf) (fun _ F => iter nf F) ref_Words_keep 0 (ref_Words_L0 nf )) (ref_Words_m0 a b i) = ref_Words_l0 nf a b  fu i := by
  intro fu
  induction fu with
  | zero => intros; rfl
  | succ fu ih =>
    intro i
    rw [ref_Words_h0 nf  a b fu i]
    simp only [ih]
    rfl
theorem ref_Words_eq (nf : Nat) (a : List Int) (b : List Int) : runF tab (ref_Words_phi nf) ref_Words_keep nf [PT.val (Ty.int IntKind.u32).sl (Md.bor true false), PT.val (Ty.int IntKind.u32).sl (Md.bor true false)] [(Ty.bool, Md.bor false true)] (resL ([]) Try.f12) (codeOf Try.f12) ⟨a, b, ()⟩ = ref_Words_f nf a b := by
  have h : runF tab (ref_Words_phi nf) ref_Words_keep nf [PT.val (Ty.int IntKind.u32).sl (Md.bor true false), PT.val (Ty.int IntKind.u32).sl (Md.bor true false)] [(Ty.bool, Md.bor false true)] (resL ([]) Try.f12) (codeOf Try.f12) ⟨a, b, ()⟩ = ref_Words_p nf (fun p0 p1 v0 => iter nf (LC.F tab (ref_Words_phi nf) (fun _ F => iter nf F) ref_Words_keep 0 (ref_Words_L0 nf)) (ref_Words_m0 p0 p1 v0)) a b := by kernel_rfl
  rw [h]
  simp only [ref_Words_e0]
  rfl
def ref_Words_F (nf : Nat) (x : denPs [.val (.sl (.int .u32)) (.bor true false), .val (.sl (.int .u32)) (.bor true false)]) : Option (denL [(.bool, .bor false true)]) := ref_Words_f nf x.1 x.2.1
def ref_Words_C (nf : Nat) : Contract := ⟨[.val (.sl (.int .u32)) (.bor true false), .val (.sl (.int .u32)) (.bor true false)], [(.bool, .bor false true)], ref_Words_F nf, []⟩
theorem ref_Words_ok : FnOK Try.prog 12 := ⟨Try.f12, codeOf Try.f12, Try.func12, by kernel_rfl, by kernel_rfl⟩
theorem ref_Words_holds (nf : Nat) : Contract.Holds Try.prog 12 (ref_Words_C nf) :=
  fn_holds (Φ := ref_Words_phi nf) (keep := ref_Words_keep) (n := nf) ⟨tabs.1, tabs.2, ctx_nil, mixed, bk_ok bkls rfl⟩ (fn := Try.f12) ⟨Try.func12, by kernel_rfl, by kernel_rfl, by kernel_rfl⟩ (fun x => ref_Words_eq nf x.1 x.2.1)

/-! codemason codemasonref.Has -/
def ref_Has_phi (nf : Nat) : Nat → Option Contract := lookC []
def ref_Has_keep : Nat → List Nat := lookK [(0, [0, 1, 7, 8, 9])]
def ref_Has_b0 (nf : Nat) (l' : List Int) (x : Int) (g0 : Int → Option (Bool × Unit)) (t9 : Int) : Option (Bool × Unit) :=
  bif decide (t9 < (↑l'.length : Int)) then
    bif inb t9 l'.length then
      bif x == l'.getD t9.toNat 0 then
        some ((true, ()))
      else
        g0 (IntKind.i64.wrap (t9 + 1))
    else
      none
  else
    some ((false, ()))
def ref_Has_p (nf : Nat) (l0 : List Int → Int → Int → Option (Bool × Unit)) (l' : List Int) (x : Int) : Option (Bool × Unit) :=
  l0 l' x 0
def ref_Has_l0 (nf : Nat) (l' : List Int) (x : Int) : Nat → Int → Option (Bool × Unit)
  | 0, _ => none
  | fu + 1, t9 => ref_Has_b0 nf  l' x  (ref_Has_l0 nf l' x  fu) t9
def ref_Has_f (nf : Nat) (l' : List Int) (x : Int) : Option (Bool × Unit) := ref_Has_p nf (fun p0 p1 v0 => ref_Has_l0 nf p0 p1 nf v0) l' x
noncomputable def ref_Has_L0 (nf : Nat) : LC (Bool × Unit) := theL (findL tab (ref_Has_phi nf) (fun _ F => iter nf F) ref_Has_keep 0 0 (codeOf Try.f16) (fin tab [(Ty.bool, Md.bor false true)] (resL ([]) Try.f16)) (fun _ _ => none) (fin tab [(Ty.bool, Md.bor false true)] (resL ([]) Try.f16)))
def ref_Has_m0 (l' : List Int) (x : Int) (t9 : Int) : St := ⟨fresh, [(0, AV.v (Ty.int IntKind.i64).sl (Md.bor true false) l'), (1, AV.v (Ty.int IntKind.i64) (Md.bor false true) x), (7, AV.v (Ty.int IntKind.i64).sl (Md.bor true false) l'), (8, AV.v (Ty.int IntKind.i64) (Md.bor false true) (↑l'.length : Int)), (9, AV.v (Ty.int IntKind.i64) (Md.bor false true) t9)]⟩
theorem ref_Has_h0 (nf : Nat)  (l' : List Int) (x : Int) (fu : Nat) (t9 : Int) : iter (fu + 1) (LC.F tab (ref_Has_phi nf) (fun _ F => iter nf F) ref_Has_keep 0 (ref_Has_L0 nf )) (ref_Has_m0 l' x t9) = ref_Has_b0 nf  l' x  (fun t9 => iter fu (LC.F tab (ref_Has_phi nf) (fun _ F => iter nf F) ref_Has_keep 0 (ref_Has_L0 nf )) (ref_Has_m0 l' x t9)) t9 := by kernel_rfl
theorem ref_Has_e0 (nf : Nat)  (l' : List Int) (x : Int) : ∀ (fu : Nat) (t9 : Int), iter fu (LC.F tab (ref_Has_phi nf) (fun _ F => iter nf F) ref_Has_keep 0 (ref_Has_L0 nf )) (ref_Has_m0 l' x t9) = ref_Has_l0 nf l' x  fu t9 := by
  intro fu
  induction fu with
  | zero => intros; rfl
  | succ fu ih =>
    intro t9
    rw [ref_Has_h0 nf  l' x fu t9]
    simp only [ih]
    rfl
theorem ref_Has_eq (nf : Nat) (l' : List Int) (x : Int) : runF tab (ref_Has_phi nf) ref_Has_keep nf [PT.val (Ty.int IntKind.i64).sl (Md.bor true false), PT.val (Ty.int IntKind.i64) (Md.bor true false)] [(Ty.bool, Md.bor false true)] (resL ([]) Try.f16) (codeOf Try.f16) ⟨l', x, ()⟩ = ref_Has_f nf l' x := by
  have h : runF tab (ref_Has_phi nf) ref_Has_keep nf [PT.val (Ty.int IntKind.i64).sl (Md.bor true false), PT.val (Ty.int IntKind.i64) (Md.bor true false)] [(Ty.bool, Md.bor false true)] (resL ([]) Try.f16) (codeOf Try.f16) ⟨l', x, ()⟩ = ref_Has_p nf (fun p0 p1 v0 => iter nf (LC.F tab (ref_Has_phi nf) (fun _ F => iter nf F) ref_Has_keep 0 (ref_Has_L0 nf)) (ref_Has_m0 p0 p1 v0)) l' x := by kernel_rfl
  rw [h]
  simp only [ref_Has_e0]
  rfl
def ref_Has_F (nf : Nat) (x : denPs [.val (.sl (.int .i64)) (.bor true false), .val (.int .i64) (.bor true false)]) : Option (denL [(.bool, .bor false true)]) := ref_Has_f nf x.1 x.2.1
def ref_Has_C (nf : Nat) : Contract := ⟨[.val (.sl (.int .i64)) (.bor true false), .val (.int .i64) (.bor true false)], [(.bool, .bor false true)], ref_Has_F nf, []⟩
theorem ref_Has_ok : FnOK Try.prog 16 := ⟨Try.f16, codeOf Try.f16, Try.func16, by kernel_rfl, by kernel_rfl⟩
theorem ref_Has_holds (nf : Nat) : Contract.Holds Try.prog 16 (ref_Has_C nf) :=
  fn_holds (Φ := ref_Has_phi nf) (keep := ref_Has_keep) (n := nf) ⟨tabs.1, tabs.2, ctx_nil, mixed, bk_ok bkls rfl⟩ (fn := Try.f16) ⟨Try.func16, by kernel_rfl, by kernel_rfl, by kernel_rfl⟩ (fun x => ref_Has_eq nf x.1 x.2.1)

/-! codemason codemasonref.Turned -/
def ref_Turned_tab : Tab := ⟨lookT tyL, lookM ([(22, .own false (.own true (.bor false true)))] ++ mdL), hasT [77, 132], hasT [9, 10, 11], fun _ => none, lookB bkl⟩
theorem ref_Turned_tabs : TabOK Try.prog ref_Turned_tab ∧ EqOK Try.prog ref_Turned_tab := tab_ok (by kernel_rfl) (by kernel_rfl)
def ref_Turned_phi (nf : Nat) : Nat → Option Contract := lookC [(16, ref_Has_C nf)]
def ref_Turned_keep : Nat → List Nat := lookK [(2, [0, 3, 4, 5, 8]), (0, [0, 3, 4, 8])]
def ref_Turned_b0 (nf : Nat) (l2 : List (List Int) → Int → List (List Int) → Int → Option (List (List Int) × Unit)) (next : List (List Int)) (g0 : List (List Int) → Int → Option (List (List Int) × Unit)) (out : List (List Int)) (j : Int) : Option (List (List Int) × Unit) :=
  bif decide (j < (↑next.length : Int)) then
    l2 next j out 0
  else
    some ((out, ()))
def ref_Turned_b2 (nf : Nat) (next : List (List Int)) (j : Int) (g0 : List (List Int) → Int → Option (List (List Int) × Unit)) (g2 : List (List Int) → Int → Option (List (List Int) × Unit)) (out2 : List (List Int)) (i : Int) : Option (List (List Int) × Unit) :=
  bif decide (i < (↑next.length : Int)) then
    bif inb i next.length then
      Option.bind (ref_Has_f nf (next.getD i.toNat []) j) fun r =>
      bif r.fst then
        bif inb j out2.length then
          bif ![i].isEmpty && (List.length (out2.getD j.toNat []) + [i].length).ble lim then
            bif inb j out2.length then
              bif decide ([Stp.el j.toNat] = [] ++ [Stp.el j.toNat]) then
                g2 (out2.set j.toNat (out2.getD j.toNat [] ++ [i])) (IntKind.i64.wrap (i + 1))
              else
                none
            else
              none
          else
            none
        else
          none
      else
        g2 out2 (IntKind.i64.wrap (i + 1))
    else
      none
  else
    g0 out2 (IntKind.i64.wrap (j + 1))
def ref_Turned_p (nf : Nat) (l0 : List (List Int) → List (List Int) → Int → Option (List (List Int) × Unit)) (next : List (List Int)) : Option (List (List Int) × Unit) :=
  bif decide (0 ≤ (↑next.length : Int)) && decide ((↑next.length : Int) ≤ (↑next.length : Int)) && decide ((↑next.length : Int) ≤ (↑lim : Int)) then
    l0 next (List.replicate (↑next.length : Int).toNat []) 0
  else
    none
def ref_Turned_l2 (nf : Nat) (next : List (List Int)) (j : Int) (g0 : List (List Int) → Int → Option (List (List Int) × Unit)) : Nat → List (List Int) → Int → Option (List (List Int) × Unit)
  | 0, _, _ => none
  | fu + 1, out2, i => ref_Turned_b2 nf  next j g0 (ref_Turned_l2 nf next j g0 fu) out2 i
def ref_Turned_l0 (nf : Nat) (next : List (List Int)) : Nat → List (List Int) → Int → Option (List (List Int) × Unit)
  | 0, _, _ => none
  | fu + 1, out, j => ref_Turned_b0 nf (fun _ p1 v0 v1 => ref_Turned_l2 nf next p1 (fun out j => ref_Turned_l0 nf next  fu out j) nf v0 v1) next  (ref_Turned_l0 nf next  fu) out j
def ref_Turned_f (nf : Nat) (next : List (List Int)) : Option (List (List Int) × Unit) := ref_Turned_p nf (fun p0 v0 v1 => ref_Turned_l0 nf p0 nf v0 v1) next
noncomputable def ref_Turned_L0 (nf : Nat) : LC (List (List Int) × Unit) := theL (findL ref_Turned_tab (ref_Turned_phi nf) (fun _ F => iter nf F) ref_Turned_keep 0 0 (codeOf Try.f36) (fin ref_Turned_tab [((Ty.int IntKind.i64).sl.sl, Md.bor false false)] (resL ([]) Try.f36)) (fun _ _ => none) (fin ref_Turned_tab [((Ty.int IntKind.i64).sl.sl, Md.bor false false)] (resL ([]) Try.f36)))
def ref_Turned_m0 (next : List (List Int)) (out : List (List Int)) (j : Int) : St := ⟨fresh, [(0, AV.v (Ty.int IntKind.i64).sl.sl (Md.bor true false) next), (3, AV.ow 500003 (Ty.int IntKind.i64).sl.sl (Md.own false (Md.own true (Md.bor false true))) out), (4, AV.v (Ty.int IntKind.i64) (Md.bor false true) j), (8, AV.dead)]⟩
noncomputable def ref_Turned_L2 (nf : Nat) (G0 : St → Option (List (List Int) × Unit)) : LC (List (List Int) × Unit) := theL (findL ref_Turned_tab (ref_Turned_phi nf) (fun _ F => iter nf F) ref_Turned_keep 2 0 (ref_Turned_L0 nf ).c (fun st => norm (ref_Turned_keep 0) st G0) (ref_Turned_L0 nf ).Kx (ref_Turned_L0 nf ).Kr)
def ref_Turned_m2 (next : List (List Int)) (j : Int) (out2 : List (List Int)) (i : Int) : St := ⟨fresh, [(0, AV.v (Ty.int IntKind.i64).sl.sl (Md.bor true false) next), (3, AV.ow 500003 (Ty.int IntKind.i64).sl.sl (Md.own false (Md.own true (Md.bor false true))) out2), (4, AV.v (Ty.int IntKind.i64) (Md.bor false true) j), (5, AV.v (Ty.int IntKind.i64) (Md.bor false true) i), (8, AV.dead)]⟩
theorem ref_Turned_h2 (nf : Nat) (G0 : St → Option (List (List Int) × Unit)) (next : List (List Int)) (j : Int) (fu : Nat) (out2 : List (List Int)) (i : Int) : iter (fu + 1) (LC.F ref_Turned_tab (ref_Turned_phi nf) (fun _ F => iter nf F) ref_Turned_keep 2 (ref_Turned_L2 nf G0)) (ref_Turned_m2 next j out2 i) = ref_Turned_b2 nf  next j (fun out j => G0 (ref_Turned_m0 next out j)) (fun out2 i => iter fu (LC.F ref_Turned_tab (ref_Turned_phi nf) (fun _ F => iter nf F) ref_Turned_keep 2 (ref_Turned_L2 nf G0)) (ref_Turned_m2 next j out2 i)) out2 i := by kernel_rfl
theorem ref_Turned_e2 (nf : Nat) (G0 : St → Option (List (List Int) × Unit)) (next : List (List Int)) (j : Int) : ∀ (fu : Nat) (out2 : List (List Int)) (i : Int), iter fu (LC.F ref_Turned_tab (ref_Turned_phi nf) (fun _ F => iter nf F) ref_Turned_keep 2 (ref_Turned_L2 nf G0)) (ref_Turned_m2 next j out2 i) = ref_Turned_l2 nf next j (fun out j => G0 (ref_Turned_m0 next out j)) fu out2 i := by
  intro fu
  induction fu with
  | zero => intros; rfl
  | succ fu ih =>
    intro out2 i
    rw [ref_Turned_h2 nf G0 next j fu out2 i]
    simp only [ih]
    rfl
theorem ref_Turned_h0 (nf : Nat)  (next : List (List Int)) (fu : Nat) (out : List (List Int)) (j : Int) : iter (fu + 1) (LC.F ref_Turned_tab (ref_Turned_phi nf) (fun _ F => iter nf F) ref_Turned_keep 0 (ref_Turned_L0 nf )) (ref_Turned_m0 next out j) = ref_Turned_b0 nf (fun _ p1 v0 v1 => iter nf (LC.F ref_Turned_tab (ref_Turned_phi nf) (fun _ F => iter nf F) ref_Turned_keep 2 (ref_Turned_L2 nf (iter fu (LC.F ref_Turned_tab (ref_Turned_phi nf) (fun _ F => iter nf F) ref_Turned_keep 0 (ref_Turned_L0 nf ))))) (ref_Turned_m2 next p1 v0 v1)) next  (fun out j => iter fu (LC.F ref_Turned_tab (ref_Turned_phi nf) (fun _ F => iter nf F) ref_Turned_keep 0 (ref_Turned_L0 nf )) (ref_Turned_m0 next out j)) out j := by kernel_rfl
theorem ref_Turned_e0 (nf : Nat)  (next : List (List Int)) : ∀ (fu : Nat) (out : List (List Int)) (j : Int), iter fu (LC.F ref_Turned_tab (ref_Turned_phi nf) (fun _ F => iter nf F) ref_Turned_keep 0 (ref_Turned_L0 nf )) (ref_Turned_m0 next out j) = ref_Turned_l0 nf next  fu out j := by
  intro fu
  induction fu with
  | zero => intros; rfl
  | succ fu ih =>
    intro out j
    rw [ref_Turned_h0 nf  next fu out j]
    simp only [ih, ref_Turned_e2]
    rfl
theorem ref_Turned_eq (nf : Nat) (next : List (List Int)) : runF ref_Turned_tab (ref_Turned_phi nf) ref_Turned_keep nf [PT.val (Ty.int IntKind.i64).sl.sl (Md.bor true false)] [((Ty.int IntKind.i64).sl.sl, Md.bor false false)] (resL ([]) Try.f36) (codeOf Try.f36) ⟨next, ()⟩ = ref_Turned_f nf next := by
  have h : runF ref_Turned_tab (ref_Turned_phi nf) ref_Turned_keep nf [PT.val (Ty.int IntKind.i64).sl.sl (Md.bor true false)] [((Ty.int IntKind.i64).sl.sl, Md.bor false false)] (resL ([]) Try.f36) (codeOf Try.f36) ⟨next, ()⟩ = ref_Turned_p nf (fun p0 v0 v1 => iter nf (LC.F ref_Turned_tab (ref_Turned_phi nf) (fun _ F => iter nf F) ref_Turned_keep 0 (ref_Turned_L0 nf)) (ref_Turned_m0 p0 v0 v1)) next := by kernel_rfl
  rw [h]
  simp only [ref_Turned_e0]
  rfl
def ref_Turned_F (nf : Nat) (x : denPs [.val (.sl (.sl (.int .i64))) (.bor true false)]) : Option (denL [(.sl (.sl (.int .i64)), .bor false false)]) := ref_Turned_f nf x.1
def ref_Turned_C (nf : Nat) : Contract := ⟨[.val (.sl (.sl (.int .i64))) (.bor true false)], [(.sl (.sl (.int .i64)), .bor false false)], ref_Turned_F nf, []⟩
theorem ref_Turned_ok : FnOK Try.prog 36 := ⟨Try.f36, codeOf Try.f36, Try.func36, by kernel_rfl, by kernel_rfl⟩
theorem ref_Turned_holds (nf : Nat) : Contract.Holds Try.prog 36 (ref_Turned_C nf) :=
  fn_holds (Φ := ref_Turned_phi nf) (keep := ref_Turned_keep) (n := nf) ⟨ref_Turned_tabs.1, ref_Turned_tabs.2, (ctx_cons ref_Has_ok (ref_Has_holds nf) ctx_nil), mixed, bk_ok bkls rfl⟩ (fn := Try.f36) ⟨Try.func36, by kernel_rfl, by kernel_rfl, by kernel_rfl⟩ (fun x => ref_Turned_eq nf x.1)

/-! codemason codemasonref.Bit -/
def ref_Bit_phi (nf : Nat) : Nat → Option Contract := lookC []
def ref_Bit_keep : Nat → List Nat := lookK []
def ref_Bit_p (nf : Nat)  (w : Int) (i : Int) : Option (Bool × Unit) :=
  bif decide (i ≥ 0) then
    bif decide (i < 32) then
      bif decide (0 ≤ IntKind.u64.wrap i) then
        some ((IntKind.u32.wrap (↑(BitVec.ofInt IntKind.u32.bits w &&& BitVec.ofInt IntKind.u32.bits (shlI IntKind.u32 1 (IntKind.u64.wrap i))).toNat : Int) != 0, ()))
      else
        none
    else
      some ((false, ()))
  else
    some ((false, ()))
def ref_Bit_f (nf : Nat) (w : Int) (i : Int) : Option (Bool × Unit) := ref_Bit_p nf  w i
theorem ref_Bit_eq (nf : Nat) (w : Int) (i : Int) : runF tab (ref_Bit_phi nf) ref_Bit_keep nf [PT.val (Ty.int IntKind.u32) (Md.bor true false), PT.val (Ty.int IntKind.i64) (Md.bor true false)] [(Ty.bool, Md.bor false true)] (resL ([]) Try.f37) (codeOf Try.f37) ⟨w, i, ()⟩ = ref_Bit_f nf w i := by
  have h : runF tab (ref_Bit_phi nf) ref_Bit_keep nf [PT.val (Ty.int IntKind.u32) (Md.bor true false), PT.val (Ty.int IntKind.i64) (Md.bor true false)] [(Ty.bool, Md.bor false true)] (resL ([]) Try.f37) (codeOf Try.f37) ⟨w, i, ()⟩ = ref_Bit_p nf  w i := by kernel_rfl
  exact h
def ref_Bit_F (nf : Nat) (x : denPs [.val (.int .u32) (.bor true false), .val (.int .i64) (.bor true false)]) : Option (denL [(.bool, .bor false true)]) := ref_Bit_f nf x.1 x.2.1
def ref_Bit_C (nf : Nat) : Contract := ⟨[.val (.int .u32) (.bor true false), .val (.int .i64) (.bor true false)], [(.bool, .bor false true)], ref_Bit_F nf, []⟩
theorem ref_Bit_ok : FnOK Try.prog 37 := ⟨Try.f37, codeOf Try.f37, Try.func37, by kernel_rfl, by kernel_rfl⟩
theorem ref_Bit_holds (nf : Nat) : Contract.Holds Try.prog 37 (ref_Bit_C nf) :=
  fn_holds (Φ := ref_Bit_phi nf) (keep := ref_Bit_keep) (n := nf) ⟨tabs.1, tabs.2, ctx_nil, mixed, bk_ok bkls rfl⟩ (fn := Try.f37) ⟨Try.func37, by kernel_rfl, by kernel_rfl, by kernel_rfl⟩ (fun x => ref_Bit_eq nf x.1 x.2.1)

/-! codemason codemasonref.Facts -/
def ref_Facts_phi (nf : Nat) : Nat → Option Contract := lookC [(16, ref_Has_C nf), (36, ref_Turned_C nf), (37, ref_Bit_C nf)]
def ref_Facts_keep : Nat → List Nat := lookK [(10, [0, 1, 3, 5, 7, 8, 9, 10, 20, 21, 39, 41, 45, 71, 126]), (8, [0, 1, 3, 5, 7, 8, 9, 10, 14, 16, 21, 39, 41, 45, 71, 105, 107, 108, 109, 110, 126]), (6, [0, 1, 3, 5, 7, 8, 9, 10, 14, 21, 39, 41, 45, 71, 126]), (4, [0, 1, 3, 5, 7, 8, 9, 10, 21, 39, 41, 45, 50, 51, 52, 71, 126]), (2, [0, 1, 3, 5, 7, 8, 9, 21, 39, 45, 71, 126]), (0, [0, 1, 3, 5, 6, 21, 39, 41, 71, 126])]
def ref_Facts_b0 (nf : Nat) (l2 : Bool × Bool × List Int × List Int × Int × Unit → List (List Int) → Bool × Bool × List Int × List Int × Int × Unit → List Int → Int → List Int → Int → Option (List Int × Unit)) (next : List (List Int)) (law : Bool × Bool × List Int × List Int × Int × Unit) (g0 : Bool × Bool × List Int × List Int × Int × Unit → List Int → Int → Option (List Int × Unit)) (law2 : Bool × Bool × List Int × List Int × Int × Unit) (first : List Int) (i : Int) : Option (List Int × Unit) :=
  bif decide (i < (↑next.length : Int)) then
    bif inb i next.length then
      bif (↑(List.length (next.getD i.toNat [])) : Int) == 0 then
        bif bimp false ![i].isEmpty && (first.length + [i].length).ble lim then
          g0 law2 (first ++ [i]) (IntKind.i64.wrap (i + 1))
        else
          none
      else
        g0 law2 first (IntKind.i64.wrap (i + 1))
    else
      none
  else
    Option.bind (ref_Turned_f nf next) fun r =>
    bif decide (0 ≤ (↑(List.length r.fst) : Int)) && decide ((↑(List.length r.fst) : Int) ≤ (↑(List.length r.fst) : Int)) && decide ((↑(List.length r.fst) : Int) ≤ (↑lim : Int)) then
      l2 law r.fst law2 first ((↑(List.length r.fst) : Int)) (List.replicate (↑(List.length r.fst) : Int).toNat 0) 0
    else
      none
def ref_Facts_b2 (nf : Nat) (l4 : List (List Int) → Bool × Bool × List Int × List Int × Int × Unit → Int → Int → List Int → Bool × Bool × List Int × List Int × Int × Unit → List Int → List Int → List Int → Int → Option (List Int × Unit)) (law : Bool × Bool × List Int × List Int × Int × Unit) (g2 : List (List Int) → Bool × Bool × List Int × List Int × Int × Unit → List Int → Int → List Int → Int → Option (List Int × Unit)) (next2 : List (List Int)) (law3 : Bool × Bool × List Int × List Int × Int × Unit) (first2 : List Int) (n' : Int) (out : List Int) (f : Int) : Option (List Int × Unit) :=
  bif decide (f < 8) then
    l4 next2 law n' f first2 law3 first2 out [] 0
  else
    some ((out, ()))
def ref_Facts_b4 (nf : Nat) (l6 : List (List Int) → Bool × Bool × List Int × List Int × Int × Unit → Int → Int → Bool × Bool × List Int × List Int × Int × Unit → List Int → List Int → List Int → Int → Option (List Int × Unit)) (next2 : List (List Int)) (law : Bool × Bool × List Int × List Int × Int × Unit) (n' : Int) (f : Int) (first2 : List Int) (g2 : List (List Int) → Bool × Bool × List Int × List Int × Int × Unit → List Int → Int → List Int → Int → Option (List Int × Unit)) (g4 : Bool × Bool × List Int × List Int × Int × Unit → List Int → List Int → List Int → Int → Option (List Int × Unit)) (law4 : Bool × Bool × List Int × List Int × Int × Unit) (first3 : List Int) (out2 : List Int) (here : List Int) (t52 : Int) : Option (List Int × Unit) :=
  bif decide (t52 < (↑first2.length : Int)) then
    bif inb t52 first3.length then
      Option.bind (ref_Bit_f nf law4.snd.snd.snd.snd.fst f) fun r2 =>
      bif r2.fst then
        Option.bind (ref_Has_f nf here (first3.getD t52.toNat 0)) fun r3 =>
        bif !r3.fst then
          bif bimp false ![first3.getD t52.toNat 0].isEmpty && (here.length + [first3.getD t52.toNat 0].length).ble lim then
            g4 law4 first3 out2 (here ++ [first3.getD t52.toNat 0]) (IntKind.i64.wrap (t52 + 1))
          else
            none
        else
          g4 law4 first3 out2 here (IntKind.i64.wrap (t52 + 1))
      else
        Option.bind (ref_Has_f nf here (IntKind.i64.wrap (n' + first3.getD t52.toNat 0))) fun r4 =>
        bif !r4.fst then
          bif bimp false ![IntKind.i64.wrap (n' + first3.getD t52.toNat 0)].isEmpty && (here.length + [IntKind.i64.wrap (n' + first3.getD t52.toNat 0)].length).ble lim then
            g4 law4 first3 out2 (here ++ [IntKind.i64.wrap (n' + first3.getD t52.toNat 0)]) (IntKind.i64.wrap (t52 + 1))
          else
            none
        else
          g4 law4 first3 out2 here (IntKind.i64.wrap (t52 + 1))
    else
      none
  else
    l6 next2 law n' f law4 first3 out2 here 0
def ref_Facts_b6 (nf : Nat) (l8 : List (List Int) → Bool × Bool × List Int × List Int × Int × Unit → Int → Int → Int → List Int → Bool × Bool × List Int × List Int × Int × Unit → List Int → List Int → List Int → Bool → Int → Option (List Int × Unit)) (l10 : List (List Int) → Bool × Bool × List Int × List Int × Int × Unit → Int → Int → Bool × Bool × List Int × List Int × Int × Unit → List Int → List Int → List Int → Int → Option (List Int × Unit)) (next2 : List (List Int)) (law : Bool × Bool × List Int × List Int × Int × Unit) (n' : Int) (f : Int) (g2 : List (List Int) → Bool × Bool × List Int × List Int × Int × Unit → List Int → Int → List Int → Int → Option (List Int × Unit)) (g6 : Bool × Bool × List Int × List Int × Int × Unit → List Int → List Int → List Int → Int → Option (List Int × Unit)) (law5 : Bool × Bool × List Int × List Int × Int × Unit) (first4 : List Int) (out3 : List Int) (here2 : List Int) (k' : Int) : Option (List Int × Unit) :=
  bif decide (k' < (↑here2.length : Int)) then
    bif inb k' here2.length then
      bif n' != 0 then
        bif inb k' here2.length then
          bif inb (Int.tmod (here2.getD k'.toNat 0) n') (List.length law5.snd.snd.snd.fst) then
            Option.bind (ref_Bit_f nf (List.getD law5.snd.snd.snd.fst (Int.tmod (here2.getD k'.toNat 0) n').toNat 0) f) fun r5 =>
            bif r5.fst then
              bif inb (Int.tmod (here2.getD k'.toNat 0) n') (List.length law5.snd.snd.fst) then
                Option.bind (ref_Bit_f nf (List.getD law5.snd.snd.fst (Int.tmod (here2.getD k'.toNat 0) n').toNat 0) f) fun r6 =>
                bif r6.fst then
                  bif inb (Int.tmod (here2.getD k'.toNat 0) n') next2.length then
                    l8 next2 law n' f k' here2 law5 first4 out3 here2 true 0
                  else
                    none
                else
                  bif inb (Int.tmod (here2.getD k'.toNat 0) n') next2.length then
                    l8 next2 law n' f k' here2 law5 first4 out3 here2 false 0
                  else
                    none
              else
                none
            else
              bif inb (Int.tmod (here2.getD k'.toNat 0) n') (List.length law5.snd.snd.fst) then
                Option.bind (ref_Bit_f nf (List.getD law5.snd.snd.fst (Int.tmod (here2.getD k'.toNat 0) n').toNat 0) f) fun r9 =>
                bif r9.fst then
                  bif inb (Int.tmod (here2.getD k'.toNat 0) n') next2.length then
                    l8 next2 law n' f k' here2 law5 first4 out3 here2 true 0
                  else
                    none
                else
                  bif inb (Int.tmod (here2.getD k'.toNat 0) n') next2.length then
                    l8 next2 law n' f k' here2 law5 first4 out3 here2 (decide (here2.getD k'.toNat 0 < n')) 0
                  else
                    none
              else
                none
          else
            none
        else
          none
      else
        none
    else
      none
  else
    l10 next2 law n' f law5 first4 out3 here2 0
def ref_Facts_b8 (nf : Nat) (next2 : List (List Int)) (law : Bool × Bool × List Int × List Int × Int × Unit) (n' : Int) (f : Int) (k' : Int) (here2 : List Int) (g6 : Bool × Bool × List Int × List Int × Int × Unit → List Int → List Int → List Int → Int → Option (List Int × Unit)) (g2 : List (List Int) → Bool × Bool × List Int × List Int × Int × Unit → List Int → Int → List Int → Int → Option (List Int × Unit)) (g8 : Bool × Bool × List Int × List Int × Int × Unit → List Int → List Int → List Int → Bool → Int → Option (List Int × Unit)) (law6 : Bool × Bool × List Int × List Int × Int × Unit) (first5 : List Int) (out4 : List Int) (here3 : List Int) (is' : Bool) (t110 : Int) : Option (List Int × Unit) :=
  bif decide (t110 < (↑(List.length (next2.getD (Int.tmod (here2.getD k'.toNat 0) n').toNat [])) : Int)) then
    bif inb t110 (List.length (next2.getD (Int.tmod (here2.getD k'.toNat 0) n').toNat [])) then
      bif is' then
        Option.bind (ref_Has_f nf here3 (List.getD (next2.getD (Int.tmod (here2.getD k'.toNat 0) n').toNat []) t110.toNat 0)) fun r7 =>
        bif !r7.fst then
          bif bimp false ![List.getD (next2.getD (Int.tmod (here2.getD k'.toNat 0) n').toNat []) t110.toNat 0].isEmpty && (here3.length + [List.getD (next2.getD (Int.tmod (here2.getD k'.toNat 0) n').toNat []) t110.toNat 0].length).ble lim then
            g8 law6 first5 out4 (here3 ++ [List.getD (next2.getD (Int.tmod (here2.getD k'.toNat 0) n').toNat []) t110.toNat 0]) is' (IntKind.i64.wrap (t110 + 1))
          else
            none
        else
          g8 law6 first5 out4 here3 is' (IntKind.i64.wrap (t110 + 1))
      else
        Option.bind (ref_Has_f nf here3 (IntKind.i64.wrap (n' + List.getD (next2.getD (Int.tmod (here2.getD k'.toNat 0) n').toNat []) t110.toNat 0))) fun r8 =>
        bif !r8.fst then
          bif bimp false ![IntKind.i64.wrap (n' + List.getD (next2.getD (Int.tmod (here2.getD k'.toNat 0) n').toNat []) t110.toNat 0)].isEmpty && (here3.length + [IntKind.i64.wrap (n' + List.getD (next2.getD (Int.tmod (here2.getD k'.toNat 0) n').toNat []) t110.toNat 0)].length).ble lim then
            g8 law6 first5 out4 (here3 ++ [IntKind.i64.wrap (n' + List.getD (next2.getD (Int.tmod (here2.getD k'.toNat 0) n').toNat []) t110.toNat 0)]) is' (IntKind.i64.wrap (t110 + 1))
          else
            none
        else
          g8 law6 first5 out4 here3 is' (IntKind.i64.wrap (t110 + 1))
    else
      none
  else
    g6 law6 first5 out4 here3 (IntKind.i64.wrap (k' + 1))
def ref_Facts_b10 (nf : Nat) (next2 : List (List Int)) (law : Bool × Bool × List Int × List Int × Int × Unit) (n' : Int) (f : Int) (g2 : List (List Int) → Bool × Bool × List Int × List Int × Int × Unit → List Int → Int → List Int → Int → Option (List Int × Unit)) (g10 : Bool × Bool × List Int × List Int × Int × Unit → List Int → List Int → List Int → Int → Option (List Int × Unit)) (law7 : Bool × Bool × List Int × List Int × Int × Unit) (first6 : List Int) (out5 : List Int) (here4 : List Int) (i2 : Int) : Option (List Int × Unit) :=
  bif decide (i2 < n') then
    bif law7.snd.fst then
      Option.bind (ref_Has_f nf here4 (IntKind.i64.wrap (n' + i2))) fun r10 =>
      bif !r10.fst then
        bif inb i2 out5.length then
          bif decide (0 ≤ IntKind.u64.wrap f) then
            bif inb i2 out5.length then
              g10 law7 first6 (out5.set i2.toNat (IntKind.u32.wrap (↑(BitVec.ofInt IntKind.u32.bits (out5.getD i2.toNat 0) ||| BitVec.ofInt IntKind.u32.bits (shlI IntKind.u32 1 (IntKind.u64.wrap f))).toNat : Int))) here4 (IntKind.i64.wrap (i2 + 1))
            else
              none
          else
            none
        else
          none
      else
        bif !law7.snd.fst then
          Option.bind (ref_Has_f nf here4 i2) fun r11 =>
          bif r11.fst then
            bif inb i2 out5.length then
              bif decide (0 ≤ IntKind.u64.wrap f) then
                bif inb i2 out5.length then
                  g10 law7 first6 (out5.set i2.toNat (IntKind.u32.wrap (↑(BitVec.ofInt IntKind.u32.bits (out5.getD i2.toNat 0) ||| BitVec.ofInt IntKind.u32.bits (shlI IntKind.u32 1 (IntKind.u64.wrap f))).toNat : Int))) here4 (IntKind.i64.wrap (i2 + 1))
                else
                  none
              else
                none
            else
              none
          else
            g10 law7 first6 out5 here4 (IntKind.i64.wrap (i2 + 1))
        else
          g10 law7 first6 out5 here4 (IntKind.i64.wrap (i2 + 1))
    else
      bif !law7.snd.fst then
        Option.bind (ref_Has_f nf here4 i2) fun r12 =>
        bif r12.fst then
          bif inb i2 out5.length then
            bif decide (0 ≤ IntKind.u64.wrap f) then
              bif inb i2 out5.length then
                g10 law7 first6 (out5.set i2.toNat (IntKind.u32.wrap (↑(BitVec.ofInt IntKind.u32.bits (out5.getD i2.toNat 0) ||| BitVec.ofInt IntKind.u32.bits (shlI IntKind.u32 1 (IntKind.u64.wrap f))).toNat : Int))) here4 (IntKind.i64.wrap (i2 + 1))
              else
                none
            else
              none
          else
            none
        else
          g10 law7 first6 out5 here4 (IntKind.i64.wrap (i2 + 1))
      else
        g10 law7 first6 out5 here4 (IntKind.i64.wrap (i2 + 1))
  else
    g2 next2 law7 first6 n' out5 (IntKind.i64.wrap (f + 1))
def ref_Facts_p (nf : Nat) (l0 : List (List Int) → Bool × Bool × List Int × List Int × Int × Unit → Bool × Bool × List Int × List Int × Int × Unit → List Int → Int → Option (List Int × Unit)) (l2 : Bool × Bool × List Int × List Int × Int × Unit → List (List Int) → Bool × Bool × List Int × List Int × Int × Unit → List Int → Int → List Int → Int → Option (List Int × Unit)) (next : List (List Int)) (law : Bool × Bool × List Int × List Int × Int × Unit) : Option (List Int × Unit) :=
  bif law.fst then
    l0 next law law [] 0
  else
    bif decide (0 ≤ (↑next.length : Int)) && decide ((↑next.length : Int) ≤ (↑next.length : Int)) && decide ((↑next.length : Int) ≤ (↑lim : Int)) then
      l2 law next law [0] ((↑next.length : Int)) (List.replicate (↑next.length : Int).toNat 0) 0
    else
      none
def ref_Facts_l10 (nf : Nat) (next2 : List (List Int)) (law : Bool × Bool × List Int × List Int × Int × Unit) (n' : Int) (f : Int) (g2 : List (List Int) → Bool × Bool × List Int × List Int × Int × Unit → List Int → Int → List Int → Int → Option (List Int × Unit)) : Nat → Bool × Bool × List Int × List Int × Int × Unit → List Int → List Int → List Int → Int → Option (List Int × Unit)
  | 0, _, _, _, _, _ => none
  | fu + 1, law7, first6, out5, here4, i2 => ref_Facts_b10 nf  next2 law n' f g2 (ref_Facts_l10 nf next2 law n' f g2 fu) law7 first6 out5 here4 i2
def ref_Facts_l8 (nf : Nat) (next2 : List (List Int)) (law : Bool × Bool × List Int × List Int × Int × Unit) (n' : Int) (f : Int) (k' : Int) (here2 : List Int) (g6 : Bool × Bool × List Int × List Int × Int × Unit → List Int → List Int → List Int → Int → Option (List Int × Unit)) (g2 : List (List Int) → Bool × Bool × List Int × List Int × Int × Unit → List Int → Int → List Int → Int → Option (List Int × Unit)) : Nat → Bool × Bool × List Int × List Int × Int × Unit → List Int → List Int → List Int → Bool → Int → Option (List Int × Unit)
  | 0, _, _, _, _, _, _ => none
  | fu + 1, law6, first5, out4, here3, is', t110 => ref_Facts_b8 nf  next2 law n' f k' here2 g6 g2 (ref_Facts_l8 nf next2 law n' f k' here2 g6 g2 fu) law6 first5 out4 here3 is' t110
def ref_Facts_l6 (nf : Nat) (next2 : List (List Int)) (law : Bool × Bool × List Int × List Int × Int × Unit) (n' : Int) (f : Int) (g2 : List (List Int) → Bool × Bool × List Int × List Int × Int × Unit → List Int → Int → List Int → Int → Option (List Int × Unit)) : Nat → Bool × Bool × List Int × List Int × Int × Unit → List Int → List Int → List Int → Int → Option (List Int × Unit)
  | 0, _, _, _, _, _ => none
  | fu + 1, law5, first4, out3, here2, k' => ref_Facts_b6 nf (fun _ _ _ _ p4 p5 v0 v1 v2 v3 v4 v5 => ref_Facts_l8 nf next2 law n' f p4 p5 (fun law5 first4 out3 here2 k' => ref_Facts_l6 nf next2 law n' f g2 fu law5 first4 out3 here2 k') g2 nf v0 v1 v2 v3 v4 v5) (fun _ _ _ _ v0 v1 v2 v3 v4 => ref_Facts_l10 nf next2 law n' f g2 nf v0 v1 v2 v3 v4) next2 law n' f g2 (ref_Facts_l6 nf next2 law n' f g2 fu) law5 first4 out3 here2 k'
def ref_Facts_l4 (nf : Nat) (next2 : List (List Int)) (law : Bool × Bool × List Int × List Int × Int × Unit) (n' : Int) (f : Int) (first2 : List Int) (g2 : List (List Int) → Bool × Bool × List Int × List Int × Int × Unit → List Int → Int → List Int → Int → Option (List Int × Unit)) : Nat → Bool × Bool × List Int × List Int × Int × Unit → List Int → List Int → List Int → Int → Option (List Int × Unit)
  | 0, _, _, _, _, _ => none
  | fu + 1, law4, first3, out2, here, t52 => ref_Facts_b4 nf (fun _ _ _ _ v0 v1 v2 v3 v4 => ref_Facts_l6 nf next2 law n' f g2 nf v0 v1 v2 v3 v4) next2 law n' f first2 g2 (ref_Facts_l4 nf next2 law n' f first2 g2 fu) law4 first3 out2 here t52
def ref_Facts_l2 (nf : Nat) (law : Bool × Bool × List Int × List Int × Int × Unit) : Nat → List (List Int) → Bool × Bool × List Int × List Int × Int × Unit → List Int → Int → List Int → Int → Option (List Int × Unit)
  | 0, _, _, _, _, _, _ => none
  | fu + 1, next2, law3, first2, n', out, f => ref_Facts_b2 nf (fun p0 _ p2 p3 p4 v0 v1 v2 v3 v4 => ref_Facts_l4 nf p0 law p2 p3 p4 (fun next2 law3 first2 n' out f => ref_Facts_l2 nf law  fu next2 law3 first2 n' out f) nf v0 v1 v2 v3 v4) law  (ref_Facts_l2 nf law  fu) next2 law3 first2 n' out f
def ref_Facts_l0 (nf : Nat) (next : List (List Int)) (law : Bool × Bool × List Int × List Int × Int × Unit) : Nat → Bool × Bool × List Int × List Int × Int × Unit → List Int → Int → Option (List Int × Unit)
  | 0, _, _, _ => none
  | fu + 1, law2, first, i => ref_Facts_b0 nf (fun _ v0 v1 v2 v3 v4 v5 => ref_Facts_l2 nf law  nf v0 v1 v2 v3 v4 v5) next law  (ref_Facts_l0 nf next law  fu) law2 first i
def ref_Facts_f (nf : Nat) (next : List (List Int)) (law : Bool × Bool × List Int × List Int × Int × Unit) : Option (List Int × Unit) := ref_Facts_p nf (fun p0 p1 v0 v1 v2 => ref_Facts_l0 nf p0 p1 nf v0 v1 v2) (fun p0 v0 v1 v2 v3 v4 v5 => ref_Facts_l2 nf p0 nf v0 v1 v2 v3 v4 v5) next law
noncomputable def ref_Facts_L0 (nf : Nat) : LC (List Int × Unit) := theL (findL tab (ref_Facts_phi nf) (fun _ F => iter nf F) ref_Facts_keep 0 0 (codeOf Try.f13) (fin tab [((Ty.int IntKind.u32).sl, Md.own false (Md.bor false false))] (resL ([]) Try.f13)) (fun _ _ => none) (fin tab [((Ty.int IntKind.u32).sl, Md.own false (Md.bor false false))] (resL ([]) Try.f13)))
def ref_Facts_m0 (next : List (List Int)) (law : Bool × Bool × List Int × List Int × Int × Unit) (law2 : Bool × Bool × List Int × List Int × Int × Unit) (first : List Int) (i : Int) : St := ⟨fresh, [(0, AV.v (Ty.int IntKind.i64).sl.sl (Md.bor false false) next), (1, AV.v (Ty.bool.pair (Ty.bool.pair ((Ty.int IntKind.u32).sl.pair ((Ty.int IntKind.u32).sl.pair ((Ty.int IntKind.u32).pair Ty.unit))))) (Md.bor true false) law), (3, AV.box 3 500003 (Ty.bool.pair (Ty.bool.pair ((Ty.int IntKind.u32).sl.pair ((Ty.int IntKind.u32).sl.pair ((Ty.int IntKind.u32).pair Ty.unit))))) (Md.bor true false) law2), (5, AV.ow 500005 (Ty.int IntKind.i64).sl (Md.own false (Md.bor false false)) first), (6, AV.v (Ty.int IntKind.i64) (Md.bor false true) i), (21, AV.dead), (39, AV.dead), (41, AV.dead), (71, AV.dead), (126, AV.dead)]⟩
noncomputable def ref_Facts_L2 (nf : Nat) : LC (List Int × Unit) := theL (findL tab (ref_Facts_phi nf) (fun _ F => iter nf F) ref_Facts_keep 2 0 (codeOf Try.f13) (fin tab [((Ty.int IntKind.u32).sl, Md.own false (Md.bor false false))] (resL ([]) Try.f13)) (fun _ _ => none) (fin tab [((Ty.int IntKind.u32).sl, Md.own false (Md.bor false false))] (resL ([]) Try.f13)))
def ref_Facts_m2 (law : Bool × Bool × List Int × List Int × Int × Unit) (next2 : List (List Int)) (law3 : Bool × Bool × List Int × List Int × Int × Unit) (first2 : List Int) (n' : Int) (out : List Int) (f : Int) : St := ⟨fresh, [(0, AV.v (Ty.int IntKind.i64).sl.sl (Md.bor false false) next2), (1, AV.v (Ty.bool.pair (Ty.bool.pair ((Ty.int IntKind.u32).sl.pair ((Ty.int IntKind.u32).sl.pair ((Ty.int IntKind.u32).pair Ty.unit))))) (Md.bor true false) law), (3, AV.box 3 500003 (Ty.bool.pair (Ty.bool.pair ((Ty.int IntKind.u32).sl.pair ((Ty.int IntKind.u32).sl.pair ((Ty.int IntKind.u32).pair Ty.unit))))) (Md.bor true false) law3), (5, AV.ow 500005 (Ty.int IntKind.i64).sl (Md.own false (Md.bor false false)) first2), (7, AV.v (Ty.int IntKind.i64) (Md.bor false true) n'), (8, AV.ow 500008 (Ty.int IntKind.u32).sl (Md.own false (Md.bor false false)) out), (9, AV.v (Ty.int IntKind.i64) (Md.bor false true) f), (21, AV.dead), (39, AV.dead), (45, AV.dead), (71, AV.dead), (126, AV.dead)]⟩
noncomputable def ref_Facts_L4 (nf : Nat) (G2 : St → Option (List Int × Unit)) : LC (List Int × Unit) := theL (findL tab (ref_Facts_phi nf) (fun _ F => iter nf F) ref_Facts_keep 4 2 (ref_Facts_L2 nf ).c (fun st => norm (ref_Facts_keep 2) st G2) (ref_Facts_L2 nf ).Kx (ref_Facts_L2 nf ).Kr)
def ref_Facts_m4 (next2 : List (List Int)) (law : Bool × Bool × List Int × List Int × Int × Unit) (n' : Int) (f : Int) (first2 : List Int) (law4 : Bool × Bool × List Int × List Int × Int × Unit) (first3 : List Int) (out2 : List Int) (here : List Int) (t52 : Int) : St := ⟨fresh, [(0, AV.v (Ty.int IntKind.i64).sl.sl (Md.bor false false) next2), (1, AV.v (Ty.bool.pair (Ty.bool.pair ((Ty.int IntKind.u32).sl.pair ((Ty.int IntKind.u32).sl.pair ((Ty.int IntKind.u32).pair Ty.unit))))) (Md.bor true false) law), (3, AV.box 3 500003 (Ty.bool.pair (Ty.bool.pair ((Ty.int IntKind.u32).sl.pair ((Ty.int IntKind.u32).sl.pair ((Ty.int IntKind.u32).pair Ty.unit))))) (Md.bor true false) law4), (5, AV.ow 500005 (Ty.int IntKind.i64).sl (Md.own false (Md.bor false false)) first3), (7, AV.v (Ty.int IntKind.i64) (Md.bor false true) n'), (8, AV.ow 500008 (Ty.int IntKind.u32).sl (Md.own false (Md.bor false false)) out2), (9, AV.v (Ty.int IntKind.i64) (Md.bor false true) f), (10, AV.ow 500010 (Ty.int IntKind.i64).sl (Md.own false (Md.bor false false)) here), (21, AV.dead), (39, AV.dead), (41, AV.dead), (45, AV.dead), (50, AV.al 5 500005 []), (51, AV.v (Ty.int IntKind.i64) (Md.bor false true) (↑first2.length : Int)), (52, AV.v (Ty.int IntKind.i64) (Md.bor false true) t52), (71, AV.dead), (126, AV.dead)]⟩
noncomputable def ref_Facts_L6 (nf : Nat) (G2 : St → Option (List Int × Unit)) : LC (List Int × Unit) := theL (findL tab (ref_Facts_phi nf) (fun _ F => iter nf F) ref_Facts_keep 6 2 (ref_Facts_L2 nf ).c (fun st => norm (ref_Facts_keep 2) st G2) (ref_Facts_L2 nf ).Kx (ref_Facts_L2 nf ).Kr)
def ref_Facts_m6 (next2 : List (List Int)) (law : Bool × Bool × List Int × List Int × Int × Unit) (n' : Int) (f : Int) (law5 : Bool × Bool × List Int × List Int × Int × Unit) (first4 : List Int) (out3 : List Int) (here2 : List Int) (k' : Int) : St := ⟨fresh, [(0, AV.v (Ty.int IntKind.i64).sl.sl (Md.bor false false) next2), (1, AV.v (Ty.bool.pair (Ty.bool.pair ((Ty.int IntKind.u32).sl.pair ((Ty.int IntKind.u32).sl.pair ((Ty.int IntKind.u32).pair Ty.unit))))) (Md.bor true false) law), (3, AV.box 3 500003 (Ty.bool.pair (Ty.bool.pair ((Ty.int IntKind.u32).sl.pair ((Ty.int IntKind.u32).sl.pair ((Ty.int IntKind.u32).pair Ty.unit))))) (Md.bor true false) law5), (5, AV.ow 500005 (Ty.int IntKind.i64).sl (Md.own false (Md.bor false false)) first4), (7, AV.v (Ty.int IntKind.i64) (Md.bor false true) n'), (8, AV.ow 500008 (Ty.int IntKind.u32).sl (Md.own false (Md.bor false false)) out3), (9, AV.v (Ty.int IntKind.i64) (Md.bor false true) f), (10, AV.ow 500010 (Ty.int IntKind.i64).sl (Md.own false (Md.bor false false)) here2), (14, AV.v (Ty.int IntKind.i64) (Md.bor false true) k'), (21, AV.dead), (39, AV.dead), (41, AV.dead), (45, AV.dead), (71, AV.dead), (126, AV.dead)]⟩
noncomputable def ref_Facts_L8 (nf : Nat) (G2 : St → Option (List Int × Unit)) (G6 : St → Option (List Int × Unit)) : LC (List Int × Unit) := theL (findL tab (ref_Facts_phi nf) (fun _ F => iter nf F) ref_Facts_keep 8 6 (ref_Facts_L6 nf G2).c (fun st => norm (ref_Facts_keep 6) st G6) (ref_Facts_L6 nf G2).Kx (ref_Facts_L6 nf G2).Kr)
def ref_Facts_m8 (next2 : List (List Int)) (law : Bool × Bool × List Int × List Int × Int × Unit) (n' : Int) (f : Int) (k' : Int) (here2 : List Int) (law6 : Bool × Bool × List Int × List Int × Int × Unit) (first5 : List Int) (out4 : List Int) (here3 : List Int) (is' : Bool) (t110 : Int) : St := ⟨fresh, [(0, AV.v (Ty.int IntKind.i64).sl.sl (Md.bor false false) next2), (1, AV.v (Ty.bool.pair (Ty.bool.pair ((Ty.int IntKind.u32).sl.pair ((Ty.int IntKind.u32).sl.pair ((Ty.int IntKind.u32).pair Ty.unit))))) (Md.bor true false) law), (3, AV.box 3 500003 (Ty.bool.pair (Ty.bool.pair ((Ty.int IntKind.u32).sl.pair ((Ty.int IntKind.u32).sl.pair ((Ty.int IntKind.u32).pair Ty.unit))))) (Md.bor true false) law6), (5, AV.ow 500005 (Ty.int IntKind.i64).sl (Md.own false (Md.bor false false)) first5), (7, AV.v (Ty.int IntKind.i64) (Md.bor false true) n'), (8, AV.ow 500008 (Ty.int IntKind.u32).sl (Md.own false (Md.bor false false)) out4), (9, AV.v (Ty.int IntKind.i64) (Md.bor false true) f), (10, AV.ow 500010 (Ty.int IntKind.i64).sl (Md.own false (Md.bor false false)) here3), (14, AV.v (Ty.int IntKind.i64) (Md.bor false true) k'), (16, AV.v Ty.bool (Md.bor false true) is'), (21, AV.dead), (39, AV.dead), (41, AV.dead), (45, AV.dead), (71, AV.dead), (105, AV.v (Ty.int IntKind.i64).sl.sl (Md.bor false false) next2), (107, AV.rop (Ty.int IntKind.i64).sl (Md.bor false false) (next2.getD (Int.tmod (here2.getD k'.toNat 0) n').toNat [])), (108, AV.v (Ty.int IntKind.i64).sl (Md.bor false false) (next2.getD (Int.tmod (here2.getD k'.toNat 0) n').toNat [])), (109, AV.v (Ty.int IntKind.i64) (Md.bor false true) (↑(List.length (next2.getD (Int.tmod (here2.getD k'.toNat 0) n').toNat [])) : Int)), (110, AV.v (Ty.int IntKind.i64) (Md.bor false true) t110), (126, AV.dead)]⟩
noncomputable def ref_Facts_L10 (nf : Nat) (G2 : St → Option (List Int × Unit)) : LC (List Int × Unit) := theL (findL tab (ref_Facts_phi nf) (fun _ F => iter nf F) ref_Facts_keep 10 2 (ref_Facts_L2 nf ).c (fun st => norm (ref_Facts_keep 2) st G2) (ref_Facts_L2 nf ).Kx (ref_Facts_L2 nf ).Kr)
def ref_Facts_m10 (next2 : List (List Int)) (law : Bool × Bool × List Int × List Int × Int × Unit) (n' : Int) (f : Int) (law7 : Bool × Bool × List Int × List Int × Int × Unit) (first6 : List Int) (out5 : List Int) (here4 : List Int) (i2 : Int) : St := ⟨fresh, [(0, AV.v (Ty.int IntKind.i64).sl.sl (Md.bor false false) next2), (1, AV.v (Ty.bool.pair (Ty.bool.pair ((Ty.int IntKind.u32).sl.pair ((Ty.int IntKind.u32).sl.pair ((Ty.int IntKind.u32).pair Ty.unit))))) (Md.bor true false) law), (3, AV.box 3 500003 (Ty.bool.pair (Ty.bool.pair ((Ty.int IntKind.u32).sl.pair ((Ty.int IntKind.u32).sl.pair ((Ty.int IntKind.u32).pair Ty.unit))))) (Md.bor true false) law7), (5, AV.ow 500005 (Ty.int IntKind.i64).sl (Md.own false (Md.bor false false)) first6), (7, AV.v (Ty.int IntKind.i64) (Md.bor false true) n'), (8, AV.ow 500008 (Ty.int IntKind.u32).sl (Md.own false (Md.bor false false)) out5), (9, AV.v (Ty.int IntKind.i64) (Md.bor false true) f), (10, AV.ow 500010 (Ty.int IntKind.i64).sl (Md.own false (Md.bor false false)) here4), (20, AV.v (Ty.int IntKind.i64) (Md.bor false true) i2), (21, AV.dead), (39, AV.dead), (41, AV.dead), (45, AV.dead), (71, AV.dead), (126, AV.dead)]⟩
theorem ref_Facts_h10 (nf : Nat) (G2 : St → Option (List Int × Unit)) (next2 : List (List Int)) (law : Bool × Bool × List Int × List Int × Int × Unit) (n' : Int) (f : Int) (fu : Nat) (law7 : Bool × Bool × List Int × List Int × Int × Unit) (first6 : List Int) (out5 : List Int) (here4 : List Int) (i2 : Int) : iter (fu + 1) (LC.F tab (ref_Facts_phi nf) (fun _ F => iter nf F) ref_Facts_keep 10 (ref_Facts_L10 nf G2)) (ref_Facts_m10 next2 law n' f law7 first6 out5 here4 i2) = ref_Facts_b10 nf  next2 law n' f (fun next2 law3 first2 n' out f => G2 (ref_Facts_m2 law next2 law3 first2 n' out f)) (fun law7 first6 out5 here4 i2 => iter fu (LC.F tab (ref_Facts_phi nf) (fun _ F => iter nf F) ref_Facts_keep 10 (ref_Facts_L10 nf G2)) (ref_Facts_m10 next2 law n' f law7 first6 out5 here4 i2)) law7 first6 out5 here4 i2 := by kernel_rfl
theorem ref_Facts_e10 (nf : Nat) (G2 : St → Option (List Int × Unit)) (next2 : List (List Int)) (law : Bool × Bool × List Int × List Int × Int × Unit) (n' : Int) (f : Int) : ∀ (fu : Nat) (law7 : Bool × Bool × List Int × List Int × Int × Unit) (first6 : List Int) (out5 : List Int) (here4 : List Int) (i2 : Int), iter fu (LC.F tab (ref_Facts_phi nf) (fun _ F => iter nf F) ref_Facts_keep 10 (ref_Facts_L10 nf G2)) (ref_Facts_m10 next2 law n' f law7 first6 out5 here4 i2) = ref_Facts_l10 nf next2 law n' f (fun next2 law3 first2 n' out f => G2 (ref_Facts_m2 law next2 law3 first2 n' out f)) fu law7 first6 out5 here4 i2 := by
  intro fu
  induction fu with
  | zero => intros; rfl
  | succ fu ih =>
    intro law7 first6 out5 here4 i2
    rw [ref_Facts_h10 nf G2 next2 law n' f fu law7 first6 out5 here4 i2]
    simp only [ih]
    rfl
theorem ref_Facts_h8 (nf : Nat) (G2 : St → Option (List Int × Unit)) (G6 : St → Option (List Int × Unit)) (next2 : List (List Int)) (law : Bool × Bool × List Int × List Int × Int × Unit) (n' : Int) (f : Int) (k' : Int) (here2 : List Int) (fu : Nat) (law6 : Bool × Bool × List Int × List Int × Int × Unit) (first5 : List Int) (out4 : List Int) (here3 : List Int) (is' : Bool) (t110 : Int) : iter (fu + 1) (LC.F tab (ref_Facts_phi nf) (fun _ F => iter nf F) ref_Facts_keep 8 (ref_Facts_L8 nf G2 G6)) (ref_Facts_m8 next2 law n' f k' here2 law6 first5 out4 here3 is' t110) = ref_Facts_b8 nf  next2 law n' f k' here2 (fun law5 first4 out3 here2 k' => G6 (ref_Facts_m6 next2 law n' f law5 first4 out3 here2 k')) (fun next2 law3 first2 n' out f => G2 (ref_Facts_m2 law next2 law3 first2 n' out f)) (fun law6 first5 out4 here3 is' t110 => iter fu (LC.F tab (ref_Facts_phi nf) (fun _ F => iter nf F) ref_Facts_keep 8 (ref_Facts_L8 nf G2 G6)) (ref_Facts_m8 next2 law n' f k' here2 law6 first5 out4 here3 is' t110)) law6 first5 out4 here3 is' t110 := by kernel_rfl
theorem ref_Facts_e8 (nf : Nat) (G2 : St → Option (List Int × Unit)) (G6 : St → Option (List Int × Unit)) (next2 : List (List Int)) (law : Bool × Bool × List Int × List Int × Int × Unit) (n' : Int) (f : Int) (k' : Int) (here2 : List Int) : ∀ (fu : Nat) (law6 : Bool × Bool × List Int × List Int × Int × Unit) (first5 : List Int) (out4 : List Int) (here3 : List Int) (is' : Bool) (t110 : Int), iter fu (LC.F tab (ref_Facts_phi nf) (fun _ F => iter nf F) ref_Facts_keep 8 (ref_Facts_L8 nf G2 G6)) (ref_Facts_m8 next2 law n' f k' here2 law6 first5 out4 here3 is' t110) = ref_Facts_l8 nf next2 law n' f k' here2 (fun law5 first4 out3 here2 k' => G6 (ref_Facts_m6 next2 law n' f law5 first4 out3 here2 k')) (fun next2 law3 first2 n' out f => G2 (ref_Facts_m2 law next2 law3 first2 n' out f)) fu law6 first5 out4 here3 is' t110 := by
  intro fu
  induction fu with
  | zero => intros; rfl
  | succ fu ih =>
    intro law6 first5 out4 here3 is' t110
    rw [ref_Facts_h8 nf G2 G6 next2 law n' f k' here2 fu law6 first5 out4 here3 is' t110]
    simp only [ih]
    rfl
theorem ref_Facts_h6 (nf : Nat) (G2 : St → Option (List Int × Unit)) (next2 : List (List Int)) (law : Bool × Bool × List Int × List Int × Int × Unit) (n' : Int) (f : Int) (fu : Nat) (law5 : Bool × Bool × List Int × List Int × Int × Unit) (first4 : List Int) (out3 : List Int) (here2 : List Int) (k' : Int) : iter (fu + 1) (LC.F tab (ref_Facts_phi nf) (fun _ F => iter nf F) ref_Facts_keep 6 (ref_Facts_L6 nf G2)) (ref_Facts_m6 next2 law n' f law5 first4 out3 here2 k') = ref_Facts_b6 nf (fun _ _ _ _ p4 p5 v0 v1 v2 v3 v4 v5 => iter nf (LC.F tab (ref_Facts_phi nf) (fun _ F => iter nf F) ref_Facts_keep 8 (ref_Facts_L8 nf G2 (iter fu (LC.F tab (ref_Facts_phi nf) (fun _ F => iter nf F) ref_Facts_keep 6 (ref_Facts_L6 nf G2))))) (ref_Facts_m8 next2 law n' f p4 p5 v0 v1 v2 v3 v4 v5)) (fun _ _ _ _ v0 v1 v2 v3 v4 => iter nf (LC.F tab (ref_Facts_phi nf) (fun _ F => iter nf F) ref_Facts_keep 10 (ref_Facts_L10 nf G2)) (ref_Facts_m10 next2 law n' f v0 v1 v2 v3 v4)) next2 law n' f (fun next2 law3 first2 n' out f => G2 (ref_Facts_m2 law next2 law3 first2 n' out f)) (fun law5 first4 out3 here2 k' => iter fu (LC.F tab (ref_Facts_phi nf) (fun _ F => iter nf F) ref_Facts_keep 6 (ref_Facts_L6 nf G2)) (ref_Facts_m6 next2 law n' f law5 first4 out3 here2 k')) law5 first4 out3 here2 k' := by kernel_rfl
theorem ref_Facts_e6 (nf : Nat) (G2 : St → Option (List Int × Unit)) (next2 : List (List Int)) (law : Bool × Bool × List Int × List Int × Int × Unit) (n' : Int) (f : Int) : ∀ (fu : Nat) (law5 : Bool × Bool × List Int × List Int × Int × Unit) (first4 : List Int) (out3 : List Int) (here2 : List Int) (k' : Int), iter fu (LC.F tab (ref_Facts_phi nf) (fun _ F => iter nf F) ref_Facts_keep 6 (ref_Facts_L6 nf G2)) (ref_Facts_m6 next2 law n' f law5 first4 out3 here2 k') = ref_Facts_l6 nf next2 law n' f (fun next2 law3 first2 n' out f => G2 (ref_Facts_m2 law next2 law3 first2 n' out f)) fu law5 first4 out3 here2 k' := by
  intro fu
  induction fu with
  | zero => intros; rfl
  | succ fu ih =>
    intro law5 first4 out3 here2 k'
    rw [ref_Facts_h6 nf G2 next2 law n' f fu law5 first4 out3 here2 k']
    simp only [ih, ref_Facts_e8, ref_Facts_e10]
    rfl
theorem ref_Facts_h4 (nf : Nat) (G2 : St → Option (List Int × Unit)) (next2 : List (List Int)) (law : Bool × Bool × List Int × List Int × Int × Unit) (n' : Int) (f : Int) (first2 : List Int) (fu : Nat) (law4 : Bool × Bool × List Int × List Int × Int × Unit) (first3 : List Int) (out2 : List Int) (here : List Int) (t52 : Int) : iter (fu + 1) (LC.F tab (ref_Facts_phi nf) (fun _ F => iter nf F) ref_Facts_keep 4 (ref_Facts_L4 nf G2)) (ref_Facts_m4 next2 law n' f first2 law4 first3 out2 here t52) = ref_Facts_b4 nf (fun _ _ _ _ v0 v1 v2 v3 v4 => iter nf (LC.F tab (ref_Facts_phi nf) (fun _ F => iter nf F) ref_Facts_keep 6 (ref_Facts_L6 nf G2)) (ref_Facts_m6 next2 law n' f v0 v1 v2 v3 v4)) next2 law n' f first2 (fun next2 law3 first2 n' out f => G2 (ref_Facts_m2 law next2 law3 first2 n' out f)) (fun law4 first3 out2 here t52 => iter fu (LC.F tab (ref_Facts_phi nf) (fun _ F => iter nf F) ref_Facts_keep 4 (ref_Facts_L4 nf G2)) (ref_Facts_m4 next2 law n' f first2 law4 first3 out2 here t52)) law4 first3 out2 here t52 := by kernel_rfl
theorem ref_Facts_e4 (nf : Nat) (G2 : St → Option (List Int × Unit)) (next2 : List (List Int)) (law : Bool × Bool × List Int × List Int × Int × Unit) (n' : Int) (f : Int) (first2 : List Int) : ∀ (fu : Nat) (law4 : Bool × Bool × List Int × List Int × Int × Unit) (first3 : List Int) (out2 : List Int) (here : List Int) (t52 : Int), iter fu (LC.F tab (ref_Facts_phi nf) (fun _ F => iter nf F) ref_Facts_keep 4 (ref_Facts_L4 nf G2)) (ref_Facts_m4 next2 law n' f first2 law4 first3 out2 here t52) = ref_Facts_l4 nf next2 law n' f first2 (fun next2 law3 first2 n' out f => G2 (ref_Facts_m2 law next2 law3 first2 n' out f)) fu law4 first3 out2 here t52 := by
  intro fu
  induction fu with
  | zero => intros; rfl
  | succ fu ih =>
    intro law4 first3 out2 here t52
    rw [ref_Facts_h4 nf G2 next2 law n' f first2 fu law4 first3 out2 here t52]
    simp only [ih, ref_Facts_e6]
    rfl
theorem ref_Facts_h2 (nf : Nat)  (law : Bool × Bool × List Int × List Int × Int × Unit) (fu : Nat) (next2 : List (List Int)) (law3 : Bool × Bool × List Int × List Int × Int × Unit) (first2 : List Int) (n' : Int) (out : List Int) (f : Int) : iter (fu + 1) (LC.F tab (ref_Facts_phi nf) (fun _ F => iter nf F) ref_Facts_keep 2 (ref_Facts_L2 nf )) (ref_Facts_m2 law next2 law3 first2 n' out f) = ref_Facts_b2 nf (fun p0 _ p2 p3 p4 v0 v1 v2 v3 v4 => iter nf (LC.F tab (ref_Facts_phi nf) (fun _ F => iter nf F) ref_Facts_keep 4 (ref_Facts_L4 nf (iter fu (LC.F tab (ref_Facts_phi nf) (fun _ F => iter nf F) ref_Facts_keep 2 (ref_Facts_L2 nf ))))) (ref_Facts_m4 p0 law p2 p3 p4 v0 v1 v2 v3 v4)) law  (fun next2 law3 first2 n' out f => iter fu (LC.F tab (ref_Facts_phi nf) (fun _ F => iter nf F) ref_Facts_keep 2 (ref_Facts_L2 nf )) (ref_Facts_m2 law next2 law3 first2 n' out f)) next2 law3 first2 n' out f := by kernel_rfl
theorem ref_Facts_e2 (nf : Nat)  (law : Bool × Bool × List Int × List Int × Int × Unit) : ∀ (fu : Nat) (next2 : List (List Int)) (law3 : Bool × Bool × List Int × List Int × Int × Unit) (first2 : List Int) (n' : Int) (out : List Int) (f : Int), iter fu (LC.F tab (ref_Facts_phi nf) (fun _ F => iter nf F) ref_Facts_keep 2 (ref_Facts_L2 nf )) (ref_Facts_m2 law next2 law3 first2 n' out f) = ref_Facts_l2 nf law  fu next2 law3 first2 n' out f := by
  intro fu
  induction fu with
  | zero => intros; rfl
  | succ fu ih =>
    intro next2 law3 first2 n' out f
    rw [ref_Facts_h2 nf  law fu next2 law3 first2 n' out f]
    simp only [ih, ref_Facts_e4]
    rfl
theorem ref_Facts_h0 (nf : Nat)  (next : List (List Int)) (law : Bool × Bool × List Int × List Int × Int × Unit) (fu : Nat) (law2 : Bool × Bool × List Int × List Int × Int × Unit) (first : List Int) (i : Int) : iter (fu + 1) (LC.F tab (ref_Facts_phi nf) (fun _ F => iter nf F) ref_Facts_keep 0 (ref_Facts_L0 nf )) (ref_Facts_m0 next law law2 first i) = ref_Facts_b0 nf (fun _ v0 v1 v2 v3 v4 v5 => iter nf (LC.F tab (ref_Facts_phi nf) (fun _ F => iter nf F) ref_Facts_keep 2 (ref_Facts_L2 nf )) (ref_Facts_m2 law v0 v1 v2 v3 v4 v5)) next law  (fun law2 first i => iter fu (LC.F tab (ref_Facts_phi nf) (fun _ F => iter nf F) ref_Facts_keep 0 (ref_Facts_L0 nf )) (ref_Facts_m0 next law law2 first i)) law2 first i := by kernel_rfl
theorem ref_Facts_e0 (nf : Nat)  (next : List (List Int)) (law : Bool × Bool × List Int × List Int × Int × Unit) : ∀ (fu : Nat) (law2 : Bool × Bool × List Int × List Int × Int × Unit) (first : List Int) (i : Int), iter fu (LC.F tab (ref_Facts_phi nf) (fun _ F => iter nf F) ref_Facts_keep 0 (ref_Facts_L0 nf )) (ref_Facts_m0 next law law2 first i) = ref_Facts_l0 nf next law  fu law2 first i := by
  intro fu
  induction fu with
  | zero => intros; rfl
  | succ fu ih =>
    intro law2 first i
    rw [ref_Facts_h0 nf  next law fu law2 first i]
    simp only [ih, ref_Facts_e2]
    rfl
theorem ref_Facts_eq (nf : Nat) (next : List (List Int)) (law : Bool × Bool × List Int × List Int × Int × Unit) : runF tab (ref_Facts_phi nf) ref_Facts_keep nf [PT.val (Ty.int IntKind.i64).sl.sl (Md.bor false false), PT.val (Ty.bool.pair (Ty.bool.pair ((Ty.int IntKind.u32).sl.pair ((Ty.int IntKind.u32).sl.pair ((Ty.int IntKind.u32).pair Ty.unit))))) (Md.bor true false)] [((Ty.int IntKind.u32).sl, Md.own false (Md.bor false false))] (resL ([]) Try.f13) (codeOf Try.f13) ⟨next, law, ()⟩ = ref_Facts_f nf next law := by
  have h : runF tab (ref_Facts_phi nf) ref_Facts_keep nf [PT.val (Ty.int IntKind.i64).sl.sl (Md.bor false false), PT.val (Ty.bool.pair (Ty.bool.pair ((Ty.int IntKind.u32).sl.pair ((Ty.int IntKind.u32).sl.pair ((Ty.int IntKind.u32).pair Ty.unit))))) (Md.bor true false)] [((Ty.int IntKind.u32).sl, Md.own false (Md.bor false false))] (resL ([]) Try.f13) (codeOf Try.f13) ⟨next, law, ()⟩ = ref_Facts_p nf (fun p0 p1 v0 v1 v2 => iter nf (LC.F tab (ref_Facts_phi nf) (fun _ F => iter nf F) ref_Facts_keep 0 (ref_Facts_L0 nf)) (ref_Facts_m0 p0 p1 v0 v1 v2)) (fun p0 v0 v1 v2 v3 v4 v5 => iter nf (LC.F tab (ref_Facts_phi nf) (fun _ F => iter nf F) ref_Facts_keep 2 (ref_Facts_L2 nf)) (ref_Facts_m2 p0 v0 v1 v2 v3 v4 v5)) next law := by kernel_rfl
  rw [h]
  simp only [ref_Facts_e0, ref_Facts_e2]
  rfl
def ref_Facts_F (nf : Nat) (x : denPs [.val (.sl (.sl (.int .i64))) (.bor false false), .val (.pair (.bool) (.pair (.bool) (.pair (.sl (.int .u32)) (.pair (.sl (.int .u32)) (.pair (.int .u32) (.unit)))))) (.bor true false)]) : Option (denL [(.sl (.int .u32), .own false (.bor false false))]) := ref_Facts_f nf x.1 x.2.1
def ref_Facts_C (nf : Nat) : Contract := ⟨[.val (.sl (.sl (.int .i64))) (.bor false false), .val (.pair (.bool) (.pair (.bool) (.pair (.sl (.int .u32)) (.pair (.sl (.int .u32)) (.pair (.int .u32) (.unit)))))) (.bor true false)], [(.sl (.int .u32), .own false (.bor false false))], ref_Facts_F nf, []⟩
theorem ref_Facts_ok : FnOK Try.prog 13 := ⟨Try.f13, codeOf Try.f13, Try.func13, by kernel_rfl, by kernel_rfl⟩
theorem ref_Facts_holds (nf : Nat) : Contract.Holds Try.prog 13 (ref_Facts_C nf) :=
  fn_holds (Φ := ref_Facts_phi nf) (keep := ref_Facts_keep) (n := nf) ⟨tabs.1, tabs.2, (ctx_cons ref_Has_ok (ref_Has_holds nf) (ctx_cons ref_Turned_ok (ref_Turned_holds nf) (ctx_cons ref_Bit_ok (ref_Bit_holds nf) ctx_nil))), mixed, bk_ok bkls rfl⟩ (fn := Try.f13) ⟨Try.func13, by kernel_rfl, by kernel_rfl, by kernel_rfl⟩ (fun x => ref_Facts_eq nf x.1 x.2.1)

/-! codemason codemasonlaw.FactSolves -/
def law_FactSolves_phi (nf : Nat) : Nat → Option Contract := lookC [(10, fact_Solve_C nf), (11, ref_LawCheck_C nf), (12, ref_Words_C nf), (13, ref_Facts_C nf)]
def law_FactSolves_keep : Nat → List Nat := lookK []
def law_FactSolves_p (nf : Nat)  (next : List (List Int)) (law : Bool × Bool × List Int × List Int × Int × Unit) : Option (Bool × Unit) :=
  Option.bind (fact_Solve_f nf next law) fun r =>
  Option.bind (ref_LawCheck_f nf next law) fun r2 =>
  bif r2.fst != 0 then
    bif r.snd.fst == r2.fst then
      some (((↑(List.length r.fst) : Int) == 0, ()))
    else
      some ((false, ()))
  else
    bif r.snd.fst == 0 then
      Option.bind (ref_Facts_f nf next law) fun r3 =>
      Option.bind (ref_Words_f nf r.fst r3.fst) fun r4 =>
      some ((r4.fst, ()))
    else
      some ((false, ()))
def law_FactSolves_f (nf : Nat) (next : List (List Int)) (law : Bool × Bool × List Int × List Int × Int × Unit) : Option (Bool × Unit) := law_FactSolves_p nf  next law
theorem law_FactSolves_eq (nf : Nat) (next : List (List Int)) (law : Bool × Bool × List Int × List Int × Int × Unit) : runF tab (law_FactSolves_phi nf) law_FactSolves_keep nf [PT.val (Ty.int IntKind.i64).sl.sl (Md.bor false false), PT.val (Ty.bool.pair (Ty.bool.pair ((Ty.int IntKind.u32).sl.pair ((Ty.int IntKind.u32).sl.pair ((Ty.int IntKind.u32).pair Ty.unit))))) (Md.bor false false)] [(Ty.bool, Md.bor false true)] (resL ([]) Try.f3) (codeOf Try.f3) ⟨next, law, ()⟩ = law_FactSolves_f nf next law := by
  have h : runF tab (law_FactSolves_phi nf) law_FactSolves_keep nf [PT.val (Ty.int IntKind.i64).sl.sl (Md.bor false false), PT.val (Ty.bool.pair (Ty.bool.pair ((Ty.int IntKind.u32).sl.pair ((Ty.int IntKind.u32).sl.pair ((Ty.int IntKind.u32).pair Ty.unit))))) (Md.bor false false)] [(Ty.bool, Md.bor false true)] (resL ([]) Try.f3) (codeOf Try.f3) ⟨next, law, ()⟩ = law_FactSolves_p nf  next law := by kernel_rfl
  exact h
def law_FactSolves_F (nf : Nat) (x : denPs [.val (.sl (.sl (.int .i64))) (.bor false false), .val (.pair (.bool) (.pair (.bool) (.pair (.sl (.int .u32)) (.pair (.sl (.int .u32)) (.pair (.int .u32) (.unit)))))) (.bor false false)]) : Option (denL [(.bool, .bor false true)]) := law_FactSolves_f nf x.1 x.2.1
def law_FactSolves_C (nf : Nat) : Contract := ⟨[.val (.sl (.sl (.int .i64))) (.bor false false), .val (.pair (.bool) (.pair (.bool) (.pair (.sl (.int .u32)) (.pair (.sl (.int .u32)) (.pair (.int .u32) (.unit)))))) (.bor false false)], [(.bool, .bor false true)], law_FactSolves_F nf, []⟩
theorem law_FactSolves_ok : FnOK Try.prog 3 := ⟨Try.f3, codeOf Try.f3, Try.func3, by kernel_rfl, by kernel_rfl⟩
theorem law_FactSolves_holds (nf : Nat) : Contract.Holds Try.prog 3 (law_FactSolves_C nf) :=
  fn_holds (Φ := law_FactSolves_phi nf) (keep := law_FactSolves_keep) (n := nf) ⟨tabs.1, tabs.2, (ctx_cons fact_Solve_ok (fact_Solve_holds nf) (ctx_cons ref_LawCheck_ok (ref_LawCheck_holds nf) (ctx_cons ref_Words_ok (ref_Words_holds nf) (ctx_cons ref_Facts_ok (ref_Facts_holds nf) ctx_nil)))), mixed, bk_ok bkls rfl⟩ (fn := Try.f3) ⟨Try.func3, by kernel_rfl, by kernel_rfl, by kernel_rfl⟩ (fun x => law_FactSolves_eq nf x.1 x.2.1)
end
end Go.Proofs.Ytoglkjmdloppcaa.S
