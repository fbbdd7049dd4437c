/- The functions of the code, as plain functions, and the theorems that say so: made by a program of this proof's own. -/
import Derived.Test.YtccbcbhiblohgaaAbCheck
import Derived.Test.YtccbcbhiblohgaaChecked
namespace Go.Proofs.Ytccbcbhiblohgaa.S
open Go Go.Ab
noncomputable section
def tab : Tab := ⟨lookT [(2, .int .i64), (3, .int .i64), (4, .bool), (5, .int .u8), (6, .int .u8), (7, .pair (.int .i64) (.pair (.int .i64) (.pair (.bool) (.pair (.int .u8) (.unit))))), (8, .pair (.int .i64) (.pair (.int .i64) (.pair (.bool) (.pair (.int .u8) (.unit))))), (12, .int .u64), (21, .int .i32), (22, .sl (.sl (.int .i64))), (23, .int .i64), (26, .int .u32), (30, .sl (.int .i64)), (36, .sl (.int .u32)), (42, .sl (.pair (.int .i64) (.pair (.int .i64) (.unit)))), (48, .int .u64), (57, .pair (.bool) (.pair (.bool) (.pair (.sl (.int .u32)) (.pair (.sl (.int .u32)) (.pair (.int .u32) (.unit)))))), (58, .pair (.bool) (.pair (.bool) (.pair (.sl (.int .u32)) (.pair (.sl (.int .u32)) (.pair (.int .u32) (.unit)))))), (73, .pair (.int .i64) (.pair (.int .i64) (.unit))), (81, .sl (.bool)), (91, .int .u64), (95, .sl (.sl (.int .u32))), (104, .int .u8), (105, .int .u8), (108, .int .i32), (109, .int .i32)], lookM [(2, .bor false true), (3, .bor false true), (4, .bor false true), (5, .bor false true), (6, .bor false true), (7, .bor false true), (8, .bor false true), (12, .bor false true), (21, .bor false true), (22, .own false (.bor false false)), (23, .bor false true), (26, .bor false true), (30, .own false (.bor false false)), (36, .own false (.bor false false)), (42, .own false (.bor false false)), (48, .bor false true), (57, .bor true false), (58, .bor true false), (73, .bor false true), (81, .own false (.bor false false)), (91, .bor false true), (95, .own false (.bor false false)), (104, .bor false true), (105, .bor false true), (108, .bor false true), (109, .bor false true)], hasT [73, 100], hasT [9, 10, 11], fun _ => none⟩
theorem tabs : TabOK Try.prog tab ∧ EqOK Try.prog tab := tab_ok (by kernel_rfl) (by kernel_rfl)
theorem mixed : Try.prog.follows .mixedOrders = true := by kernel_rfl

/-! codemason way.Check 1 -/
def way_Check_1_phi (nf : Nat) : Nat → Option Contract := lookC []
def way_Check_1_keep : Nat → List Nat := lookK []
def way_Check_1_p (nf : Nat)  (j : Int) (c1 : List (List Int)) : Option (Bool × Unit) :=
  bif decide (j < 0) then
    some ((true, ()))
  else
    some ((decide (j ≥ (↑c1.length : Int)), ()))
def way_Check_1_f (nf : Nat) (j : Int) (c1 : List (List Int)) : Option (Bool × Unit) := way_Check_1_p nf  j c1
theorem way_Check_1_eq (nf : Nat) (j : Int) (c1 : List (List Int)) : runF tab (way_Check_1_phi nf) way_Check_1_keep nf [PT.val (Ty.int IntKind.i64) (Md.bor true false), PT.ptr (Ty.int IntKind.i64).sl.sl (Md.bor true false)] [(Ty.bool, Md.bor false true)] (resL (none) Try.f58) (codeOf Try.f58) ⟨j, c1, ()⟩ = way_Check_1_f nf j c1 := by
  have h : runF tab (way_Check_1_phi nf) way_Check_1_keep nf [PT.val (Ty.int IntKind.i64) (Md.bor true false), PT.ptr (Ty.int IntKind.i64).sl.sl (Md.bor true false)] [(Ty.bool, Md.bor false true)] (resL (none) Try.f58) (codeOf Try.f58) ⟨j, c1, ()⟩ = way_Check_1_p nf  j c1 := by kernel_rfl
  exact h
def way_Check_1_F (nf : Nat) (x : denPs [.val (.int .i64) (.bor true false), .ptr (.sl (.sl (.int .i64))) (.bor true false)]) : Option (denL [(.bool, .bor false true)]) := way_Check_1_f nf x.1 x.2.1
def way_Check_1_C (nf : Nat) : Contract := ⟨[.val (.int .i64) (.bor true false), .ptr (.sl (.sl (.int .i64))) (.bor true false)], [(.bool, .bor false true)], way_Check_1_F nf, none⟩
theorem way_Check_1_ok : FnOK Try.prog 58 := ⟨Try.f58, codeOf Try.f58, Try.func58, by kernel_rfl, by kernel_rfl⟩
theorem way_Check_1_holds (nf : Nat) : Contract.Holds Try.prog 58 (way_Check_1_C nf) :=
  fn_holds (Φ := way_Check_1_phi nf) (keep := way_Check_1_keep) (n := nf) ⟨tabs.1, tabs.2, ctx_nil, mixed⟩ (fn := Try.f58) ⟨Try.func58, by kernel_rfl, by kernel_rfl, by kernel_rfl⟩ (fun x => way_Check_1_eq nf x.1 x.2.1)

/-! slices.IndexFunc   int int  codemason way.Check 1 -/
def slices_IndexFunc__way_Check_1_phi (nf : Nat) : Nat → Option Contract := lookC [(58, way_Check_1_C nf)]
def slices_IndexFunc__way_Check_1_keep : Nat → List Nat := lookK [(0, [0, 1, 7, 8])]
def slices_IndexFunc__way_Check_1_b0 (nf : Nat) (s : List Int) (f : List (List Int) × Unit) (g0 : Int → Option (Int × Unit)) (t8 : Int) : Option (Int × Unit) :=
  bif decide (t8 < (↑s.length : Int)) then
    bif inb t8 s.length then
      Option.bind (way_Check_1_f nf (s.getD t8.toNat 0) f.fst) fun r =>
      bif r.fst then
        some ((t8, ()))
      else
        g0 (IntKind.i64.wrap (t8 + 1))
    else
      none
  else
    some ((-1, ()))
def slices_IndexFunc__way_Check_1_p (nf : Nat) (l0 : List Int → List (List Int) × Unit → Int → Option (Int × Unit)) (s : List Int) (f : List (List Int) × Unit) : Option (Int × Unit) :=
  l0 s f 0
def slices_IndexFunc__way_Check_1_l0 (nf : Nat) (s : List Int) (f : List (List Int) × Unit) : Nat → Int → Option (Int × Unit)
  | 0, _ => none
  | fu + 1, t8 => slices_IndexFunc__way_Check_1_b0 nf  s f  (slices_IndexFunc__way_Check_1_l0 nf s f  fu) t8
def slices_IndexFunc__way_Check_1_f (nf : Nat) (s : List Int) (f : List (List Int) × Unit) : Option (Int × Unit) := slices_IndexFunc__way_Check_1_p nf (fun p0 p1 v0 => slices_IndexFunc__way_Check_1_l0 nf p0 p1 nf v0) s f
noncomputable def slices_IndexFunc__way_Check_1_L0 (nf : Nat) : LC (Int × Unit) := theL (findL tab (slices_IndexFunc__way_Check_1_phi nf) (fun _ F => iter nf F) slices_IndexFunc__way_Check_1_keep 0 0 (codeOf Try.f75) (fin tab [(Ty.int IntKind.i64, Md.bor false true)] (resL (none) Try.f75)) (fun _ _ => none) (fin tab [(Ty.int IntKind.i64, Md.bor false true)] (resL (none) Try.f75)))
def slices_IndexFunc__way_Check_1_m0 (s : List Int) (f : List (List Int) × Unit) (t8 : Int) : St := ⟨fresh, [(0, AV.v (Ty.int IntKind.i64).sl (Md.bor true false) s), (1, AV.clo 58 [AV.rop (Ty.int IntKind.i64).sl.sl (Md.bor true false) f.fst]), (7, AV.v (Ty.int IntKind.i64) (Md.bor false true) (↑s.length : Int)), (8, AV.v (Ty.int IntKind.i64) (Md.bor false true) t8)]⟩
theorem slices_IndexFunc__way_Check_1_h0 (nf : Nat)  (s : List Int) (f : List (List Int) × Unit) (fu : Nat) (t8 : Int) : iter (fu + 1) (LC.F tab (slices_IndexFunc__way_Check_1_phi nf) (fun _ F => iter nf F) slices_IndexFunc__way_Check_1_keep 0 (slices_IndexFunc__way_Check_1_L0 nf )) (slices_IndexFunc__way_Check_1_m0 s f t8) = slices_IndexFunc__way_Check_1_b0 nf  s f  (fun t8 => iter fu (LC.F tab (slices_IndexFunc__way_Check_1_phi nf) (fun _ F => iter nf F) slices_IndexFunc__way_Check_1_keep 0 (slices_IndexFunc__way_Check_1_L0 nf )) (slices_IndexFunc__way_Check_1_m0 s f t8)) t8 := by kernel_rfl
theorem slices_IndexFunc__way_Check_1_e0 (nf : Nat)  (s : List Int) (f : List (List Int) × Unit) : ∀ (fu : Nat) (t8 : Int), iter fu (LC.F tab (slices_IndexFunc__way_Check_1_phi nf) (fun _ F => iter nf F) slices_IndexFunc__way_Check_1_keep 0 (slices_IndexFunc__way_Check_1_L0 nf )) (slices_IndexFunc__way_Check_1_m0 s f t8) = slices_IndexFunc__way_Check_1_l0 nf s f  fu t8 := by
  intro fu
  induction fu with
  | zero => intros; rfl
  | succ fu ih =>
    intro t8
    rw [slices_IndexFunc__way_Check_1_h0 nf  s f fu t8]
    simp only [ih]
    rfl
theorem slices_IndexFunc__way_Check_1_eq (nf : Nat) (s : List Int) (f : List (List Int) × Unit) : runF tab (slices_IndexFunc__way_Check_1_phi nf) slices_IndexFunc__way_Check_1_keep nf [PT.val (Ty.int IntKind.i64).sl (Md.bor true false), PT.clo 58 [((Ty.int IntKind.i64).sl.sl, Md.bor true false)]] [(Ty.int IntKind.i64, Md.bor false true)] (resL (none) Try.f75) (codeOf Try.f75) ⟨s, f, ()⟩ = slices_IndexFunc__way_Check_1_f nf s f := by
  have h : runF tab (slices_IndexFunc__way_Check_1_phi nf) slices_IndexFunc__way_Check_1_keep nf [PT.val (Ty.int IntKind.i64).sl (Md.bor true false), PT.clo 58 [((Ty.int IntKind.i64).sl.sl, Md.bor true false)]] [(Ty.int IntKind.i64, Md.bor false true)] (resL (none) Try.f75) (codeOf Try.f75) ⟨s, f, ()⟩ = slices_IndexFunc__way_Check_1_p nf (fun p0 p1 v0 => iter nf (LC.F tab (slices_IndexFunc__way_Check_1_phi nf) (fun _ F => iter nf F) slices_IndexFunc__way_Check_1_keep 0 (slices_IndexFunc__way_Check_1_L0 nf)) (slices_IndexFunc__way_Check_1_m0 p0 p1 v0)) s f := by kernel_rfl
  rw [h]
  simp only [slices_IndexFunc__way_Check_1_e0]
  rfl
def slices_IndexFunc__way_Check_1_F (nf : Nat) (x : denPs [.val (.sl (.int .i64)) (.bor true false), .clo 58 [(.sl (.sl (.int .i64)), .bor true false)]]) : Option (denL [(.int .i64, .bor false true)]) := slices_IndexFunc__way_Check_1_f nf x.1 x.2.1
def slices_IndexFunc__way_Check_1_C (nf : Nat) : Contract := ⟨[.val (.sl (.int .i64)) (.bor true false), .clo 58 [(.sl (.sl (.int .i64)), .bor true false)]], [(.int .i64, .bor false true)], slices_IndexFunc__way_Check_1_F nf, none⟩
theorem slices_IndexFunc__way_Check_1_ok : FnOK Try.prog 75 := ⟨Try.f75, codeOf Try.f75, Try.func75, by kernel_rfl, by kernel_rfl⟩
theorem slices_IndexFunc__way_Check_1_holds (nf : Nat) : Contract.Holds Try.prog 75 (slices_IndexFunc__way_Check_1_C nf) :=
  fn_holds (Φ := slices_IndexFunc__way_Check_1_phi nf) (keep := slices_IndexFunc__way_Check_1_keep) (n := nf) ⟨tabs.1, tabs.2, (ctx_cons way_Check_1_ok (way_Check_1_holds nf) ctx_nil), mixed⟩ (fn := Try.f75) ⟨Try.func75, by kernel_rfl, by kernel_rfl, by kernel_rfl⟩ (fun x => slices_IndexFunc__way_Check_1_eq nf x.1 x.2.1)

/-! slices.ContainsFunc   int int  codemason way.Check 1 -/
def slices_ContainsFunc__way_Check_1_phi (nf : Nat) : Nat → Option Contract := lookC [(75, slices_IndexFunc__way_Check_1_C nf)]
def slices_ContainsFunc__way_Check_1_keep : Nat → List Nat := lookK []
def slices_ContainsFunc__way_Check_1_p (nf : Nat)  (s : List Int) (f : List (List Int) × Unit) : Option (Bool × Unit) :=
  Option.bind (slices_IndexFunc__way_Check_1_f nf s ((f.fst, ()))) fun r =>
  some ((decide (r.fst ≥ 0), ()))
def slices_ContainsFunc__way_Check_1_f (nf : Nat) (s : List Int) (f : List (List Int) × Unit) : Option (Bool × Unit) := slices_ContainsFunc__way_Check_1_p nf  s f
theorem slices_ContainsFunc__way_Check_1_eq (nf : Nat) (s : List Int) (f : List (List Int) × Unit) : runF tab (slices_ContainsFunc__way_Check_1_phi nf) slices_ContainsFunc__way_Check_1_keep nf [PT.val (Ty.int IntKind.i64).sl (Md.bor true false), PT.clo 58 [((Ty.int IntKind.i64).sl.sl, Md.bor true false)]] [(Ty.bool, Md.bor false true)] (resL (none) Try.f57) (codeOf Try.f57) ⟨s, f, ()⟩ = slices_ContainsFunc__way_Check_1_f nf s f := by
  have h : runF tab (slices_ContainsFunc__way_Check_1_phi nf) slices_ContainsFunc__way_Check_1_keep nf [PT.val (Ty.int IntKind.i64).sl (Md.bor true false), PT.clo 58 [((Ty.int IntKind.i64).sl.sl, Md.bor true false)]] [(Ty.bool, Md.bor false true)] (resL (none) Try.f57) (codeOf Try.f57) ⟨s, f, ()⟩ = slices_ContainsFunc__way_Check_1_p nf  s f := by kernel_rfl
  exact h
def slices_ContainsFunc__way_Check_1_F (nf : Nat) (x : denPs [.val (.sl (.int .i64)) (.bor true false), .clo 58 [(.sl (.sl (.int .i64)), .bor true false)]]) : Option (denL [(.bool, .bor false true)]) := slices_ContainsFunc__way_Check_1_f nf x.1 x.2.1
def slices_ContainsFunc__way_Check_1_C (nf : Nat) : Contract := ⟨[.val (.sl (.int .i64)) (.bor true false), .clo 58 [(.sl (.sl (.int .i64)), .bor true false)]], [(.bool, .bor false true)], slices_ContainsFunc__way_Check_1_F nf, none⟩
theorem slices_ContainsFunc__way_Check_1_ok : FnOK Try.prog 57 := ⟨Try.f57, codeOf Try.f57, Try.func57, by kernel_rfl, by kernel_rfl⟩
theorem slices_ContainsFunc__way_Check_1_holds (nf : Nat) : Contract.Holds Try.prog 57 (slices_ContainsFunc__way_Check_1_C nf) :=
  fn_holds (Φ := slices_ContainsFunc__way_Check_1_phi nf) (keep := slices_ContainsFunc__way_Check_1_keep) (n := nf) ⟨tabs.1, tabs.2, (ctx_cons slices_IndexFunc__way_Check_1_ok (slices_IndexFunc__way_Check_1_holds nf) ctx_nil), mixed⟩ (fn := Try.f57) ⟨Try.func57, by kernel_rfl, by kernel_rfl, by kernel_rfl⟩ (fun x => slices_ContainsFunc__way_Check_1_eq nf x.1 x.2.1)

/-! codemason way.Check -/
def way_Check_phi (nf : Nat) : Nat → Option Contract := lookC [(57, slices_ContainsFunc__way_Check_1_C nf)]
def way_Check_keep : Nat → List Nat := lookK [(0, [0, 1, 13, 14, 15])]
def way_Check_b0 (nf : Nat) (next : List (List Int)) (g0 : List (List Int) → Int → Option (Int × Unit)) (next2 : List (List Int)) (t15 : Int) : Option (Int × Unit) :=
  bif decide (t15 < (↑next.length : Int)) then
    bif inb t15 next.length then
      bif decide ((↑(List.length (next.getD t15.toNat [])) : Int) > 3) then
        some ((1, ()))
      else
        Option.bind (slices_ContainsFunc__way_Check_1_f nf (next.getD t15.toNat []) ((next2, ()))) fun r =>
        bif r.fst then
          some ((2, ()))
        else
          g0 next2 (IntKind.i64.wrap (t15 + 1))
    else
      none
  else
    some ((0, ()))
def way_Check_p (nf : Nat) (l0 : List (List Int) → List (List Int) → Int → Option (Int × Unit)) (next : List (List Int)) : Option (Int × Unit) :=
  bif decide ((↑next.length : Int) < 1) then
    some ((1, ()))
  else
    bif decide ((↑next.length : Int) > 8) then
      some ((1, ()))
    else
      l0 next next 0
def way_Check_l0 (nf : Nat) (next : List (List Int)) : Nat → List (List Int) → Int → Option (Int × Unit)
  | 0, _, _ => none
  | fu + 1, next2, t15 => way_Check_b0 nf  next  (way_Check_l0 nf next  fu) next2 t15
def way_Check_f (nf : Nat) (next : List (List Int)) : Option (Int × Unit) := way_Check_p nf (fun p0 v0 v1 => way_Check_l0 nf p0 nf v0 v1) next
noncomputable def way_Check_L0 (nf : Nat) : LC (Int × Unit) := theL (findL tab (way_Check_phi nf) (fun _ F => iter nf F) way_Check_keep 0 0 (codeOf Try.f20) (fin tab [(Ty.int IntKind.i64, Md.bor false true)] (resL (none) Try.f20)) (fun _ _ => none) (fin tab [(Ty.int IntKind.i64, Md.bor false true)] (resL (none) Try.f20)))
def way_Check_m0 (next : List (List Int)) (next2 : List (List Int)) (t15 : Int) : St := ⟨fresh, [(0, AV.v (Ty.int IntKind.i64).sl.sl (Md.bor true false) next), (1, AV.box 1 500001 (Ty.int IntKind.i64).sl.sl (Md.bor true false) next2), (13, AV.v (Ty.int IntKind.i64).sl.sl (Md.bor true false) next), (14, AV.v (Ty.int IntKind.i64) (Md.bor false true) (↑next.length : Int)), (15, AV.v (Ty.int IntKind.i64) (Md.bor false true) t15)]⟩
theorem way_Check_h0 (nf : Nat)  (next : List (List Int)) (fu : Nat) (next2 : List (List Int)) (t15 : Int) : iter (fu + 1) (LC.F tab (way_Check_phi nf) (fun _ F => iter nf F) way_Check_keep 0 (way_Check_L0 nf )) (way_Check_m0 next next2 t15) = way_Check_b0 nf  next  (fun next2 t15 => iter fu (LC.F tab (way_Check_phi nf) (fun _ F => iter nf F) way_Check_keep 0 (way_Check_L0 nf )) (way_Check_m0 next next2 t15)) next2 t15 := by kernel_rfl
theorem way_Check_e0 (nf : Nat)  (next : List (List Int)) : ∀ (fu : Nat) (next2 : List (List Int)) (t15 : Int), iter fu (LC.F tab (way_Check_phi nf) (fun _ F => iter nf F) way_Check_keep 0 (way_Check_L0 nf )) (way_Check_m0 next next2 t15) = way_Check_l0 nf next  fu next2 t15 := by
  intro fu
  induction fu with
  | zero => intros; rfl
  | succ fu ih =>
    intro next2 t15
    rw [way_Check_h0 nf  next fu next2 t15]
    simp only [ih]
    rfl
theorem way_Check_eq (nf : Nat) (next : List (List Int)) : runF tab (way_Check_phi nf) way_Check_keep nf [PT.val (Ty.int IntKind.i64).sl.sl (Md.bor true false)] [(Ty.int IntKind.i64, Md.bor false true)] (resL (none) Try.f20) (codeOf Try.f20) ⟨next, ()⟩ = way_Check_f nf next := by
  have h : runF tab (way_Check_phi nf) way_Check_keep nf [PT.val (Ty.int IntKind.i64).sl.sl (Md.bor true false)] [(Ty.int IntKind.i64, Md.bor false true)] (resL (none) Try.f20) (codeOf Try.f20) ⟨next, ()⟩ = way_Check_p nf (fun p0 v0 v1 => iter nf (LC.F tab (way_Check_phi nf) (fun _ F => iter nf F) way_Check_keep 0 (way_Check_L0 nf)) (way_Check_m0 p0 v0 v1)) next := by kernel_rfl
  rw [h]
  simp only [way_Check_e0]
  rfl
def way_Check_F (nf : Nat) (x : denPs [.val (.sl (.sl (.int .i64))) (.bor true false)]) : Option (denL [(.int .i64, .bor false true)]) := way_Check_f nf x.1
def way_Check_C (nf : Nat) : Contract := ⟨[.val (.sl (.sl (.int .i64))) (.bor true false)], [(.int .i64, .bor false true)], way_Check_F nf, none⟩
theorem way_Check_ok : FnOK Try.prog 20 := ⟨Try.f20, codeOf Try.f20, Try.func20, by kernel_rfl, by kernel_rfl⟩
theorem way_Check_holds (nf : Nat) : Contract.Holds Try.prog 20 (way_Check_C nf) :=
  fn_holds (Φ := way_Check_phi nf) (keep := way_Check_keep) (n := nf) ⟨tabs.1, tabs.2, (ctx_cons slices_ContainsFunc__way_Check_1_ok (slices_ContainsFunc__way_Check_1_holds nf) ctx_nil), mixed⟩ (fn := Try.f20) ⟨Try.func20, by kernel_rfl, by kernel_rfl, by kernel_rfl⟩ (fun x => way_Check_eq nf x.1)

/-! codemason codemasonref.Inside -/
def ref_Inside_phi (nf : Nat) : Nat → Option Contract := lookC []
def ref_Inside_keep : Nat → List Nat := lookK [(0, [0, 1, 7, 8, 9])]
def ref_Inside_b0 (nf : Nat) (n' : Int) (l' : List Int) (g0 : Int → Option (Bool × Unit)) (t9 : Int) : Option (Bool × Unit) :=
  bif decide (t9 < (↑l'.length : Int)) then
    bif inb t9 l'.length then
      bif decide (l'.getD t9.toNat 0 < 0) then
        some ((false, ()))
      else
        bif decide (l'.getD t9.toNat 0 ≥ n') then
          some ((false, ()))
        else
          g0 (IntKind.i64.wrap (t9 + 1))
    else
      none
  else
    some ((true, ()))
def ref_Inside_p (nf : Nat) (l0 : Int → List Int → Int → Option (Bool × Unit)) (n' : Int) (l' : List Int) : Option (Bool × Unit) :=
  l0 n' l' 0
def ref_Inside_l0 (nf : Nat) (n' : Int) (l' : List Int) : Nat → Int → Option (Bool × Unit)
  | 0, _ => none
  | fu + 1, t9 => ref_Inside_b0 nf  n' l'  (ref_Inside_l0 nf n' l'  fu) t9
def ref_Inside_f (nf : Nat) (n' : Int) (l' : List Int) : Option (Bool × Unit) := ref_Inside_p nf (fun p0 p1 v0 => ref_Inside_l0 nf p0 p1 nf v0) n' l'
noncomputable def ref_Inside_L0 (nf : Nat) : LC (Bool × Unit) := theL (findL tab (ref_Inside_phi nf) (fun _ F => iter nf F) ref_Inside_keep 0 0 (codeOf Try.f56) (fin tab [(Ty.bool, Md.bor false true)] (resL (none) Try.f56)) (fun _ _ => none) (fin tab [(Ty.bool, Md.bor false true)] (resL (none) Try.f56)))
def ref_Inside_m0 (n' : Int) (l' : List Int) (t9 : Int) : St := ⟨fresh, [(0, AV.v (Ty.int IntKind.i64) (Md.bor false true) n'), (1, AV.v (Ty.int IntKind.i64).sl (Md.bor true false) l'), (7, AV.v (Ty.int IntKind.i64).sl (Md.bor true false) l'), (8, AV.v (Ty.int IntKind.i64) (Md.bor false true) (↑l'.length : Int)), (9, AV.v (Ty.int IntKind.i64) (Md.bor false true) t9)]⟩
theorem ref_Inside_h0 (nf : Nat)  (n' : Int) (l' : List Int) (fu : Nat) (t9 : Int) : iter (fu + 1) (LC.F tab (ref_Inside_phi nf) (fun _ F => iter nf F) ref_Inside_keep 0 (ref_Inside_L0 nf )) (ref_Inside_m0 n' l' t9) = ref_Inside_b0 nf  n' l'  (fun t9 => iter fu (LC.F tab (ref_Inside_phi nf) (fun _ F => iter nf F) ref_Inside_keep 0 (ref_Inside_L0 nf )) (ref_Inside_m0 n' l' t9)) t9 := by kernel_rfl
theorem ref_Inside_e0 (nf : Nat)  (n' : Int) (l' : List Int) : ∀ (fu : Nat) (t9 : Int), iter fu (LC.F tab (ref_Inside_phi nf) (fun _ F => iter nf F) ref_Inside_keep 0 (ref_Inside_L0 nf )) (ref_Inside_m0 n' l' t9) = ref_Inside_l0 nf n' l'  fu t9 := by
  intro fu
  induction fu with
  | zero => intros; rfl
  | succ fu ih =>
    intro t9
    rw [ref_Inside_h0 nf  n' l' fu t9]
    simp only [ih]
    rfl
theorem ref_Inside_eq (nf : Nat) (n' : Int) (l' : List Int) : runF tab (ref_Inside_phi nf) ref_Inside_keep nf [PT.val (Ty.int IntKind.i64) (Md.bor true false), PT.val (Ty.int IntKind.i64).sl (Md.bor true false)] [(Ty.bool, Md.bor false true)] (resL (none) Try.f56) (codeOf Try.f56) ⟨n', l', ()⟩ = ref_Inside_f nf n' l' := by
  have h : runF tab (ref_Inside_phi nf) ref_Inside_keep nf [PT.val (Ty.int IntKind.i64) (Md.bor true false), PT.val (Ty.int IntKind.i64).sl (Md.bor true false)] [(Ty.bool, Md.bor false true)] (resL (none) Try.f56) (codeOf Try.f56) ⟨n', l', ()⟩ = ref_Inside_p nf (fun p0 p1 v0 => iter nf (LC.F tab (ref_Inside_phi nf) (fun _ F => iter nf F) ref_Inside_keep 0 (ref_Inside_L0 nf)) (ref_Inside_m0 p0 p1 v0)) n' l' := by kernel_rfl
  rw [h]
  simp only [ref_Inside_e0]
  rfl
def ref_Inside_F (nf : Nat) (x : denPs [.val (.int .i64) (.bor true false), .val (.sl (.int .i64)) (.bor true false)]) : Option (denL [(.bool, .bor false true)]) := ref_Inside_f nf x.1 x.2.1
def ref_Inside_C (nf : Nat) : Contract := ⟨[.val (.int .i64) (.bor true false), .val (.sl (.int .i64)) (.bor true false)], [(.bool, .bor false true)], ref_Inside_F nf, none⟩
theorem ref_Inside_ok : FnOK Try.prog 56 := ⟨Try.f56, codeOf Try.f56, Try.func56, by kernel_rfl, by kernel_rfl⟩
theorem ref_Inside_holds (nf : Nat) : Contract.Holds Try.prog 56 (ref_Inside_C nf) :=
  fn_holds (Φ := ref_Inside_phi nf) (keep := ref_Inside_keep) (n := nf) ⟨tabs.1, tabs.2, ctx_nil, mixed⟩ (fn := Try.f56) ⟨Try.func56, by kernel_rfl, by kernel_rfl, by kernel_rfl⟩ (fun x => ref_Inside_eq nf x.1 x.2.1)

/-! codemason codemasonref.WayCheck -/
def ref_WayCheck_phi (nf : Nat) : Nat → Option Contract := lookC [(56, ref_Inside_C nf)]
def ref_WayCheck_keep : Nat → List Nat := lookK [(0, [0, 13, 14, 15])]
def ref_WayCheck_b0 (nf : Nat) (next : List (List Int)) (g0 : Int → Option (Int × Unit)) (t15 : Int) : Option (Int × Unit) :=
  bif decide (t15 < (↑next.length : Int)) then
    bif inb t15 next.length then
      bif decide ((↑(List.length (next.getD t15.toNat [])) : Int) > 3) then
        some ((1, ()))
      else
        Option.bind (ref_Inside_f nf ((↑next.length : Int)) (next.getD t15.toNat [])) fun r =>
        bif !r.fst then
          some ((2, ()))
        else
          g0 (IntKind.i64.wrap (t15 + 1))
    else
      none
  else
    some ((0, ()))
def ref_WayCheck_p (nf : Nat) (l0 : List (List Int) → Int → Option (Int × Unit)) (next : List (List Int)) : Option (Int × Unit) :=
  bif decide ((↑next.length : Int) < 1) then
    some ((1, ()))
  else
    bif decide ((↑next.length : Int) > 8) then
      some ((1, ()))
    else
      l0 next 0
def ref_WayCheck_l0 (nf : Nat) (next : List (List Int)) : Nat → Int → Option (Int × Unit)
  | 0, _ => none
  | fu + 1, t15 => ref_WayCheck_b0 nf  next  (ref_WayCheck_l0 nf next  fu) t15
def ref_WayCheck_f (nf : Nat) (next : List (List Int)) : Option (Int × Unit) := ref_WayCheck_p nf (fun p0 v0 => ref_WayCheck_l0 nf p0 nf v0) next
noncomputable def ref_WayCheck_L0 (nf : Nat) : LC (Int × Unit) := theL (findL tab (ref_WayCheck_phi nf) (fun _ F => iter nf F) ref_WayCheck_keep 0 0 (codeOf Try.f21) (fin tab [(Ty.int IntKind.i64, Md.bor false true)] (resL (none) Try.f21)) (fun _ _ => none) (fin tab [(Ty.int IntKind.i64, Md.bor false true)] (resL (none) Try.f21)))
def ref_WayCheck_m0 (next : List (List Int)) (t15 : Int) : St := ⟨fresh, [(0, AV.v (Ty.int IntKind.i64).sl.sl (Md.bor true false) next), (13, AV.v (Ty.int IntKind.i64).sl.sl (Md.bor true false) next), (14, AV.v (Ty.int IntKind.i64) (Md.bor false true) (↑next.length : Int)), (15, AV.v (Ty.int IntKind.i64) (Md.bor false true) t15)]⟩
theorem ref_WayCheck_h0 (nf : Nat)  (next : List (List Int)) (fu : Nat) (t15 : Int) : iter (fu + 1) (LC.F tab (ref_WayCheck_phi nf) (fun _ F => iter nf F) ref_WayCheck_keep 0 (ref_WayCheck_L0 nf )) (ref_WayCheck_m0 next t15) = ref_WayCheck_b0 nf  next  (fun t15 => iter fu (LC.F tab (ref_WayCheck_phi nf) (fun _ F => iter nf F) ref_WayCheck_keep 0 (ref_WayCheck_L0 nf )) (ref_WayCheck_m0 next t15)) t15 := by kernel_rfl
theorem ref_WayCheck_e0 (nf : Nat)  (next : List (List Int)) : ∀ (fu : Nat) (t15 : Int), iter fu (LC.F tab (ref_WayCheck_phi nf) (fun _ F => iter nf F) ref_WayCheck_keep 0 (ref_WayCheck_L0 nf )) (ref_WayCheck_m0 next t15) = ref_WayCheck_l0 nf next  fu t15 := by
  intro fu
  induction fu with
  | zero => intros; rfl
  | succ fu ih =>
    intro t15
    rw [ref_WayCheck_h0 nf  next fu t15]
    simp only [ih]
    rfl
theorem ref_WayCheck_eq (nf : Nat) (next : List (List Int)) : runF tab (ref_WayCheck_phi nf) ref_WayCheck_keep nf [PT.val (Ty.int IntKind.i64).sl.sl (Md.bor true false)] [(Ty.int IntKind.i64, Md.bor false true)] (resL (none) Try.f21) (codeOf Try.f21) ⟨next, ()⟩ = ref_WayCheck_f nf next := by
  have h : runF tab (ref_WayCheck_phi nf) ref_WayCheck_keep nf [PT.val (Ty.int IntKind.i64).sl.sl (Md.bor true false)] [(Ty.int IntKind.i64, Md.bor false true)] (resL (none) Try.f21) (codeOf Try.f21) ⟨next, ()⟩ = ref_WayCheck_p nf (fun p0 v0 => iter nf (LC.F tab (ref_WayCheck_phi nf) (fun _ F => iter nf F) ref_WayCheck_keep 0 (ref_WayCheck_L0 nf)) (ref_WayCheck_m0 p0 v0)) next := by kernel_rfl
  rw [h]
  simp only [ref_WayCheck_e0]
  rfl
def ref_WayCheck_F (nf : Nat) (x : denPs [.val (.sl (.sl (.int .i64))) (.bor true false)]) : Option (denL [(.int .i64, .bor false true)]) := ref_WayCheck_f nf x.1
def ref_WayCheck_C (nf : Nat) : Contract := ⟨[.val (.sl (.sl (.int .i64))) (.bor true false)], [(.int .i64, .bor false true)], ref_WayCheck_F nf, none⟩
theorem ref_WayCheck_ok : FnOK Try.prog 21 := ⟨Try.f21, codeOf Try.f21, Try.func21, by kernel_rfl, by kernel_rfl⟩
theorem ref_WayCheck_holds (nf : Nat) : Contract.Holds Try.prog 21 (ref_WayCheck_C nf) :=
  fn_holds (Φ := ref_WayCheck_phi nf) (keep := ref_WayCheck_keep) (n := nf) ⟨tabs.1, tabs.2, (ctx_cons ref_Inside_ok (ref_Inside_holds nf) ctx_nil), mixed⟩ (fn := Try.f21) ⟨Try.func21, by kernel_rfl, by kernel_rfl, by kernel_rfl⟩ (fun x => ref_WayCheck_eq nf x.1)

/-! codemason codemasonlaw.WayChecks -/
def law_WayChecks_phi (nf : Nat) : Nat → Option Contract := lookC [(20, way_Check_C nf), (21, ref_WayCheck_C nf)]
def law_WayChecks_keep : Nat → List Nat := lookK []
def law_WayChecks_p (nf : Nat)  (next : List (List Int)) : Option (Bool × Unit) :=
  Option.bind (way_Check_f nf next) fun r =>
  Option.bind (ref_WayCheck_f nf next) fun r2 =>
  some ((r.fst == r2.fst, ()))
def law_WayChecks_f (nf : Nat) (next : List (List Int)) : Option (Bool × Unit) := law_WayChecks_p nf  next
theorem law_WayChecks_eq (nf : Nat) (next : List (List Int)) : runF tab (law_WayChecks_phi nf) law_WayChecks_keep nf [PT.val (Ty.int IntKind.i64).sl.sl (Md.bor true false)] [(Ty.bool, Md.bor false true)] (resL (none) Try.f3) (codeOf Try.f3) ⟨next, ()⟩ = law_WayChecks_f nf next := by
  have h : runF tab (law_WayChecks_phi nf) law_WayChecks_keep nf [PT.val (Ty.int IntKind.i64).sl.sl (Md.bor true false)] [(Ty.bool, Md.bor false true)] (resL (none) Try.f3) (codeOf Try.f3) ⟨next, ()⟩ = law_WayChecks_p nf  next := by kernel_rfl
  exact h
def law_WayChecks_F (nf : Nat) (x : denPs [.val (.sl (.sl (.int .i64))) (.bor true false)]) : Option (denL [(.bool, .bor false true)]) := law_WayChecks_f nf x.1
def law_WayChecks_C (nf : Nat) : Contract := ⟨[.val (.sl (.sl (.int .i64))) (.bor true false)], [(.bool, .bor false true)], law_WayChecks_F nf, none⟩
theorem law_WayChecks_ok : FnOK Try.prog 3 := ⟨Try.f3, codeOf Try.f3, Try.func3, by kernel_rfl, by kernel_rfl⟩
theorem law_WayChecks_holds (nf : Nat) : Contract.Holds Try.prog 3 (law_WayChecks_C nf) :=
  fn_holds (Φ := law_WayChecks_phi nf) (keep := law_WayChecks_keep) (n := nf) ⟨tabs.1, tabs.2, (ctx_cons way_Check_ok (way_Check_holds nf) (ctx_cons ref_WayCheck_ok (ref_WayCheck_holds nf) ctx_nil)), mixed⟩ (fn := Try.f3) ⟨Try.func3, by kernel_rfl, by kernel_rfl, by kernel_rfl⟩ (fun x => law_WayChecks_eq nf x.1)

/-! codemason way.From -/
def way_From_phi (nf : Nat) : Nat → Option Contract := lookC []
def way_From_keep : Nat → List Nat := lookK [(2, [0, 2, 7, 8, 17, 21, 22, 23, 27, 28, 29, 30, 51]), (0, [0, 2, 7, 8, 17, 21, 22, 51])]
def way_From_b0 (nf : Nat) (l2 : List (List Int) → Int → List Int → Int → List Int → Int → Option (Int × Unit)) (next : List (List Int)) (without : Int) (g0 : Int → List Int → Option (Int × Unit)) (set' : Int) (queue : List Int) : Option (Int × Unit) :=
  bif decide ((↑queue.length : Int) > 0) then
    bif inb 0 queue.length then
      bif inb (queue.getD 0 0) next.length then
        l2 next without queue set' queue 0
      else
        none
    else
      none
  else
    some ((set', ()))
def way_From_b2 (nf : Nat) (next : List (List Int)) (without : Int) (queue : List Int) (g0 : Int → List Int → Option (Int × Unit)) (g2 : Int → List Int → Int → Option (Int × Unit)) (set'2 : Int) (queue2 : List Int) (t30 : Int) : Option (Int × Unit) :=
  bif decide (t30 < (↑(List.length (next.getD (Int.toNat (queue.getD 0 0)) [])) : Int)) then
    bif inb t30 (List.length (next.getD (Int.toNat (queue.getD 0 0)) [])) then
      bif List.getD (next.getD (Int.toNat (queue.getD 0 0)) []) t30.toNat 0 != without then
        bif decide (0 ≤ List.getD (next.getD (Int.toNat (queue.getD 0 0)) []) t30.toNat 0) then
          bif IntKind.u32.wrap (↑(BitVec.ofInt IntKind.u32.bits (shrI IntKind.u32 set'2 (List.getD (next.getD (Int.toNat (queue.getD 0 0)) []) t30.toNat 0)) &&& BitVec.ofInt IntKind.u32.bits 1).toNat : Int) == 0 then
            bif decide (0 ≤ List.getD (next.getD (Int.toNat (queue.getD 0 0)) []) t30.toNat 0) then
              bif bimp false ![List.getD (next.getD (Int.toNat (queue.getD 0 0)) []) t30.toNat 0].isEmpty && (queue2.length + [List.getD (next.getD (Int.toNat (queue.getD 0 0)) []) t30.toNat 0].length).ble lim then
                g2 (IntKind.u32.wrap (↑(BitVec.ofInt IntKind.u32.bits set'2 ||| BitVec.ofInt IntKind.u32.bits (shlI IntKind.u32 1 (List.getD (next.getD (Int.toNat (queue.getD 0 0)) []) t30.toNat 0))).toNat : Int)) (queue2 ++ [List.getD (next.getD (Int.toNat (queue.getD 0 0)) []) t30.toNat 0]) (IntKind.i64.wrap (t30 + 1))
              else
                none
            else
              none
          else
            g2 set'2 queue2 (IntKind.i64.wrap (t30 + 1))
        else
          none
      else
        g2 set'2 queue2 (IntKind.i64.wrap (t30 + 1))
    else
      none
  else
    bif decide (0 ≤ 1) && decide (1 ≤ (↑queue2.length : Int)) && decide ((↑queue2.length : Int) ≤ (↑queue2.length : Int)) then
      g0 set'2 (List.take ((↑queue2.length : Int) - 1).toNat (List.drop 1 queue2))
    else
      none
def way_From_p (nf : Nat) (l0 : List (List Int) → Int → Int → List Int → Option (Int × Unit)) (next : List (List Int)) (i : Int) (without : Int) : Option (Int × Unit) :=
  bif i == without then
    some ((0, ()))
  else
    bif decide (0 ≤ i) then
      l0 next without (shlI IntKind.u32 1 i) [i]
    else
      none
def way_From_l2 (nf : Nat) (next : List (List Int)) (without : Int) (queue : List Int) (g0 : Int → List Int → Option (Int × Unit)) : Nat → Int → List Int → Int → Option (Int × Unit)
  | 0, _, _, _ => none
  | fu + 1, set'2, queue2, t30 => way_From_b2 nf  next without queue g0 (way_From_l2 nf next without queue g0 fu) set'2 queue2 t30
def way_From_l0 (nf : Nat) (next : List (List Int)) (without : Int) : Nat → Int → List Int → Option (Int × Unit)
  | 0, _, _ => none
  | fu + 1, set', queue => way_From_b0 nf (fun _ _ p2 v0 v1 v2 => way_From_l2 nf next without p2 (fun set' queue => way_From_l0 nf next without  fu set' queue) nf v0 v1 v2) next without  (way_From_l0 nf next without  fu) set' queue
def way_From_f (nf : Nat) (next : List (List Int)) (i : Int) (without : Int) : Option (Int × Unit) := way_From_p nf (fun p0 p1 v0 v1 => way_From_l0 nf p0 p1 nf v0 v1) next i without
noncomputable def way_From_L0 (nf : Nat) : LC (Int × Unit) := theL (findL tab (way_From_phi nf) (fun _ F => iter nf F) way_From_keep 0 0 (codeOf Try.f59) (fin tab [(Ty.int IntKind.u32, Md.bor false true)] (resL (none) Try.f59)) (fun _ _ => none) (fin tab [(Ty.int IntKind.u32, Md.bor false true)] (resL (none) Try.f59)))
def way_From_m0 (next : List (List Int)) (without : Int) (set' : Int) (queue : List Int) : St := ⟨fresh, [(0, AV.v (Ty.int IntKind.i64).sl.sl (Md.bor true false) next), (2, AV.v (Ty.int IntKind.i64) (Md.bor false true) without), (7, AV.v (Ty.int IntKind.u32) (Md.bor false true) set'), (8, AV.ow 500008 (Ty.int IntKind.i64).sl (Md.own false (Md.bor false false)) queue), (17, AV.dead), (21, AV.dead), (22, AV.dead), (51, AV.dead)]⟩
noncomputable def way_From_L2 (nf : Nat) (G0 : St → Option (Int × Unit)) : LC (Int × Unit) := theL (findL tab (way_From_phi nf) (fun _ F => iter nf F) way_From_keep 2 0 (way_From_L0 nf ).c (fun st => norm (way_From_keep 0) st G0) (way_From_L0 nf ).Kx (way_From_L0 nf ).Kr)
def way_From_m2 (next : List (List Int)) (without : Int) (queue : List Int) (set'2 : Int) (queue2 : List Int) (t30 : Int) : St := ⟨fresh, [(0, AV.v (Ty.int IntKind.i64).sl.sl (Md.bor true false) next), (2, AV.v (Ty.int IntKind.i64) (Md.bor false true) without), (7, AV.v (Ty.int IntKind.u32) (Md.bor false true) set'2), (8, AV.ow 500008 (Ty.int IntKind.i64).sl (Md.own false (Md.bor false false)) queue2), (17, AV.dead), (21, AV.dead), (22, AV.dead), (23, AV.v (Ty.int IntKind.i64).sl.sl (Md.bor true false) next), (27, AV.rop (Ty.int IntKind.i64).sl (Md.bor true false) (next.getD (Int.toNat (queue.getD 0 0)) [])), (28, AV.v (Ty.int IntKind.i64).sl (Md.bor true false) (next.getD (Int.toNat (queue.getD 0 0)) [])), (29, AV.v (Ty.int IntKind.i64) (Md.bor false true) (↑(List.length (next.getD (Int.toNat (queue.getD 0 0)) [])) : Int)), (30, AV.v (Ty.int IntKind.i64) (Md.bor false true) t30), (51, AV.dead)]⟩
theorem way_From_h2 (nf : Nat) (G0 : St → Option (Int × Unit)) (next : List (List Int)) (without : Int) (queue : List Int) (fu : Nat) (set'2 : Int) (queue2 : List Int) (t30 : Int) : iter (fu + 1) (LC.F tab (way_From_phi nf) (fun _ F => iter nf F) way_From_keep 2 (way_From_L2 nf G0)) (way_From_m2 next without queue set'2 queue2 t30) = way_From_b2 nf  next without queue (fun set' queue => G0 (way_From_m0 next without set' queue)) (fun set'2 queue2 t30 => iter fu (LC.F tab (way_From_phi nf) (fun _ F => iter nf F) way_From_keep 2 (way_From_L2 nf G0)) (way_From_m2 next without queue set'2 queue2 t30)) set'2 queue2 t30 := by kernel_rfl
theorem way_From_e2 (nf : Nat) (G0 : St → Option (Int × Unit)) (next : List (List Int)) (without : Int) (queue : List Int) : ∀ (fu : Nat) (set'2 : Int) (queue2 : List Int) (t30 : Int), iter fu (LC.F tab (way_From_phi nf) (fun _ F => iter nf F) way_From_keep 2 (way_From_L2 nf G0)) (way_From_m2 next without queue set'2 queue2 t30) = way_From_l2 nf next without queue (fun set' queue => G0 (way_From_m0 next without set' queue)) fu set'2 queue2 t30 := by
  intro fu
  induction fu with
  | zero => intros; rfl
  | succ fu ih =>
    intro set'2 queue2 t30
    rw [way_From_h2 nf G0 next without queue fu set'2 queue2 t30]
    simp only [ih]
    rfl
theorem way_From_h0 (nf : Nat)  (next : List (List Int)) (without : Int) (fu : Nat) (set' : Int) (queue : List Int) : iter (fu + 1) (LC.F tab (way_From_phi nf) (fun _ F => iter nf F) way_From_keep 0 (way_From_L0 nf )) (way_From_m0 next without set' queue) = way_From_b0 nf (fun _ _ p2 v0 v1 v2 => iter nf (LC.F tab (way_From_phi nf) (fun _ F => iter nf F) way_From_keep 2 (way_From_L2 nf (iter fu (LC.F tab (way_From_phi nf) (fun _ F => iter nf F) way_From_keep 0 (way_From_L0 nf ))))) (way_From_m2 next without p2 v0 v1 v2)) next without  (fun set' queue => iter fu (LC.F tab (way_From_phi nf) (fun _ F => iter nf F) way_From_keep 0 (way_From_L0 nf )) (way_From_m0 next without set' queue)) set' queue := by kernel_rfl
theorem way_From_e0 (nf : Nat)  (next : List (List Int)) (without : Int) : ∀ (fu : Nat) (set' : Int) (queue : List Int), iter fu (LC.F tab (way_From_phi nf) (fun _ F => iter nf F) way_From_keep 0 (way_From_L0 nf )) (way_From_m0 next without set' queue) = way_From_l0 nf next without  fu set' queue := by
  intro fu
  induction fu with
  | zero => intros; rfl
  | succ fu ih =>
    intro set' queue
    rw [way_From_h0 nf  next without fu set' queue]
    simp only [ih, way_From_e2]
    rfl
theorem way_From_eq (nf : Nat) (next : List (List Int)) (i : Int) (without : Int) : runF tab (way_From_phi nf) way_From_keep nf [PT.val (Ty.int IntKind.i64).sl.sl (Md.bor true false), PT.val (Ty.int IntKind.i64) (Md.bor true false), PT.val (Ty.int IntKind.i64) (Md.bor true false)] [(Ty.int IntKind.u32, Md.bor false true)] (resL (none) Try.f59) (codeOf Try.f59) ⟨next, i, without, ()⟩ = way_From_f nf next i without := by
  have h : runF tab (way_From_phi nf) way_From_keep nf [PT.val (Ty.int IntKind.i64).sl.sl (Md.bor true false), PT.val (Ty.int IntKind.i64) (Md.bor true false), PT.val (Ty.int IntKind.i64) (Md.bor true false)] [(Ty.int IntKind.u32, Md.bor false true)] (resL (none) Try.f59) (codeOf Try.f59) ⟨next, i, without, ()⟩ = way_From_p nf (fun p0 p1 v0 v1 => iter nf (LC.F tab (way_From_phi nf) (fun _ F => iter nf F) way_From_keep 0 (way_From_L0 nf)) (way_From_m0 p0 p1 v0 v1)) next i without := by kernel_rfl
  rw [h]
  simp only [way_From_e0]
  rfl
def way_From_F (nf : Nat) (x : denPs [.val (.sl (.sl (.int .i64))) (.bor true false), .val (.int .i64) (.bor true false), .val (.int .i64) (.bor true false)]) : Option (denL [(.int .u32, .bor false true)]) := way_From_f nf x.1 x.2.1 x.2.2.1
def way_From_C (nf : Nat) : Contract := ⟨[.val (.sl (.sl (.int .i64))) (.bor true false), .val (.int .i64) (.bor true false), .val (.int .i64) (.bor true false)], [(.int .u32, .bor false true)], way_From_F nf, none⟩
theorem way_From_ok : FnOK Try.prog 59 := ⟨Try.f59, codeOf Try.f59, Try.func59, by kernel_rfl, by kernel_rfl⟩
theorem way_From_holds (nf : Nat) : Contract.Holds Try.prog 59 (way_From_C nf) :=
  fn_holds (Φ := way_From_phi nf) (keep := way_From_keep) (n := nf) ⟨tabs.1, tabs.2, ctx_nil, mixed⟩ (fn := Try.f59) ⟨Try.func59, by kernel_rfl, by kernel_rfl, by kernel_rfl⟩ (fun x => way_From_eq nf x.1 x.2.1 x.2.2.1)

/-! codemason way.Reach -/
def way_Reach_phi (nf : Nat) : Nat → Option Contract := lookC [(20, way_Check_C nf), (59, way_From_C nf)]
def way_Reach_keep : Nat → List Nat := lookK []
def way_Reach_p (nf : Nat)  (next : List (List Int)) : Option (Int × Int × Unit) :=
  Option.bind (way_Check_f nf next) fun r =>
  bif r.fst != 0 then
    some ((0, r.fst, ()))
  else
    Option.bind (way_From_f nf next 0 (-1)) fun r2 =>
    some ((r2.fst, 0, ()))
def way_Reach_f (nf : Nat) (next : List (List Int)) : Option (Int × Int × Unit) := way_Reach_p nf  next
theorem way_Reach_eq (nf : Nat) (next : List (List Int)) : runF tab (way_Reach_phi nf) way_Reach_keep nf [PT.val (Ty.int IntKind.i64).sl.sl (Md.bor true false)] [(Ty.int IntKind.u32, Md.bor false true), (Ty.int IntKind.i64, Md.bor false true)] (resL (none) Try.f22) (codeOf Try.f22) ⟨next, ()⟩ = way_Reach_f nf next := by
  have h : runF tab (way_Reach_phi nf) way_Reach_keep nf [PT.val (Ty.int IntKind.i64).sl.sl (Md.bor true false)] [(Ty.int IntKind.u32, Md.bor false true), (Ty.int IntKind.i64, Md.bor false true)] (resL (none) Try.f22) (codeOf Try.f22) ⟨next, ()⟩ = way_Reach_p nf  next := by kernel_rfl
  exact h
def way_Reach_F (nf : Nat) (x : denPs [.val (.sl (.sl (.int .i64))) (.bor true false)]) : Option (denL [(.int .u32, .bor false true), (.int .i64, .bor false true)]) := way_Reach_f nf x.1
def way_Reach_C (nf : Nat) : Contract := ⟨[.val (.sl (.sl (.int .i64))) (.bor true false)], [(.int .u32, .bor false true), (.int .i64, .bor false true)], way_Reach_F nf, none⟩
theorem way_Reach_ok : FnOK Try.prog 22 := ⟨Try.f22, codeOf Try.f22, Try.func22, by kernel_rfl, by kernel_rfl⟩
theorem way_Reach_holds (nf : Nat) : Contract.Holds Try.prog 22 (way_Reach_C nf) :=
  fn_holds (Φ := way_Reach_phi nf) (keep := way_Reach_keep) (n := nf) ⟨tabs.1, tabs.2, (ctx_cons way_Check_ok (way_Check_holds nf) (ctx_cons way_From_ok (way_From_holds nf) ctx_nil)), mixed⟩ (fn := Try.f22) ⟨Try.func22, by kernel_rfl, by kernel_rfl, by kernel_rfl⟩ (fun x => way_Reach_eq nf x.1)

/-! codemason codemasonref.Set -/
def ref_Set_phi (nf : Nat) : Nat → Option Contract := lookC []
def ref_Set_keep : Nat → List Nat := lookK [(0, [0, 3, 6, 7, 8])]
def ref_Set_b0 (nf : Nat) (l' : List Int) (g0 : Int → Int → Option (Int × Unit)) (s : Int) (t8 : Int) : Option (Int × Unit) :=
  bif decide (t8 < (↑l'.length : Int)) then
    bif inb t8 l'.length then
      bif decide (0 ≤ IntKind.u64.wrap (l'.getD t8.toNat 0)) then
        g0 (IntKind.u32.wrap (↑(BitVec.ofInt IntKind.u32.bits s ||| BitVec.ofInt IntKind.u32.bits (shlI IntKind.u32 1 (IntKind.u64.wrap (l'.getD t8.toNat 0)))).toNat : Int)) (IntKind.i64.wrap (t8 + 1))
      else
        none
    else
      none
  else
    some ((s, ()))
def ref_Set_p (nf : Nat) (l0 : List Int → Int → Int → Option (Int × Unit)) (l' : List Int) : Option (Int × Unit) :=
  l0 l' 0 0
def ref_Set_l0 (nf : Nat) (l' : List Int) : Nat → Int → Int → Option (Int × Unit)
  | 0, _, _ => none
  | fu + 1, s, t8 => ref_Set_b0 nf  l'  (ref_Set_l0 nf l'  fu) s t8
def ref_Set_f (nf : Nat) (l' : List Int) : Option (Int × Unit) := ref_Set_p nf (fun p0 v0 v1 => ref_Set_l0 nf p0 nf v0 v1) l'
noncomputable def ref_Set_L0 (nf : Nat) : LC (Int × Unit) := theL (findL tab (ref_Set_phi nf) (fun _ F => iter nf F) ref_Set_keep 0 0 (codeOf Try.f23) (fin tab [(Ty.int IntKind.u32, Md.bor false true)] (resL (none) Try.f23)) (fun _ _ => none) (fin tab [(Ty.int IntKind.u32, Md.bor false true)] (resL (none) Try.f23)))
def ref_Set_m0 (l' : List Int) (s : Int) (t8 : Int) : St := ⟨fresh, [(0, AV.v (Ty.int IntKind.i64).sl (Md.bor true false) l'), (3, AV.v (Ty.int IntKind.u32) (Md.bor false true) s), (6, AV.v (Ty.int IntKind.i64).sl (Md.bor true false) l'), (7, AV.v (Ty.int IntKind.i64) (Md.bor false true) (↑l'.length : Int)), (8, AV.v (Ty.int IntKind.i64) (Md.bor false true) t8)]⟩
theorem ref_Set_h0 (nf : Nat)  (l' : List Int) (fu : Nat) (s : Int) (t8 : Int) : iter (fu + 1) (LC.F tab (ref_Set_phi nf) (fun _ F => iter nf F) ref_Set_keep 0 (ref_Set_L0 nf )) (ref_Set_m0 l' s t8) = ref_Set_b0 nf  l'  (fun s t8 => iter fu (LC.F tab (ref_Set_phi nf) (fun _ F => iter nf F) ref_Set_keep 0 (ref_Set_L0 nf )) (ref_Set_m0 l' s t8)) s t8 := by kernel_rfl
theorem ref_Set_e0 (nf : Nat)  (l' : List Int) : ∀ (fu : Nat) (s : Int) (t8 : Int), iter fu (LC.F tab (ref_Set_phi nf) (fun _ F => iter nf F) ref_Set_keep 0 (ref_Set_L0 nf )) (ref_Set_m0 l' s t8) = ref_Set_l0 nf l'  fu s t8 := by
  intro fu
  induction fu with
  | zero => intros; rfl
  | succ fu ih =>
    intro s t8
    rw [ref_Set_h0 nf  l' fu s t8]
    simp only [ih]
    rfl
theorem ref_Set_eq (nf : Nat) (l' : List Int) : runF tab (ref_Set_phi nf) ref_Set_keep nf [PT.val (Ty.int IntKind.i64).sl (Md.bor true false)] [(Ty.int IntKind.u32, Md.bor false true)] (resL (none) Try.f23) (codeOf Try.f23) ⟨l', ()⟩ = ref_Set_f nf l' := by
  have h : runF tab (ref_Set_phi nf) ref_Set_keep nf [PT.val (Ty.int IntKind.i64).sl (Md.bor true false)] [(Ty.int IntKind.u32, Md.bor false true)] (resL (none) Try.f23) (codeOf Try.f23) ⟨l', ()⟩ = ref_Set_p nf (fun p0 v0 v1 => iter nf (LC.F tab (ref_Set_phi nf) (fun _ F => iter nf F) ref_Set_keep 0 (ref_Set_L0 nf)) (ref_Set_m0 p0 v0 v1)) l' := by kernel_rfl
  rw [h]
  simp only [ref_Set_e0]
  rfl
def ref_Set_F (nf : Nat) (x : denPs [.val (.sl (.int .i64)) (.bor true false)]) : Option (denL [(.int .u32, .bor false true)]) := ref_Set_f nf x.1
def ref_Set_C (nf : Nat) : Contract := ⟨[.val (.sl (.int .i64)) (.bor true false)], [(.int .u32, .bor false true)], ref_Set_F nf, none⟩
theorem ref_Set_ok : FnOK Try.prog 23 := ⟨Try.f23, codeOf Try.f23, Try.func23, by kernel_rfl, by kernel_rfl⟩
theorem ref_Set_holds (nf : Nat) : Contract.Holds Try.prog 23 (ref_Set_C nf) :=
  fn_holds (Φ := ref_Set_phi nf) (keep := ref_Set_keep) (n := nf) ⟨tabs.1, tabs.2, ctx_nil, mixed⟩ (fn := Try.f23) ⟨Try.func23, by kernel_rfl, by kernel_rfl, by kernel_rfl⟩ (fun x => ref_Set_eq nf x.1)

/-! codemason codemasonref.Has -/
def ref_Has_phi (nf : Nat) : Nat → Option Contract := lookC []
def ref_Has_keep : Nat → List Nat := lookK [(0, [0, 1, 7, 8, 9])]
def ref_Has_b0 (nf : Nat) (l' : List Int) (x : Int) (g0 : Int → Option (Bool × Unit)) (t9 : Int) : Option (Bool × Unit) :=
  bif decide (t9 < (↑l'.length : Int)) then
    bif inb t9 l'.length then
      bif x == l'.getD t9.toNat 0 then
        some ((true, ()))
      else
        g0 (IntKind.i64.wrap (t9 + 1))
    else
      none
  else
    some ((false, ()))
def ref_Has_p (nf : Nat) (l0 : List Int → Int → Int → Option (Bool × Unit)) (l' : List Int) (x : Int) : Option (Bool × Unit) :=
  l0 l' x 0
def ref_Has_l0 (nf : Nat) (l' : List Int) (x : Int) : Nat → Int → Option (Bool × Unit)
  | 0, _ => none
  | fu + 1, t9 => ref_Has_b0 nf  l' x  (ref_Has_l0 nf l' x  fu) t9
def ref_Has_f (nf : Nat) (l' : List Int) (x : Int) : Option (Bool × Unit) := ref_Has_p nf (fun p0 p1 v0 => ref_Has_l0 nf p0 p1 nf v0) l' x
noncomputable def ref_Has_L0 (nf : Nat) : LC (Bool × Unit) := theL (findL tab (ref_Has_phi nf) (fun _ F => iter nf F) ref_Has_keep 0 0 (codeOf Try.f28) (fin tab [(Ty.bool, Md.bor false true)] (resL (none) Try.f28)) (fun _ _ => none) (fin tab [(Ty.bool, Md.bor false true)] (resL (none) Try.f28)))
def ref_Has_m0 (l' : List Int) (x : Int) (t9 : Int) : St := ⟨fresh, [(0, AV.v (Ty.int IntKind.i64).sl (Md.bor true false) l'), (1, AV.v (Ty.int IntKind.i64) (Md.bor false true) x), (7, AV.v (Ty.int IntKind.i64).sl (Md.bor true false) l'), (8, AV.v (Ty.int IntKind.i64) (Md.bor false true) (↑l'.length : Int)), (9, AV.v (Ty.int IntKind.i64) (Md.bor false true) t9)]⟩
theorem ref_Has_h0 (nf : Nat)  (l' : List Int) (x : Int) (fu : Nat) (t9 : Int) : iter (fu + 1) (LC.F tab (ref_Has_phi nf) (fun _ F => iter nf F) ref_Has_keep 0 (ref_Has_L0 nf )) (ref_Has_m0 l' x t9) = ref_Has_b0 nf  l' x  (fun t9 => iter fu (LC.F tab (ref_Has_phi nf) (fun _ F => iter nf F) ref_Has_keep 0 (ref_Has_L0 nf )) (ref_Has_m0 l' x t9)) t9 := by kernel_rfl
theorem ref_Has_e0 (nf : Nat)  (l' : List Int) (x : Int) : ∀ (fu : Nat) (t9 : Int), iter fu (LC.F tab (ref_Has_phi nf) (fun _ F => iter nf F) ref_Has_keep 0 (ref_Has_L0 nf )) (ref_Has_m0 l' x t9) = ref_Has_l0 nf l' x  fu t9 := by
  intro fu
  induction fu with
  | zero => intros; rfl
  | succ fu ih =>
    intro t9
    rw [ref_Has_h0 nf  l' x fu t9]
    simp only [ih]
    rfl
theorem ref_Has_eq (nf : Nat) (l' : List Int) (x : Int) : runF tab (ref_Has_phi nf) ref_Has_keep nf [PT.val (Ty.int IntKind.i64).sl (Md.bor true false), PT.val (Ty.int IntKind.i64) (Md.bor true false)] [(Ty.bool, Md.bor false true)] (resL (none) Try.f28) (codeOf Try.f28) ⟨l', x, ()⟩ = ref_Has_f nf l' x := by
  have h : runF tab (ref_Has_phi nf) ref_Has_keep nf [PT.val (Ty.int IntKind.i64).sl (Md.bor true false), PT.val (Ty.int IntKind.i64) (Md.bor true false)] [(Ty.bool, Md.bor false true)] (resL (none) Try.f28) (codeOf Try.f28) ⟨l', x, ()⟩ = ref_Has_p nf (fun p0 p1 v0 => iter nf (LC.F tab (ref_Has_phi nf) (fun _ F => iter nf F) ref_Has_keep 0 (ref_Has_L0 nf)) (ref_Has_m0 p0 p1 v0)) l' x := by kernel_rfl
  rw [h]
  simp only [ref_Has_e0]
  rfl
def ref_Has_F (nf : Nat) (x : denPs [.val (.sl (.int .i64)) (.bor true false), .val (.int .i64) (.bor true false)]) : Option (denL [(.bool, .bor false true)]) := ref_Has_f nf x.1 x.2.1
def ref_Has_C (nf : Nat) : Contract := ⟨[.val (.sl (.int .i64)) (.bor true false), .val (.int .i64) (.bor true false)], [(.bool, .bor false true)], ref_Has_F nf, none⟩
theorem ref_Has_ok : FnOK Try.prog 28 := ⟨Try.f28, codeOf Try.f28, Try.func28, by kernel_rfl, by kernel_rfl⟩
theorem ref_Has_holds (nf : Nat) : Contract.Holds Try.prog 28 (ref_Has_C nf) :=
  fn_holds (Φ := ref_Has_phi nf) (keep := ref_Has_keep) (n := nf) ⟨tabs.1, tabs.2, ctx_nil, mixed⟩ (fn := Try.f28) ⟨Try.func28, by kernel_rfl, by kernel_rfl, by kernel_rfl⟩ (fun x => ref_Has_eq nf x.1 x.2.1)

/-! codemason codemasonref.Reach -/
def ref_Reach_phi (nf : Nat) : Nat → Option Contract := lookC [(28, ref_Has_C nf)]
def ref_Reach_keep : Nat → List Nat := lookK [(2, [0, 2, 7, 8, 15, 22, 27, 28, 29, 30, 46]), (0, [0, 2, 7, 8, 15, 46])]
def ref_Reach_b0 (nf : Nat) (l2 : List (List Int) → Int → Int → List Int → List Int → Int → Option (List Int × Unit)) (next : List (List Int)) (without : Int) (g0 : List Int → Int → Option (List Int × Unit)) (here : List Int) (k' : Int) : Option (List Int × Unit) :=
  bif decide (k' < (↑here.length : Int)) then
    bif inb k' here.length then
      bif inb (here.getD k'.toNat 0) next.length then
        l2 next without k' here here 0
      else
        none
    else
      none
  else
    some ((here, ()))
def ref_Reach_b2 (nf : Nat) (next : List (List Int)) (without : Int) (k' : Int) (here : List Int) (g0 : List Int → Int → Option (List Int × Unit)) (g2 : List Int → Int → Option (List Int × Unit)) (here2 : List Int) (t30 : Int) : Option (List Int × Unit) :=
  bif decide (t30 < (↑(List.length (next.getD (Int.toNat (here.getD k'.toNat 0)) [])) : Int)) then
    bif inb t30 (List.length (next.getD (Int.toNat (here.getD k'.toNat 0)) [])) then
      bif List.getD (next.getD (Int.toNat (here.getD k'.toNat 0)) []) t30.toNat 0 != without then
        Option.bind (ref_Has_f nf here2 (List.getD (next.getD (Int.toNat (here.getD k'.toNat 0)) []) t30.toNat 0)) fun r =>
        bif !r.fst then
          bif bimp false ![List.getD (next.getD (Int.toNat (here.getD k'.toNat 0)) []) t30.toNat 0].isEmpty && (here2.length + [List.getD (next.getD (Int.toNat (here.getD k'.toNat 0)) []) t30.toNat 0].length).ble lim then
            g2 (here2 ++ [List.getD (next.getD (Int.toNat (here.getD k'.toNat 0)) []) t30.toNat 0]) (IntKind.i64.wrap (t30 + 1))
          else
            none
        else
          g2 here2 (IntKind.i64.wrap (t30 + 1))
      else
        g2 here2 (IntKind.i64.wrap (t30 + 1))
    else
      none
  else
    g0 here2 (IntKind.i64.wrap (k' + 1))
def ref_Reach_p (nf : Nat) (l0 : List (List Int) → Int → List Int → Int → Option (List Int × Unit)) (next : List (List Int)) (i : Int) (without : Int) : Option (List Int × Unit) :=
  bif i == without then
    some (([], ()))
  else
    l0 next without [i] 0
def ref_Reach_l2 (nf : Nat) (next : List (List Int)) (without : Int) (k' : Int) (here : List Int) (g0 : List Int → Int → Option (List Int × Unit)) : Nat → List Int → Int → Option (List Int × Unit)
  | 0, _, _ => none
  | fu + 1, here2, t30 => ref_Reach_b2 nf  next without k' here g0 (ref_Reach_l2 nf next without k' here g0 fu) here2 t30
def ref_Reach_l0 (nf : Nat) (next : List (List Int)) (without : Int) : Nat → List Int → Int → Option (List Int × Unit)
  | 0, _, _ => none
  | fu + 1, here, k' => ref_Reach_b0 nf (fun _ _ p2 p3 v0 v1 => ref_Reach_l2 nf next without p2 p3 (fun here k' => ref_Reach_l0 nf next without  fu here k') nf v0 v1) next without  (ref_Reach_l0 nf next without  fu) here k'
def ref_Reach_f (nf : Nat) (next : List (List Int)) (i : Int) (without : Int) : Option (List Int × Unit) := ref_Reach_p nf (fun p0 p1 v0 v1 => ref_Reach_l0 nf p0 p1 nf v0 v1) next i without
noncomputable def ref_Reach_L0 (nf : Nat) : LC (List Int × Unit) := theL (findL tab (ref_Reach_phi nf) (fun _ F => iter nf F) ref_Reach_keep 0 0 (codeOf Try.f24) (fin tab [((Ty.int IntKind.i64).sl, Md.own false (Md.bor false false))] (resL (none) Try.f24)) (fun _ _ => none) (fin tab [((Ty.int IntKind.i64).sl, Md.own false (Md.bor false false))] (resL (none) Try.f24)))
def ref_Reach_m0 (next : List (List Int)) (without : Int) (here : List Int) (k' : Int) : St := ⟨fresh, [(0, AV.v (Ty.int IntKind.i64).sl.sl (Md.bor true false) next), (2, AV.v (Ty.int IntKind.i64) (Md.bor false true) without), (7, AV.ow 500007 (Ty.int IntKind.i64).sl (Md.own false (Md.bor false false)) here), (8, AV.v (Ty.int IntKind.i64) (Md.bor false true) k'), (15, AV.dead), (46, AV.dead)]⟩
noncomputable def ref_Reach_L2 (nf : Nat) (G0 : St → Option (List Int × Unit)) : LC (List Int × Unit) := theL (findL tab (ref_Reach_phi nf) (fun _ F => iter nf F) ref_Reach_keep 2 0 (ref_Reach_L0 nf ).c (fun st => norm (ref_Reach_keep 0) st G0) (ref_Reach_L0 nf ).Kx (ref_Reach_L0 nf ).Kr)
def ref_Reach_m2 (next : List (List Int)) (without : Int) (k' : Int) (here : List Int) (here2 : List Int) (t30 : Int) : St := ⟨fresh, [(0, AV.v (Ty.int IntKind.i64).sl.sl (Md.bor true false) next), (2, AV.v (Ty.int IntKind.i64) (Md.bor false true) without), (7, AV.ow 500007 (Ty.int IntKind.i64).sl (Md.own false (Md.bor false false)) here2), (8, AV.v (Ty.int IntKind.i64) (Md.bor false true) k'), (15, AV.dead), (22, AV.v (Ty.int IntKind.i64).sl.sl (Md.bor true false) next), (27, AV.rop (Ty.int IntKind.i64).sl (Md.bor true false) (next.getD (Int.toNat (here.getD k'.toNat 0)) [])), (28, AV.v (Ty.int IntKind.i64).sl (Md.bor true false) (next.getD (Int.toNat (here.getD k'.toNat 0)) [])), (29, AV.v (Ty.int IntKind.i64) (Md.bor false true) (↑(List.length (next.getD (Int.toNat (here.getD k'.toNat 0)) [])) : Int)), (30, AV.v (Ty.int IntKind.i64) (Md.bor false true) t30), (46, AV.dead)]⟩
theorem ref_Reach_h2 (nf : Nat) (G0 : St → Option (List Int × Unit)) (next : List (List Int)) (without : Int) (k' : Int) (here : List Int) (fu : Nat) (here2 : List Int) (t30 : Int) : iter (fu + 1) (LC.F tab (ref_Reach_phi nf) (fun _ F => iter nf F) ref_Reach_keep 2 (ref_Reach_L2 nf G0)) (ref_Reach_m2 next without k' here here2 t30) = ref_Reach_b2 nf  next without k' here (fun here k' => G0 (ref_Reach_m0 next without here k')) (fun here2 t30 => iter fu (LC.F tab (ref_Reach_phi nf) (fun _ F => iter nf F) ref_Reach_keep 2 (ref_Reach_L2 nf G0)) (ref_Reach_m2 next without k' here here2 t30)) here2 t30 := by kernel_rfl
theorem ref_Reach_e2 (nf : Nat) (G0 : St → Option (List Int × Unit)) (next : List (List Int)) (without : Int) (k' : Int) (here : List Int) : ∀ (fu : Nat) (here2 : List Int) (t30 : Int), iter fu (LC.F tab (ref_Reach_phi nf) (fun _ F => iter nf F) ref_Reach_keep 2 (ref_Reach_L2 nf G0)) (ref_Reach_m2 next without k' here here2 t30) = ref_Reach_l2 nf next without k' here (fun here k' => G0 (ref_Reach_m0 next without here k')) fu here2 t30 := by
  intro fu
  induction fu with
  | zero => intros; rfl
  | succ fu ih =>
    intro here2 t30
    rw [ref_Reach_h2 nf G0 next without k' here fu here2 t30]
    simp only [ih]
    rfl
theorem ref_Reach_h0 (nf : Nat)  (next : List (List Int)) (without : Int) (fu : Nat) (here : List Int) (k' : Int) : iter (fu + 1) (LC.F tab (ref_Reach_phi nf) (fun _ F => iter nf F) ref_Reach_keep 0 (ref_Reach_L0 nf )) (ref_Reach_m0 next without here k') = ref_Reach_b0 nf (fun _ _ p2 p3 v0 v1 => iter nf (LC.F tab (ref_Reach_phi nf) (fun _ F => iter nf F) ref_Reach_keep 2 (ref_Reach_L2 nf (iter fu (LC.F tab (ref_Reach_phi nf) (fun _ F => iter nf F) ref_Reach_keep 0 (ref_Reach_L0 nf ))))) (ref_Reach_m2 next without p2 p3 v0 v1)) next without  (fun here k' => iter fu (LC.F tab (ref_Reach_phi nf) (fun _ F => iter nf F) ref_Reach_keep 0 (ref_Reach_L0 nf )) (ref_Reach_m0 next without here k')) here k' := by kernel_rfl
theorem ref_Reach_e0 (nf : Nat)  (next : List (List Int)) (without : Int) : ∀ (fu : Nat) (here : List Int) (k' : Int), iter fu (LC.F tab (ref_Reach_phi nf) (fun _ F => iter nf F) ref_Reach_keep 0 (ref_Reach_L0 nf )) (ref_Reach_m0 next without here k') = ref_Reach_l0 nf next without  fu here k' := by
  intro fu
  induction fu with
  | zero => intros; rfl
  | succ fu ih =>
    intro here k'
    rw [ref_Reach_h0 nf  next without fu here k']
    simp only [ih, ref_Reach_e2]
    rfl
theorem ref_Reach_eq (nf : Nat) (next : List (List Int)) (i : Int) (without : Int) : runF tab (ref_Reach_phi nf) ref_Reach_keep nf [PT.val (Ty.int IntKind.i64).sl.sl (Md.bor true false), PT.val (Ty.int IntKind.i64) (Md.bor true false), PT.val (Ty.int IntKind.i64) (Md.bor true false)] [((Ty.int IntKind.i64).sl, Md.own false (Md.bor false false))] (resL (none) Try.f24) (codeOf Try.f24) ⟨next, i, without, ()⟩ = ref_Reach_f nf next i without := by
  have h : runF tab (ref_Reach_phi nf) ref_Reach_keep nf [PT.val (Ty.int IntKind.i64).sl.sl (Md.bor true false), PT.val (Ty.int IntKind.i64) (Md.bor true false), PT.val (Ty.int IntKind.i64) (Md.bor true false)] [((Ty.int IntKind.i64).sl, Md.own false (Md.bor false false))] (resL (none) Try.f24) (codeOf Try.f24) ⟨next, i, without, ()⟩ = ref_Reach_p nf (fun p0 p1 v0 v1 => iter nf (LC.F tab (ref_Reach_phi nf) (fun _ F => iter nf F) ref_Reach_keep 0 (ref_Reach_L0 nf)) (ref_Reach_m0 p0 p1 v0 v1)) next i without := by kernel_rfl
  rw [h]
  simp only [ref_Reach_e0]
  rfl
def ref_Reach_F (nf : Nat) (x : denPs [.val (.sl (.sl (.int .i64))) (.bor true false), .val (.int .i64) (.bor true false), .val (.int .i64) (.bor true false)]) : Option (denL [(.sl (.int .i64), .own false (.bor false false))]) := ref_Reach_f nf x.1 x.2.1 x.2.2.1
def ref_Reach_C (nf : Nat) : Contract := ⟨[.val (.sl (.sl (.int .i64))) (.bor true false), .val (.int .i64) (.bor true false), .val (.int .i64) (.bor true false)], [(.sl (.int .i64), .own false (.bor false false))], ref_Reach_F nf, none⟩
theorem ref_Reach_ok : FnOK Try.prog 24 := ⟨Try.f24, codeOf Try.f24, Try.func24, by kernel_rfl, by kernel_rfl⟩
theorem ref_Reach_holds (nf : Nat) : Contract.Holds Try.prog 24 (ref_Reach_C nf) :=
  fn_holds (Φ := ref_Reach_phi nf) (keep := ref_Reach_keep) (n := nf) ⟨tabs.1, tabs.2, (ctx_cons ref_Has_ok (ref_Has_holds nf) ctx_nil), mixed⟩ (fn := Try.f24) ⟨Try.func24, by kernel_rfl, by kernel_rfl, by kernel_rfl⟩ (fun x => ref_Reach_eq nf x.1 x.2.1 x.2.2.1)

/-! codemason codemasonlaw.WayReaches -/
def law_WayReaches_phi (nf : Nat) : Nat → Option Contract := lookC [(21, ref_WayCheck_C nf), (22, way_Reach_C nf), (23, ref_Set_C nf), (24, ref_Reach_C nf)]
def law_WayReaches_keep : Nat → List Nat := lookK []
def law_WayReaches_p (nf : Nat)  (next : List (List Int)) : Option (Bool × Unit) :=
  Option.bind (way_Reach_f nf next) fun r =>
  Option.bind (ref_WayCheck_f nf next) fun r2 =>
  bif r2.fst != 0 then
    bif r.snd.fst == r2.fst then
      some ((r.fst == 0, ()))
    else
      some ((false, ()))
  else
    bif r.snd.fst == 0 then
      Option.bind (ref_Reach_f nf next 0 (-1)) fun r3 =>
      Option.bind (ref_Set_f nf r3.fst) fun r4 =>
      some ((r.fst == r4.fst, ()))
    else
      some ((false, ()))
def law_WayReaches_f (nf : Nat) (next : List (List Int)) : Option (Bool × Unit) := law_WayReaches_p nf  next
theorem law_WayReaches_eq (nf : Nat) (next : List (List Int)) : runF tab (law_WayReaches_phi nf) law_WayReaches_keep nf [PT.val (Ty.int IntKind.i64).sl.sl (Md.bor true false)] [(Ty.bool, Md.bor false true)] (resL (none) Try.f4) (codeOf Try.f4) ⟨next, ()⟩ = law_WayReaches_f nf next := by
  have h : runF tab (law_WayReaches_phi nf) law_WayReaches_keep nf [PT.val (Ty.int IntKind.i64).sl.sl (Md.bor true false)] [(Ty.bool, Md.bor false true)] (resL (none) Try.f4) (codeOf Try.f4) ⟨next, ()⟩ = law_WayReaches_p nf  next := by kernel_rfl
  exact h
def law_WayReaches_F (nf : Nat) (x : denPs [.val (.sl (.sl (.int .i64))) (.bor true false)]) : Option (denL [(.bool, .bor false true)]) := law_WayReaches_f nf x.1
def law_WayReaches_C (nf : Nat) : Contract := ⟨[.val (.sl (.sl (.int .i64))) (.bor true false)], [(.bool, .bor false true)], law_WayReaches_F nf, none⟩
theorem law_WayReaches_ok : FnOK Try.prog 4 := ⟨Try.f4, codeOf Try.f4, Try.func4, by kernel_rfl, by kernel_rfl⟩
theorem law_WayReaches_holds (nf : Nat) : Contract.Holds Try.prog 4 (law_WayReaches_C nf) :=
  fn_holds (Φ := law_WayReaches_phi nf) (keep := law_WayReaches_keep) (n := nf) ⟨tabs.1, tabs.2, (ctx_cons ref_WayCheck_ok (ref_WayCheck_holds nf) (ctx_cons way_Reach_ok (way_Reach_holds nf) (ctx_cons ref_Set_ok (ref_Set_holds nf) (ctx_cons ref_Reach_ok (ref_Reach_holds nf) ctx_nil)))), mixed⟩ (fn := Try.f4) ⟨Try.func4, by kernel_rfl, by kernel_rfl, by kernel_rfl⟩ (fun x => law_WayReaches_eq nf x.1)

/-! codemason way.Parts -/
def way_Parts_phi (nf : Nat) : Nat → Option Contract := lookC [(20, way_Check_C nf), (59, way_From_C nf)]
def way_Parts_keep : Nat → List Nat := lookK [(4, [0, 5, 6, 8, 9, 26, 29, 30, 34, 35, 60]), (2, [0, 5, 6, 26, 29, 30, 60]), (0, [0, 5, 6, 17, 18, 26, 60])]
def way_Parts_b0 (nf : Nat) (l2 : List (List Int) → List Int → List Int → Int → Option (List Int × Int × Unit)) (next : List (List Int)) (g0 : List Int → List Int → Int → Option (List Int × Int × Unit)) (from' : List Int) (l' : List Int) (t18 : Int) : Option (List Int × Int × Unit) :=
  bif decide (t18 < (↑next.length : Int)) then
    Option.bind (way_From_f nf next t18 (-1)) fun r2 =>
    bif bimp false ![r2.fst].isEmpty && (from'.length + [r2.fst].length).ble lim then
      g0 (from' ++ [r2.fst]) l' (IntKind.i64.wrap (t18 + 1))
    else
      none
  else
    l2 next from' l' 0
def way_Parts_b2 (nf : Nat) (l4 : List (List Int) → Int → List Int → List Int → Int → Int → Option (List Int × Int × Unit)) (next : List (List Int)) (g2 : List Int → List Int → Int → Option (List Int × Int × Unit)) (from'2 : List Int) (l'2 : List Int) (t30 : Int) : Option (List Int × Int × Unit) :=
  bif decide (t30 < (↑next.length : Int)) then
    l4 next t30 from'2 l'2 0 0
  else
    some ((l'2, 0, ()))
def way_Parts_b4 (nf : Nat) (next : List (List Int)) (t30 : Int) (g2 : List Int → List Int → Int → Option (List Int × Int × Unit)) (g4 : List Int → List Int → Int → Int → Option (List Int × Int × Unit)) (from'3 : List Int) (l'3 : List Int) (s : Int) (t35 : Int) : Option (List Int × Int × Unit) :=
  bif decide (t35 < (↑next.length : Int)) then
    bif inb t30 from'3.length then
      bif decide (0 ≤ t35) then
        bif inb t35 from'3.length then
          bif decide (0 ≤ t30) then
            bif decide (0 ≤ t35) then
              g4 from'3 l'3 (IntKind.u32.wrap (↑(BitVec.ofInt IntKind.u32.bits s ||| BitVec.ofInt IntKind.u32.bits (shlI IntKind.u32 (IntKind.u32.wrap (↑(BitVec.ofInt IntKind.u32.bits (IntKind.u32.wrap (↑(BitVec.ofInt IntKind.u32.bits (shrI IntKind.u32 (from'3.getD t30.toNat 0) t35) &&& BitVec.ofInt IntKind.u32.bits (shrI IntKind.u32 (from'3.getD t35.toNat 0) t30)).toNat : Int)) &&& BitVec.ofInt IntKind.u32.bits 1).toNat : Int)) t35)).toNat : Int)) (IntKind.i64.wrap (t35 + 1))
            else
              none
          else
            none
        else
          none
      else
        none
    else
      none
  else
    bif bimp false ![s].isEmpty && (l'3.length + [s].length).ble lim then
      g2 from'3 (l'3 ++ [s]) (IntKind.i64.wrap (t30 + 1))
    else
      none
def way_Parts_p (nf : Nat) (l0 : List (List Int) → List Int → List Int → Int → Option (List Int × Int × Unit)) (next : List (List Int)) : Option (List Int × Int × Unit) :=
  Option.bind (way_Check_f nf next) fun r =>
  bif r.fst != 0 then
    some (([], r.fst, ()))
  else
    l0 next [] [] 0
def way_Parts_l4 (nf : Nat) (next : List (List Int)) (t30 : Int) (g2 : List Int → List Int → Int → Option (List Int × Int × Unit)) : Nat → List Int → List Int → Int → Int → Option (List Int × Int × Unit)
  | 0, _, _, _, _ => none
  | fu + 1, from'3, l'3, s, t35 => way_Parts_b4 nf  next t30 g2 (way_Parts_l4 nf next t30 g2 fu) from'3 l'3 s t35
def way_Parts_l2 (nf : Nat) (next : List (List Int)) : Nat → List Int → List Int → Int → Option (List Int × Int × Unit)
  | 0, _, _, _ => none
  | fu + 1, from'2, l'2, t30 => way_Parts_b2 nf (fun _ p1 v0 v1 v2 v3 => way_Parts_l4 nf next p1 (fun from'2 l'2 t30 => way_Parts_l2 nf next  fu from'2 l'2 t30) nf v0 v1 v2 v3) next  (way_Parts_l2 nf next  fu) from'2 l'2 t30
def way_Parts_l0 (nf : Nat) (next : List (List Int)) : Nat → List Int → List Int → Int → Option (List Int × Int × Unit)
  | 0, _, _, _ => none
  | fu + 1, from', l', t18 => way_Parts_b0 nf (fun _ v0 v1 v2 => way_Parts_l2 nf next  nf v0 v1 v2) next  (way_Parts_l0 nf next  fu) from' l' t18
def way_Parts_f (nf : Nat) (next : List (List Int)) : Option (List Int × Int × Unit) := way_Parts_p nf (fun p0 v0 v1 v2 => way_Parts_l0 nf p0 nf v0 v1 v2) next
noncomputable def way_Parts_L0 (nf : Nat) : LC (List Int × Int × Unit) := theL (findL tab (way_Parts_phi nf) (fun _ F => iter nf F) way_Parts_keep 0 0 (codeOf Try.f27) (fin tab [((Ty.int IntKind.u32).sl, Md.own false (Md.bor false false)), (Ty.int IntKind.i64, Md.bor false true)] (resL (none) Try.f27)) (fun _ _ => none) (fin tab [((Ty.int IntKind.u32).sl, Md.own false (Md.bor false false)), (Ty.int IntKind.i64, Md.bor false true)] (resL (none) Try.f27)))
def way_Parts_m0 (next : List (List Int)) (from' : List Int) (l' : List Int) (t18 : Int) : St := ⟨fresh, [(0, AV.v (Ty.int IntKind.i64).sl.sl (Md.bor true false) next), (5, AV.ow 500005 (Ty.int IntKind.u32).sl (Md.own false (Md.bor false false)) from'), (6, AV.ow 500006 (Ty.int IntKind.u32).sl (Md.own false (Md.bor false false)) l'), (17, AV.v (Ty.int IntKind.i64) (Md.bor false true) (↑next.length : Int)), (18, AV.v (Ty.int IntKind.i64) (Md.bor false true) t18), (26, AV.dead), (60, AV.dead)]⟩
noncomputable def way_Parts_L2 (nf : Nat) : LC (List Int × Int × Unit) := theL (findL tab (way_Parts_phi nf) (fun _ F => iter nf F) way_Parts_keep 2 0 (codeOf Try.f27) (fin tab [((Ty.int IntKind.u32).sl, Md.own false (Md.bor false false)), (Ty.int IntKind.i64, Md.bor false true)] (resL (none) Try.f27)) (fun _ _ => none) (fin tab [((Ty.int IntKind.u32).sl, Md.own false (Md.bor false false)), (Ty.int IntKind.i64, Md.bor false true)] (resL (none) Try.f27)))
def way_Parts_m2 (next : List (List Int)) (from'2 : List Int) (l'2 : List Int) (t30 : Int) : St := ⟨fresh, [(0, AV.v (Ty.int IntKind.i64).sl.sl (Md.bor true false) next), (5, AV.ow 500005 (Ty.int IntKind.u32).sl (Md.own false (Md.bor false false)) from'2), (6, AV.ow 500006 (Ty.int IntKind.u32).sl (Md.own false (Md.bor false false)) l'2), (26, AV.dead), (29, AV.v (Ty.int IntKind.i64) (Md.bor false true) (↑next.length : Int)), (30, AV.v (Ty.int IntKind.i64) (Md.bor false true) t30), (60, AV.dead)]⟩
noncomputable def way_Parts_L4 (nf : Nat) (G2 : St → Option (List Int × Int × Unit)) : LC (List Int × Int × Unit) := theL (findL tab (way_Parts_phi nf) (fun _ F => iter nf F) way_Parts_keep 4 2 (way_Parts_L2 nf ).c (fun st => norm (way_Parts_keep 2) st G2) (way_Parts_L2 nf ).Kx (way_Parts_L2 nf ).Kr)
def way_Parts_m4 (next : List (List Int)) (t30 : Int) (from'3 : List Int) (l'3 : List Int) (s : Int) (t35 : Int) : St := ⟨fresh, [(0, AV.v (Ty.int IntKind.i64).sl.sl (Md.bor true false) next), (5, AV.ow 500005 (Ty.int IntKind.u32).sl (Md.own false (Md.bor false false)) from'3), (6, AV.ow 500006 (Ty.int IntKind.u32).sl (Md.own false (Md.bor false false)) l'3), (8, AV.v (Ty.int IntKind.i64) (Md.bor false true) t30), (9, AV.v (Ty.int IntKind.u32) (Md.bor false true) s), (26, AV.dead), (29, AV.v (Ty.int IntKind.i64) (Md.bor false true) (↑next.length : Int)), (30, AV.v (Ty.int IntKind.i64) (Md.bor false true) t30), (34, AV.v (Ty.int IntKind.i64) (Md.bor false true) (↑next.length : Int)), (35, AV.v (Ty.int IntKind.i64) (Md.bor false true) t35), (60, AV.dead)]⟩
theorem way_Parts_h4 (nf : Nat) (G2 : St → Option (List Int × Int × Unit)) (next : List (List Int)) (t30 : Int) (fu : Nat) (from'3 : List Int) (l'3 : List Int) (s : Int) (t35 : Int) : iter (fu + 1) (LC.F tab (way_Parts_phi nf) (fun _ F => iter nf F) way_Parts_keep 4 (way_Parts_L4 nf G2)) (way_Parts_m4 next t30 from'3 l'3 s t35) = way_Parts_b4 nf  next t30 (fun from'2 l'2 t30 => G2 (way_Parts_m2 next from'2 l'2 t30)) (fun from'3 l'3 s t35 => iter fu (LC.F tab (way_Parts_phi nf) (fun _ F => iter nf F) way_Parts_keep 4 (way_Parts_L4 nf G2)) (way_Parts_m4 next t30 from'3 l'3 s t35)) from'3 l'3 s t35 := by kernel_rfl
theorem way_Parts_e4 (nf : Nat) (G2 : St → Option (List Int × Int × Unit)) (next : List (List Int)) (t30 : Int) : ∀ (fu : Nat) (from'3 : List Int) (l'3 : List Int) (s : Int) (t35 : Int), iter fu (LC.F tab (way_Parts_phi nf) (fun _ F => iter nf F) way_Parts_keep 4 (way_Parts_L4 nf G2)) (way_Parts_m4 next t30 from'3 l'3 s t35) = way_Parts_l4 nf next t30 (fun from'2 l'2 t30 => G2 (way_Parts_m2 next from'2 l'2 t30)) fu from'3 l'3 s t35 := by
  intro fu
  induction fu with
  | zero => intros; rfl
  | succ fu ih =>
    intro from'3 l'3 s t35
    rw [way_Parts_h4 nf G2 next t30 fu from'3 l'3 s t35]
    simp only [ih]
    rfl
theorem way_Parts_h2 (nf : Nat)  (next : List (List Int)) (fu : Nat) (from'2 : List Int) (l'2 : List Int) (t30 : Int) : iter (fu + 1) (LC.F tab (way_Parts_phi nf) (fun _ F => iter nf F) way_Parts_keep 2 (way_Parts_L2 nf )) (way_Parts_m2 next from'2 l'2 t30) = way_Parts_b2 nf (fun _ p1 v0 v1 v2 v3 => iter nf (LC.F tab (way_Parts_phi nf) (fun _ F => iter nf F) way_Parts_keep 4 (way_Parts_L4 nf (iter fu (LC.F tab (way_Parts_phi nf) (fun _ F => iter nf F) way_Parts_keep 2 (way_Parts_L2 nf ))))) (way_Parts_m4 next p1 v0 v1 v2 v3)) next  (fun from'2 l'2 t30 => iter fu (LC.F tab (way_Parts_phi nf) (fun _ F => iter nf F) way_Parts_keep 2 (way_Parts_L2 nf )) (way_Parts_m2 next from'2 l'2 t30)) from'2 l'2 t30 := by kernel_rfl
theorem way_Parts_e2 (nf : Nat)  (next : List (List Int)) : ∀ (fu : Nat) (from'2 : List Int) (l'2 : List Int) (t30 : Int), iter fu (LC.F tab (way_Parts_phi nf) (fun _ F => iter nf F) way_Parts_keep 2 (way_Parts_L2 nf )) (way_Parts_m2 next from'2 l'2 t30) = way_Parts_l2 nf next  fu from'2 l'2 t30 := by
  intro fu
  induction fu with
  | zero => intros; rfl
  | succ fu ih =>
    intro from'2 l'2 t30
    rw [way_Parts_h2 nf  next fu from'2 l'2 t30]
    simp only [ih, way_Parts_e4]
    rfl
theorem way_Parts_h0 (nf : Nat)  (next : List (List Int)) (fu : Nat) (from' : List Int) (l' : List Int) (t18 : Int) : iter (fu + 1) (LC.F tab (way_Parts_phi nf) (fun _ F => iter nf F) way_Parts_keep 0 (way_Parts_L0 nf )) (way_Parts_m0 next from' l' t18) = way_Parts_b0 nf (fun _ v0 v1 v2 => iter nf (LC.F tab (way_Parts_phi nf) (fun _ F => iter nf F) way_Parts_keep 2 (way_Parts_L2 nf )) (way_Parts_m2 next v0 v1 v2)) next  (fun from' l' t18 => iter fu (LC.F tab (way_Parts_phi nf) (fun _ F => iter nf F) way_Parts_keep 0 (way_Parts_L0 nf )) (way_Parts_m0 next from' l' t18)) from' l' t18 := by kernel_rfl
theorem way_Parts_e0 (nf : Nat)  (next : List (List Int)) : ∀ (fu : Nat) (from' : List Int) (l' : List Int) (t18 : Int), iter fu (LC.F tab (way_Parts_phi nf) (fun _ F => iter nf F) way_Parts_keep 0 (way_Parts_L0 nf )) (way_Parts_m0 next from' l' t18) = way_Parts_l0 nf next  fu from' l' t18 := by
  intro fu
  induction fu with
  | zero => intros; rfl
  | succ fu ih =>
    intro from' l' t18
    rw [way_Parts_h0 nf  next fu from' l' t18]
    simp only [ih, way_Parts_e2]
    rfl
theorem way_Parts_eq (nf : Nat) (next : List (List Int)) : runF tab (way_Parts_phi nf) way_Parts_keep nf [PT.val (Ty.int IntKind.i64).sl.sl (Md.bor true false)] [((Ty.int IntKind.u32).sl, Md.own false (Md.bor false false)), (Ty.int IntKind.i64, Md.bor false true)] (resL (none) Try.f27) (codeOf Try.f27) ⟨next, ()⟩ = way_Parts_f nf next := by
  have h : runF tab (way_Parts_phi nf) way_Parts_keep nf [PT.val (Ty.int IntKind.i64).sl.sl (Md.bor true false)] [((Ty.int IntKind.u32).sl, Md.own false (Md.bor false false)), (Ty.int IntKind.i64, Md.bor false true)] (resL (none) Try.f27) (codeOf Try.f27) ⟨next, ()⟩ = way_Parts_p nf (fun p0 v0 v1 v2 => iter nf (LC.F tab (way_Parts_phi nf) (fun _ F => iter nf F) way_Parts_keep 0 (way_Parts_L0 nf)) (way_Parts_m0 p0 v0 v1 v2)) next := by kernel_rfl
  rw [h]
  simp only [way_Parts_e0]
  rfl
def way_Parts_F (nf : Nat) (x : denPs [.val (.sl (.sl (.int .i64))) (.bor true false)]) : Option (denL [(.sl (.int .u32), .own false (.bor false false)), (.int .i64, .bor false true)]) := way_Parts_f nf x.1
def way_Parts_C (nf : Nat) : Contract := ⟨[.val (.sl (.sl (.int .i64))) (.bor true false)], [(.sl (.int .u32), .own false (.bor false false)), (.int .i64, .bor false true)], way_Parts_F nf, none⟩
theorem way_Parts_ok : FnOK Try.prog 27 := ⟨Try.f27, codeOf Try.f27, Try.func27, by kernel_rfl, by kernel_rfl⟩
theorem way_Parts_holds (nf : Nat) : Contract.Holds Try.prog 27 (way_Parts_C nf) :=
  fn_holds (Φ := way_Parts_phi nf) (keep := way_Parts_keep) (n := nf) ⟨tabs.1, tabs.2, (ctx_cons way_Check_ok (way_Check_holds nf) (ctx_cons way_From_ok (way_From_holds nf) ctx_nil)), mixed⟩ (fn := Try.f27) ⟨Try.func27, by kernel_rfl, by kernel_rfl, by kernel_rfl⟩ (fun x => way_Parts_eq nf x.1)

/-! codemason codemasonref.Bit -/
def ref_Bit_phi (nf : Nat) : Nat → Option Contract := lookC []
def ref_Bit_keep : Nat → List Nat := lookK []
def ref_Bit_p (nf : Nat)  (w : Int) (i : Int) : Option (Bool × Unit) :=
  bif decide (i ≥ 0) then
    bif decide (i < 32) then
      bif decide (0 ≤ IntKind.u64.wrap i) then
        some ((IntKind.u32.wrap (↑(BitVec.ofInt IntKind.u32.bits w &&& BitVec.ofInt IntKind.u32.bits (shlI IntKind.u32 1 (IntKind.u64.wrap i))).toNat : Int) != 0, ()))
      else
        none
    else
      some ((false, ()))
  else
    some ((false, ()))
def ref_Bit_f (nf : Nat) (w : Int) (i : Int) : Option (Bool × Unit) := ref_Bit_p nf  w i
theorem ref_Bit_eq (nf : Nat) (w : Int) (i : Int) : runF tab (ref_Bit_phi nf) ref_Bit_keep nf [PT.val (Ty.int IntKind.u32) (Md.bor true false), PT.val (Ty.int IntKind.i64) (Md.bor true false)] [(Ty.bool, Md.bor false true)] (resL (none) Try.f29) (codeOf Try.f29) ⟨w, i, ()⟩ = ref_Bit_f nf w i := by
  have h : runF tab (ref_Bit_phi nf) ref_Bit_keep nf [PT.val (Ty.int IntKind.u32) (Md.bor true false), PT.val (Ty.int IntKind.i64) (Md.bor true false)] [(Ty.bool, Md.bor false true)] (resL (none) Try.f29) (codeOf Try.f29) ⟨w, i, ()⟩ = ref_Bit_p nf  w i := by kernel_rfl
  exact h
def ref_Bit_F (nf : Nat) (x : denPs [.val (.int .u32) (.bor true false), .val (.int .i64) (.bor true false)]) : Option (denL [(.bool, .bor false true)]) := ref_Bit_f nf x.1 x.2.1
def ref_Bit_C (nf : Nat) : Contract := ⟨[.val (.int .u32) (.bor true false), .val (.int .i64) (.bor true false)], [(.bool, .bor false true)], ref_Bit_F nf, none⟩
theorem ref_Bit_ok : FnOK Try.prog 29 := ⟨Try.f29, codeOf Try.f29, Try.func29, by kernel_rfl, by kernel_rfl⟩
theorem ref_Bit_holds (nf : Nat) : Contract.Holds Try.prog 29 (ref_Bit_C nf) :=
  fn_holds (Φ := ref_Bit_phi nf) (keep := ref_Bit_keep) (n := nf) ⟨tabs.1, tabs.2, ctx_nil, mixed⟩ (fn := Try.f29) ⟨Try.func29, by kernel_rfl, by kernel_rfl, by kernel_rfl⟩ (fun x => ref_Bit_eq nf x.1 x.2.1)

/-! codemason codemasonref.Fits -/
def ref_Fits_phi (nf : Nat) : Nat → Option Contract := lookC []
def ref_Fits_keep : Nat → List Nat := lookK []
def ref_Fits_p (nf : Nat)  (n' : Int) (s : Int) : Option (Bool × Unit) :=
  bif decide (n' ≥ 32) then
    some ((true, ()))
  else
    bif decide (n' ≥ 0) then
      bif decide (0 ≤ IntKind.u64.wrap n') then
        some ((decide (s < shlI IntKind.u32 1 (IntKind.u64.wrap n')), ()))
      else
        none
    else
      some ((false, ()))
def ref_Fits_f (nf : Nat) (n' : Int) (s : Int) : Option (Bool × Unit) := ref_Fits_p nf  n' s
theorem ref_Fits_eq (nf : Nat) (n' : Int) (s : Int) : runF tab (ref_Fits_phi nf) ref_Fits_keep nf [PT.val (Ty.int IntKind.i64) (Md.bor true false), PT.val (Ty.int IntKind.u32) (Md.bor true false)] [(Ty.bool, Md.bor false true)] (resL (none) Try.f30) (codeOf Try.f30) ⟨n', s, ()⟩ = ref_Fits_f nf n' s := by
  have h : runF tab (ref_Fits_phi nf) ref_Fits_keep nf [PT.val (Ty.int IntKind.i64) (Md.bor true false), PT.val (Ty.int IntKind.u32) (Md.bor true false)] [(Ty.bool, Md.bor false true)] (resL (none) Try.f30) (codeOf Try.f30) ⟨n', s, ()⟩ = ref_Fits_p nf  n' s := by kernel_rfl
  exact h
def ref_Fits_F (nf : Nat) (x : denPs [.val (.int .i64) (.bor true false), .val (.int .u32) (.bor true false)]) : Option (denL [(.bool, .bor false true)]) := ref_Fits_f nf x.1 x.2.1
def ref_Fits_C (nf : Nat) : Contract := ⟨[.val (.int .i64) (.bor true false), .val (.int .u32) (.bor true false)], [(.bool, .bor false true)], ref_Fits_F nf, none⟩
theorem ref_Fits_ok : FnOK Try.prog 30 := ⟨Try.f30, codeOf Try.f30, Try.func30, by kernel_rfl, by kernel_rfl⟩
theorem ref_Fits_holds (nf : Nat) : Contract.Holds Try.prog 30 (ref_Fits_C nf) :=
  fn_holds (Φ := ref_Fits_phi nf) (keep := ref_Fits_keep) (n := nf) ⟨tabs.1, tabs.2, ctx_nil, mixed⟩ (fn := Try.f30) ⟨Try.func30, by kernel_rfl, by kernel_rfl, by kernel_rfl⟩ (fun x => ref_Fits_eq nf x.1 x.2.1)

/-! codemason codemasonlaw.WayParts -/
def law_WayParts_phi (nf : Nat) : Nat → Option Contract := lookC [(21, ref_WayCheck_C nf), (24, ref_Reach_C nf), (27, way_Parts_C nf), (28, ref_Has_C nf), (29, ref_Bit_C nf), (30, ref_Fits_C nf)]
def law_WayParts_keep : Nat → List Nat := lookK [(2, [0, 3, 4, 6, 7, 9, 11, 12]), (0, [0, 3, 4, 6, 9, 11, 12])]
def law_WayParts_b0 (nf : Nat) (l2 : List (List Int) → List Int × Int × Unit → Int → List Int → Int → Option (Bool × Unit)) (next : List (List Int)) (r : List Int × Int × Unit) (g0 : List Int → Int → Option (Bool × Unit)) (l' : List Int) (i : Int) : Option (Bool × Unit) :=
  bif decide (i < (↑l'.length : Int)) then
    bif decide (i < (↑next.length : Int)) then
      l2 next r i l' 0
    else
      bif r.snd.fst == 0 then
        some (((↑l'.length : Int) == (↑next.length : Int), ()))
      else
        some ((false, ()))
  else
    bif r.snd.fst == 0 then
      some (((↑l'.length : Int) == (↑next.length : Int), ()))
    else
      some ((false, ()))
def law_WayParts_b2 (nf : Nat) (next : List (List Int)) (r : List Int × Int × Unit) (i : Int) (g0 : List Int → Int → Option (Bool × Unit)) (g2 : List Int → Int → Option (Bool × Unit)) (l'2 : List Int) (j : Int) : Option (Bool × Unit) :=
  bif decide (j < (↑next.length : Int)) then
    Option.bind (ref_Reach_f nf next i (-1)) fun r3 =>
    Option.bind (ref_Has_f nf r3.fst j) fun r4 =>
    bif r4.fst then
      Option.bind (ref_Reach_f nf next j (-1)) fun r5 =>
      Option.bind (ref_Has_f nf r5.fst i) fun r6 =>
      bif inb i l'2.length then
        Option.bind (ref_Bit_f nf (l'2.getD i.toNat 0) j) fun r7 =>
        bif r6.fst != r7.fst then
          some ((false, ()))
        else
          g2 l'2 (IntKind.i64.wrap (j + 1))
      else
        none
    else
      bif inb i l'2.length then
        Option.bind (ref_Bit_f nf (l'2.getD i.toNat 0) j) fun r8 =>
        bif false != r8.fst then
          some ((false, ()))
        else
          g2 l'2 (IntKind.i64.wrap (j + 1))
      else
        none
  else
    bif inb i l'2.length then
      Option.bind (ref_Fits_f nf ((↑next.length : Int)) (l'2.getD i.toNat 0)) fun r9 =>
      bif !r9.fst then
        some ((false, ()))
      else
        g0 l'2 (IntKind.i64.wrap (i + 1))
    else
      none
def law_WayParts_p (nf : Nat) (l0 : List (List Int) → List Int × Int × Unit → List Int → Int → Option (Bool × Unit)) (next : List (List Int)) : Option (Bool × Unit) :=
  Option.bind (way_Parts_f nf next) fun r =>
  Option.bind (ref_WayCheck_f nf next) fun r2 =>
  bif r2.fst != 0 then
    bif r.snd.fst == r2.fst then
      some (((↑(List.length r.fst) : Int) == 0, ()))
    else
      some ((false, ()))
  else
    l0 next r r.fst 0
def law_WayParts_l2 (nf : Nat) (next : List (List Int)) (r : List Int × Int × Unit) (i : Int) (g0 : List Int → Int → Option (Bool × Unit)) : Nat → List Int → Int → Option (Bool × Unit)
  | 0, _, _ => none
  | fu + 1, l'2, j => law_WayParts_b2 nf  next r i g0 (law_WayParts_l2 nf next r i g0 fu) l'2 j
def law_WayParts_l0 (nf : Nat) (next : List (List Int)) (r : List Int × Int × Unit) : Nat → List Int → Int → Option (Bool × Unit)
  | 0, _, _ => none
  | fu + 1, l', i => law_WayParts_b0 nf (fun _ _ p2 v0 v1 => law_WayParts_l2 nf next r p2 (fun l' i => law_WayParts_l0 nf next r  fu l' i) nf v0 v1) next r  (law_WayParts_l0 nf next r  fu) l' i
def law_WayParts_f (nf : Nat) (next : List (List Int)) : Option (Bool × Unit) := law_WayParts_p nf (fun p0 p1 v0 v1 => law_WayParts_l0 nf p0 p1 nf v0 v1) next
noncomputable def law_WayParts_L0 (nf : Nat) : LC (Bool × Unit) := theL (findL tab (law_WayParts_phi nf) (fun _ F => iter nf F) law_WayParts_keep 0 0 (codeOf Try.f6) (fin tab [(Ty.bool, Md.bor false true)] (resL (none) Try.f6)) (fun _ _ => none) (fin tab [(Ty.bool, Md.bor false true)] (resL (none) Try.f6)))
def law_WayParts_m0 (next : List (List Int)) (r : List Int × Int × Unit) (l' : List Int) (i : Int) : St := ⟨fresh, [(0, AV.v (Ty.int IntKind.i64).sl.sl (Md.bor true false) next), (3, AV.ow 500003 (Ty.int IntKind.u32).sl (Md.own false (Md.bor false false)) l'), (4, AV.v (Ty.int IntKind.i64) (Md.bor false true) r.snd.fst), (6, AV.v (Ty.int IntKind.i64) (Md.bor false true) i), (9, AV.dead), (11, AV.dead), (12, AV.dead)]⟩
noncomputable def law_WayParts_L2 (nf : Nat) (G0 : St → Option (Bool × Unit)) : LC (Bool × Unit) := theL (findL tab (law_WayParts_phi nf) (fun _ F => iter nf F) law_WayParts_keep 2 0 (law_WayParts_L0 nf ).c (fun st => norm (law_WayParts_keep 0) st G0) (law_WayParts_L0 nf ).Kx (law_WayParts_L0 nf ).Kr)
def law_WayParts_m2 (next : List (List Int)) (r : List Int × Int × Unit) (i : Int) (l'2 : List Int) (j : Int) : St := ⟨fresh, [(0, AV.v (Ty.int IntKind.i64).sl.sl (Md.bor true false) next), (3, AV.ow 500003 (Ty.int IntKind.u32).sl (Md.own false (Md.bor false false)) l'2), (4, AV.v (Ty.int IntKind.i64) (Md.bor false true) r.snd.fst), (6, AV.v (Ty.int IntKind.i64) (Md.bor false true) i), (7, AV.v (Ty.int IntKind.i64) (Md.bor false true) j), (9, AV.dead), (11, AV.dead), (12, AV.dead)]⟩
theorem law_WayParts_h2 (nf : Nat) (G0 : St → Option (Bool × Unit)) (next : List (List Int)) (r : List Int × Int × Unit) (i : Int) (fu : Nat) (l'2 : List Int) (j : Int) : iter (fu + 1) (LC.F tab (law_WayParts_phi nf) (fun _ F => iter nf F) law_WayParts_keep 2 (law_WayParts_L2 nf G0)) (law_WayParts_m2 next r i l'2 j) = law_WayParts_b2 nf  next r i (fun l' i => G0 (law_WayParts_m0 next r l' i)) (fun l'2 j => iter fu (LC.F tab (law_WayParts_phi nf) (fun _ F => iter nf F) law_WayParts_keep 2 (law_WayParts_L2 nf G0)) (law_WayParts_m2 next r i l'2 j)) l'2 j := by kernel_rfl
theorem law_WayParts_e2 (nf : Nat) (G0 : St → Option (Bool × Unit)) (next : List (List Int)) (r : List Int × Int × Unit) (i : Int) : ∀ (fu : Nat) (l'2 : List Int) (j : Int), iter fu (LC.F tab (law_WayParts_phi nf) (fun _ F => iter nf F) law_WayParts_keep 2 (law_WayParts_L2 nf G0)) (law_WayParts_m2 next r i l'2 j) = law_WayParts_l2 nf next r i (fun l' i => G0 (law_WayParts_m0 next r l' i)) fu l'2 j := by
  intro fu
  induction fu with
  | zero => intros; rfl
  | succ fu ih =>
    intro l'2 j
    rw [law_WayParts_h2 nf G0 next r i fu l'2 j]
    simp only [ih]
    rfl
theorem law_WayParts_h0 (nf : Nat)  (next : List (List Int)) (r : List Int × Int × Unit) (fu : Nat) (l' : List Int) (i : Int) : iter (fu + 1) (LC.F tab (law_WayParts_phi nf) (fun _ F => iter nf F) law_WayParts_keep 0 (law_WayParts_L0 nf )) (law_WayParts_m0 next r l' i) = law_WayParts_b0 nf (fun _ _ p2 v0 v1 => iter nf (LC.F tab (law_WayParts_phi nf) (fun _ F => iter nf F) law_WayParts_keep 2 (law_WayParts_L2 nf (iter fu (LC.F tab (law_WayParts_phi nf) (fun _ F => iter nf F) law_WayParts_keep 0 (law_WayParts_L0 nf ))))) (law_WayParts_m2 next r p2 v0 v1)) next r  (fun l' i => iter fu (LC.F tab (law_WayParts_phi nf) (fun _ F => iter nf F) law_WayParts_keep 0 (law_WayParts_L0 nf )) (law_WayParts_m0 next r l' i)) l' i := by kernel_rfl
theorem law_WayParts_e0 (nf : Nat)  (next : List (List Int)) (r : List Int × Int × Unit) : ∀ (fu : Nat) (l' : List Int) (i : Int), iter fu (LC.F tab (law_WayParts_phi nf) (fun _ F => iter nf F) law_WayParts_keep 0 (law_WayParts_L0 nf )) (law_WayParts_m0 next r l' i) = law_WayParts_l0 nf next r  fu l' i := by
  intro fu
  induction fu with
  | zero => intros; rfl
  | succ fu ih =>
    intro l' i
    rw [law_WayParts_h0 nf  next r fu l' i]
    simp only [ih, law_WayParts_e2]
    rfl
theorem law_WayParts_eq (nf : Nat) (next : List (List Int)) : runF tab (law_WayParts_phi nf) law_WayParts_keep nf [PT.val (Ty.int IntKind.i64).sl.sl (Md.bor true false)] [(Ty.bool, Md.bor false true)] (resL (none) Try.f6) (codeOf Try.f6) ⟨next, ()⟩ = law_WayParts_f nf next := by
  have h : runF tab (law_WayParts_phi nf) law_WayParts_keep nf [PT.val (Ty.int IntKind.i64).sl.sl (Md.bor true false)] [(Ty.bool, Md.bor false true)] (resL (none) Try.f6) (codeOf Try.f6) ⟨next, ()⟩ = law_WayParts_p nf (fun p0 p1 v0 v1 => iter nf (LC.F tab (law_WayParts_phi nf) (fun _ F => iter nf F) law_WayParts_keep 0 (law_WayParts_L0 nf)) (law_WayParts_m0 p0 p1 v0 v1)) next := by kernel_rfl
  rw [h]
  simp only [law_WayParts_e0]
  rfl
def law_WayParts_F (nf : Nat) (x : denPs [.val (.sl (.sl (.int .i64))) (.bor true false)]) : Option (denL [(.bool, .bor false true)]) := law_WayParts_f nf x.1
def law_WayParts_C (nf : Nat) : Contract := ⟨[.val (.sl (.sl (.int .i64))) (.bor true false)], [(.bool, .bor false true)], law_WayParts_F nf, none⟩
theorem law_WayParts_ok : FnOK Try.prog 6 := ⟨Try.f6, codeOf Try.f6, Try.func6, by kernel_rfl, by kernel_rfl⟩
theorem law_WayParts_holds (nf : Nat) : Contract.Holds Try.prog 6 (law_WayParts_C nf) :=
  fn_holds (Φ := law_WayParts_phi nf) (keep := law_WayParts_keep) (n := nf) ⟨tabs.1, tabs.2, (ctx_cons ref_WayCheck_ok (ref_WayCheck_holds nf) (ctx_cons ref_Reach_ok (ref_Reach_holds nf) (ctx_cons way_Parts_ok (way_Parts_holds nf) (ctx_cons ref_Has_ok (ref_Has_holds nf) (ctx_cons ref_Bit_ok (ref_Bit_holds nf) (ctx_cons ref_Fits_ok (ref_Fits_holds nf) ctx_nil)))))), mixed⟩ (fn := Try.f6) ⟨Try.func6, by kernel_rfl, by kernel_rfl, by kernel_rfl⟩ (fun x => law_WayParts_eq nf x.1)
end
end Go.Proofs.Ytccbcbhiblohgaa.S
