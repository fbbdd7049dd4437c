/- The functions of the code, as plain functions, and the theorems that say so: made by a program of this proof's own. -/
import Derived.Test.YtccbcbhiblohgaaFn3
import Derived.Test.YtccbcbhiblohgaaChecked
namespace Go.Proofs.Ytccbcbhiblohgaa.S
open Go Go.Ab
noncomputable section

/-! codemason codemasonref.Inside -/
def ref_Inside_phi (nf : Nat) : Nat → Option Contract := lookC []
def ref_Inside_keep : Nat → List Nat := lookK [(0, [0, 1, 7, 8, 9])]
def ref_Inside_b0 (nf : Nat) (n' : Int) (l' : List Int) (g0 : Int → Option (Bool × Unit)) (t9 : Int) : Option (Bool × Unit) :=
  bif decide (t9 < (↑l'.length : Int)) then
    bif inb t9 l'.length then
      bif decide (l'.getD t9.toNat 0 < 0) then
        some ((false, ()))
      else
        bif decide (l'.getD t9.toNat 0 ≥ n') then
          some ((false, ()))
        else
          g0 (IntKind.i64.wrap (t9 + 1))
    else
      none
  else
    some ((true, ()))
def ref_Inside_p (nf : Nat) (l0 : Int → List Int → Int → Option (Bool × Unit)) (n' : Int) (l' : List Int) : Option (Bool × Unit) :=
  l0 n' l' 0
def ref_Inside_l0 (nf : Nat) (n' : Int) (l' : List Int) : Nat → Int → Option (Bool × Unit)
  | 0, _ => none
  | fu + 1, t9 => ref_Inside_b0 nf  n' l'  (ref_Inside_l0 nf n' l'  fu) t9
def ref_Inside_f (nf : Nat) (n' : Int) (l' : List Int) : Option (Bool × Unit) := ref_Inside_p nf (fun p0 p1 v0 => ref_Inside_l0 nf p0 p1 nf v0) n' l'
noncomputable def ref_Inside_L0 (nf : Nat) : LC (Bool × Unit) := theL (findL tab (ref_Inside_phi nf) (fun _ F => iter nf F) ref_Inside_keep 0 0 (codeOf Try.f56) (fin tab [(Ty.bool, Md.bor false true)] (resL ([]) Try.f56)) (fun _ _ => none) (fin tab [(Ty.bool, Md.bor false true)] (resL ([]) Try.f56)))
def ref_Inside_m0 (n' : Int) (l' : List Int) (t9 : Int) : St := ⟨fresh, [(0, AV.v (Ty.int IntKind.i64) (Md.bor false true) n'), (1, AV.v (Ty.int IntKind.i64).sl (Md.bor true false) l'), (7, AV.v (Ty.int IntKind.i64).sl (Md.bor true false) l'), (8, AV.v (Ty.int IntKind.i64) (Md.bor false true) (↑l'.length : Int)), (9, AV.v (Ty.int IntKind.i64) (Md.bor false true) t9)]⟩
theorem ref_Inside_h0 (nf : Nat)  (n' : Int) (l' : List Int) (fu : Nat) (t9 : Int) : iter (fu + 1) (LC.F tab (ref_Inside_phi nf) (fun _ F => iter nf F) ref_Inside_keep 0 (ref_Inside_L0 nf )) (ref_Inside_m0 n' l' t9) = ref_Inside_b0 nf  n' l'  (fun t9 => iter fu (LC.F tab (ref_Inside_phi nf) (fun _ F => iter nf F) ref_Inside_keep 0 (ref_Inside_L0 nf )) (ref_Inside_m0 n' l' t9)) t9 := by kernel_rfl
theorem ref_Inside_e0 (nf : Nat)  (n' : Int) (l' : List Int) : ∀ (fu : Nat) (t9 : Int), iter fu (LC.F tab (ref_Inside_phi nf) (fun _ F => iter nf F) ref_Inside_keep 0 (ref_Inside_L0 nf )) (ref_Inside_m0 n' l' t9) = ref_Inside_l0 nf n' l'  fu t9 := by
  intro fu
  induction fu with
  | zero => intros; rfl
  | succ fu ih =>
    intro t9
    rw [ref_Inside_h0 nf  n' l' fu t9]
    simp only [ih]
    rfl
theorem ref_Inside_eq (nf : Nat) (n' : Int) (l' : List Int) : runF tab (ref_Inside_phi nf) ref_Inside_keep nf [PT.val (Ty.int IntKind.i64) (Md.bor true false), PT.val (Ty.int IntKind.i64).sl (Md.bor true false)] [(Ty.bool, Md.bor false true)] (resL ([]) Try.f56) (codeOf Try.f56) ⟨n', l', ()⟩ = ref_Inside_f nf n' l' := by
  have h : runF tab (ref_Inside_phi nf) ref_Inside_keep nf [PT.val (Ty.int IntKind.i64) (Md.bor true false), PT.val (Ty.int IntKind.i64).sl (Md.bor true false)] [(Ty.bool, Md.bor false true)] (resL ([]) Try.f56) (codeOf Try.f56) ⟨n', l', ()⟩ = ref_Inside_p nf (fun p0 p1 v0 => iter nf (LC.F tab (ref_Inside_phi nf) (fun _ F => iter nf F) ref_Inside_keep 0 (ref_Inside_L0 nf)) (ref_Inside_m0 p0 p1 v0)) n' l' := by kernel_rfl
  rw [h]
  simp only [ref_Inside_e0]
  rfl
def ref_Inside_F (nf : Nat) (x : denPs [.val (.int .i64) (.bor true false), .val (.sl (.int .i64)) (.bor true false)]) : Option (denL [(.bool, .bor false true)]) := ref_Inside_f nf x.1 x.2.1
def ref_Inside_C (nf : Nat) : Contract := ⟨[.val (.int .i64) (.bor true false), .val (.sl (.int .i64)) (.bor true false)], [(.bool, .bor false true)], ref_Inside_F nf, []⟩
theorem ref_Inside_ok : FnOK Try.prog 56 := ⟨Try.f56, codeOf Try.f56, Try.func56, by kernel_rfl, by kernel_rfl⟩
theorem ref_Inside_holds (nf : Nat) : Contract.Holds Try.prog 56 (ref_Inside_C nf) :=
  fn_holds (Φ := ref_Inside_phi nf) (keep := ref_Inside_keep) (n := nf) ⟨tabs.1, tabs.2, ctx_nil, mixed, bk_ok bkls rfl⟩ (fn := Try.f56) ⟨Try.func56, by kernel_rfl, by kernel_rfl, by kernel_rfl⟩ (fun x => ref_Inside_eq nf x.1 x.2.1)

/-! codemason codemasonref.WayCheck -/
def ref_WayCheck_phi (nf : Nat) : Nat → Option Contract := lookC [(56, ref_Inside_C nf)]
def ref_WayCheck_keep : Nat → List Nat := lookK [(0, [0, 13, 14, 15])]
def ref_WayCheck_b0 (nf : Nat) (next : List (List Int)) (g0 : Int → Option (Int × Unit)) (t15 : Int) : Option (Int × Unit) :=
  bif decide (t15 < (↑next.length : Int)) then
    bif inb t15 next.length then
      bif decide ((↑(List.length (next.getD t15.toNat [])) : Int) > 3) then
        some ((1, ()))
      else
        Option.bind (ref_Inside_f nf ((↑next.length : Int)) (next.getD t15.toNat [])) fun r =>
        bif !r.fst then
          some ((2, ()))
        else
          g0 (IntKind.i64.wrap (t15 + 1))
    else
      none
  else
    some ((0, ()))
def ref_WayCheck_p (nf : Nat) (l0 : List (List Int) → Int → Option (Int × Unit)) (next : List (List Int)) : Option (Int × Unit) :=
  bif decide ((↑next.length : Int) < 1) then
    some ((1, ()))
  else
    bif decide ((↑next.length : Int) > 8) then
      some ((1, ()))
    else
      l0 next 0
def ref_WayCheck_l0 (nf : Nat) (next : List (List Int)) : Nat → Int → Option (Int × Unit)
  | 0, _ => none
  | fu + 1, t15 => ref_WayCheck_b0 nf  next  (ref_WayCheck_l0 nf next  fu) t15
def ref_WayCheck_f (nf : Nat) (next : List (List Int)) : Option (Int × Unit) := ref_WayCheck_p nf (fun p0 v0 => ref_WayCheck_l0 nf p0 nf v0) next
noncomputable def ref_WayCheck_L0 (nf : Nat) : LC (Int × Unit) := theL (findL tab (ref_WayCheck_phi nf) (fun _ F => iter nf F) ref_WayCheck_keep 0 0 (codeOf Try.f21) (fin tab [(Ty.int IntKind.i64, Md.bor false true)] (resL ([]) Try.f21)) (fun _ _ => none) (fin tab [(Ty.int IntKind.i64, Md.bor false true)] (resL ([]) Try.f21)))
def ref_WayCheck_m0 (next : List (List Int)) (t15 : Int) : St := ⟨fresh, [(0, AV.v (Ty.int IntKind.i64).sl.sl (Md.bor true false) next), (13, AV.v (Ty.int IntKind.i64).sl.sl (Md.bor true false) next), (14, AV.v (Ty.int IntKind.i64) (Md.bor false true) (↑next.length : Int)), (15, AV.v (Ty.int IntKind.i64) (Md.bor false true) t15)]⟩
theorem ref_WayCheck_h0 (nf : Nat)  (next : List (List Int)) (fu : Nat) (t15 : Int) : iter (fu + 1) (LC.F tab (ref_WayCheck_phi nf) (fun _ F => iter nf F) ref_WayCheck_keep 0 (ref_WayCheck_L0 nf )) (ref_WayCheck_m0 next t15) = ref_WayCheck_b0 nf  next  (fun t15 => iter fu (LC.F tab (ref_WayCheck_phi nf) (fun _ F => iter nf F) ref_WayCheck_keep 0 (ref_WayCheck_L0 nf )) (ref_WayCheck_m0 next t15)) t15 := by kernel_rfl
theorem ref_WayCheck_e0 (nf : Nat)  (next : List (List Int)) : ∀ (fu : Nat) (t15 : Int), iter fu (LC.F tab (ref_WayCheck_phi nf) (fun _ F => iter nf F) ref_WayCheck_keep 0 (ref_WayCheck_L0 nf )) (ref_WayCheck_m0 next t15) = ref_WayCheck_l0 nf next  fu t15 := by
  intro fu
  induction fu with
  | zero => intros; rfl
  | succ fu ih =>
    intro t15
    rw [ref_WayCheck_h0 nf  next fu t15]
    simp only [ih]
    rfl
theorem ref_WayCheck_eq (nf : Nat) (next : List (List Int)) : runF tab (ref_WayCheck_phi nf) ref_WayCheck_keep nf [PT.val (Ty.int IntKind.i64).sl.sl (Md.bor true false)] [(Ty.int IntKind.i64, Md.bor false true)] (resL ([]) Try.f21) (codeOf Try.f21) ⟨next, ()⟩ = ref_WayCheck_f nf next := by
  have h : runF tab (ref_WayCheck_phi nf) ref_WayCheck_keep nf [PT.val (Ty.int IntKind.i64).sl.sl (Md.bor true false)] [(Ty.int IntKind.i64, Md.bor false true)] (resL ([]) Try.f21) (codeOf Try.f21) ⟨next, ()⟩ = ref_WayCheck_p nf (fun p0 v0 => iter nf (LC.F tab (ref_WayCheck_phi nf) (fun _ F => iter nf F) ref_WayCheck_keep 0 (ref_WayCheck_L0 nf)) (ref_WayCheck_m0 p0 v0)) next := by kernel_rfl
  rw [h]
  simp only [ref_WayCheck_e0]
  rfl
def ref_WayCheck_F (nf : Nat) (x : denPs [.val (.sl (.sl (.int .i64))) (.bor true false)]) : Option (denL [(.int .i64, .bor false true)]) := ref_WayCheck_f nf x.1
def ref_WayCheck_C (nf : Nat) : Contract := ⟨[.val (.sl (.sl (.int .i64))) (.bor true false)], [(.int .i64, .bor false true)], ref_WayCheck_F nf, []⟩
theorem ref_WayCheck_ok : FnOK Try.prog 21 := ⟨Try.f21, codeOf Try.f21, Try.func21, by kernel_rfl, by kernel_rfl⟩
theorem ref_WayCheck_holds (nf : Nat) : Contract.Holds Try.prog 21 (ref_WayCheck_C nf) :=
  fn_holds (Φ := ref_WayCheck_phi nf) (keep := ref_WayCheck_keep) (n := nf) ⟨tabs.1, tabs.2, (ctx_cons ref_Inside_ok (ref_Inside_holds nf) ctx_nil), mixed, bk_ok bkls rfl⟩ (fn := Try.f21) ⟨Try.func21, by kernel_rfl, by kernel_rfl, by kernel_rfl⟩ (fun x => ref_WayCheck_eq nf x.1)

/-! codemason way.Check 1 -/
def way_Check_1_phi (nf : Nat) : Nat → Option Contract := lookC []
def way_Check_1_keep : Nat → List Nat := lookK []
def way_Check_1_p (nf : Nat)  (j : Int) (c1 : List (List Int)) : Option (Bool × Unit) :=
  bif decide (j < 0) then
    some ((true, ()))
  else
    some ((decide (j ≥ (↑c1.length : Int)), ()))
def way_Check_1_f (nf : Nat) (j : Int) (c1 : List (List Int)) : Option (Bool × Unit) := way_Check_1_p nf  j c1
theorem way_Check_1_eq (nf : Nat) (j : Int) (c1 : List (List Int)) : runF tab (way_Check_1_phi nf) way_Check_1_keep nf [PT.val (Ty.int IntKind.i64) (Md.bor true false), PT.ptr (Ty.int IntKind.i64).sl.sl (Md.bor true false)] [(Ty.bool, Md.bor false true)] (resL ([]) Try.f58) (codeOf Try.f58) ⟨j, c1, ()⟩ = way_Check_1_f nf j c1 := by
  have h : runF tab (way_Check_1_phi nf) way_Check_1_keep nf [PT.val (Ty.int IntKind.i64) (Md.bor true false), PT.ptr (Ty.int IntKind.i64).sl.sl (Md.bor true false)] [(Ty.bool, Md.bor false true)] (resL ([]) Try.f58) (codeOf Try.f58) ⟨j, c1, ()⟩ = way_Check_1_p nf  j c1 := by kernel_rfl
  exact h
def way_Check_1_F (nf : Nat) (x : denPs [.val (.int .i64) (.bor true false), .ptr (.sl (.sl (.int .i64))) (.bor true false)]) : Option (denL [(.bool, .bor false true)]) := way_Check_1_f nf x.1 x.2.1
def way_Check_1_C (nf : Nat) : Contract := ⟨[.val (.int .i64) (.bor true false), .ptr (.sl (.sl (.int .i64))) (.bor true false)], [(.bool, .bor false true)], way_Check_1_F nf, []⟩
theorem way_Check_1_ok : FnOK Try.prog 58 := ⟨Try.f58, codeOf Try.f58, Try.func58, by kernel_rfl, by kernel_rfl⟩
theorem way_Check_1_holds (nf : Nat) : Contract.Holds Try.prog 58 (way_Check_1_C nf) :=
  fn_holds (Φ := way_Check_1_phi nf) (keep := way_Check_1_keep) (n := nf) ⟨tabs.1, tabs.2, ctx_nil, mixed, bk_ok bkls rfl⟩ (fn := Try.f58) ⟨Try.func58, by kernel_rfl, by kernel_rfl, by kernel_rfl⟩ (fun x => way_Check_1_eq nf x.1 x.2.1)

/-! slices.IndexFunc   int int  codemason way.Check 1 -/
def slices_IndexFunc__way_Check_1_phi (nf : Nat) : Nat → Option Contract := lookC [(58, way_Check_1_C nf)]
def slices_IndexFunc__way_Check_1_keep : Nat → List Nat := lookK [(0, [0, 1, 7, 8])]
def slices_IndexFunc__way_Check_1_b0 (nf : Nat) (s : List Int) (f : List (List Int) × Unit) (g0 : Int → Option (Int × Unit)) (t8 : Int) : Option (Int × Unit) :=
  bif decide (t8 < (↑s.length : Int)) then
    bif inb t8 s.length then
      Option.bind (way_Check_1_f nf (s.getD t8.toNat 0) f.fst) fun r =>
      bif r.fst then
        some ((t8, ()))
      else
        g0 (IntKind.i64.wrap (t8 + 1))
    else
      none
  else
    some ((-1, ()))
def slices_IndexFunc__way_Check_1_p (nf : Nat) (l0 : List Int → List (List Int) × Unit → Int → Option (Int × Unit)) (s : List Int) (f : List (List Int) × Unit) : Option (Int × Unit) :=
  l0 s f 0
def slices_IndexFunc__way_Check_1_l0 (nf : Nat) (s : List Int) (f : List (List Int) × Unit) : Nat → Int → Option (Int × Unit)
  | 0, _ => none
  | fu + 1, t8 => slices_IndexFunc__way_Check_1_b0 nf  s f  (slices_IndexFunc__way_Check_1_l0 nf s f  fu) t8
def slices_IndexFunc__way_Check_1_f (nf : Nat) (s : List Int) (f : List (List Int) × Unit) : Option (Int × Unit) := slices_IndexFunc__way_Check_1_p nf (fun p0 p1 v0 => slices_IndexFunc__way_Check_1_l0 nf p0 p1 nf v0) s f
noncomputable def slices_IndexFunc__way_Check_1_L0 (nf : Nat) : LC (Int × Unit) := theL (findL tab (slices_IndexFunc__way_Check_1_phi nf) (fun _ F => iter nf F) slices_IndexFunc__way_Check_1_keep 0 0 (codeOf Try.f75) (fin tab [(Ty.int IntKind.i64, Md.bor false true)] (resL ([]) Try.f75)) (fun _ _ => none) (fin tab [(Ty.int IntKind.i64, Md.bor false true)] (resL ([]) Try.f75)))
def slices_IndexFunc__way_Check_1_m0 (s : List Int) (f : List (List Int) × Unit) (t8 : Int) : St := ⟨fresh, [(0, AV.v (Ty.int IntKind.i64).sl (Md.bor true false) s), (1, AV.clo 58 [AV.rop (Ty.int IntKind.i64).sl.sl (Md.bor true false) f.fst]), (7, AV.v (Ty.int IntKind.i64) (Md.bor false true) (↑s.length : Int)), (8, AV.v (Ty.int IntKind.i64) (Md.bor false true) t8)]⟩
theorem slices_IndexFunc__way_Check_1_h0 (nf : Nat)  (s : List Int) (f : List (List Int) × Unit) (fu : Nat) (t8 : Int) : iter (fu + 1) (LC.F tab (slices_IndexFunc__way_Check_1_phi nf) (fun _ F => iter nf F) slices_IndexFunc__way_Check_1_keep 0 (slices_IndexFunc__way_Check_1_L0 nf )) (slices_IndexFunc__way_Check_1_m0 s f t8) = slices_IndexFunc__way_Check_1_b0 nf  s f  (fun t8 => iter fu (LC.F tab (slices_IndexFunc__way_Check_1_phi nf) (fun _ F => iter nf F) slices_IndexFunc__way_Check_1_keep 0 (slices_IndexFunc__way_Check_1_L0 nf )) (slices_IndexFunc__way_Check_1_m0 s f t8)) t8 := by kernel_rfl
theorem slices_IndexFunc__way_Check_1_e0 (nf : Nat)  (s : List Int) (f : List (List Int) × Unit) : ∀ (fu : Nat) (t8 : Int), iter fu (LC.F tab (slices_IndexFunc__way_Check_1_phi nf) (fun _ F => iter nf F) slices_IndexFunc__way_Check_1_keep 0 (slices_IndexFunc__way_Check_1_L0 nf )) (slices_IndexFunc__way_Check_1_m0 s f t8) = slices_IndexFunc__way_Check_1_l0 nf s f  fu t8 := by
  intro fu
  induction fu with
  | zero => intros; rfl
  | succ fu ih =>
    intro t8
    rw [slices_IndexFunc__way_Check_1_h0 nf  s f fu t8]
    simp only [ih]
    rfl
theorem slices_IndexFunc__way_Check_1_eq (nf : Nat) (s : List Int) (f : List (List Int) × Unit) : runF tab (slices_IndexFunc__way_Check_1_phi nf) slices_IndexFunc__way_Check_1_keep nf [PT.val (Ty.int IntKind.i64).sl (Md.bor true false), PT.clo 58 [((Ty.int IntKind.i64).sl.sl, Md.bor true false)]] [(Ty.int IntKind.i64, Md.bor false true)] (resL ([]) Try.f75) (codeOf Try.f75) ⟨s, f, ()⟩ = slices_IndexFunc__way_Check_1_f nf s f := by
  have h : runF tab (slices_IndexFunc__way_Check_1_phi nf) slices_IndexFunc__way_Check_1_keep nf [PT.val (Ty.int IntKind.i64).sl (Md.bor true false), PT.clo 58 [((Ty.int IntKind.i64).sl.sl, Md.bor true false)]] [(Ty.int IntKind.i64, Md.bor false true)] (resL ([]) Try.f75) (codeOf Try.f75) ⟨s, f, ()⟩ = slices_IndexFunc__way_Check_1_p nf (fun p0 p1 v0 => iter nf (LC.F tab (slices_IndexFunc__way_Check_1_phi nf) (fun _ F => iter nf F) slices_IndexFunc__way_Check_1_keep 0 (slices_IndexFunc__way_Check_1_L0 nf)) (slices_IndexFunc__way_Check_1_m0 p0 p1 v0)) s f := by kernel_rfl
  rw [h]
  simp only [slices_IndexFunc__way_Check_1_e0]
  rfl
def slices_IndexFunc__way_Check_1_F (nf : Nat) (x : denPs [.val (.sl (.int .i64)) (.bor true false), .clo 58 [(.sl (.sl (.int .i64)), .bor true false)]]) : Option (denL [(.int .i64, .bor false true)]) := slices_IndexFunc__way_Check_1_f nf x.1 x.2.1
def slices_IndexFunc__way_Check_1_C (nf : Nat) : Contract := ⟨[.val (.sl (.int .i64)) (.bor true false), .clo 58 [(.sl (.sl (.int .i64)), .bor true false)]], [(.int .i64, .bor false true)], slices_IndexFunc__way_Check_1_F nf, []⟩
theorem slices_IndexFunc__way_Check_1_ok : FnOK Try.prog 75 := ⟨Try.f75, codeOf Try.f75, Try.func75, by kernel_rfl, by kernel_rfl⟩
theorem slices_IndexFunc__way_Check_1_holds (nf : Nat) : Contract.Holds Try.prog 75 (slices_IndexFunc__way_Check_1_C nf) :=
  fn_holds (Φ := slices_IndexFunc__way_Check_1_phi nf) (keep := slices_IndexFunc__way_Check_1_keep) (n := nf) ⟨tabs.1, tabs.2, (ctx_cons way_Check_1_ok (way_Check_1_holds nf) ctx_nil), mixed, bk_ok bkls rfl⟩ (fn := Try.f75) ⟨Try.func75, by kernel_rfl, by kernel_rfl, by kernel_rfl⟩ (fun x => slices_IndexFunc__way_Check_1_eq nf x.1 x.2.1)

/-! slices.ContainsFunc   int int  codemason way.Check 1 -/
def slices_ContainsFunc__way_Check_1_phi (nf : Nat) : Nat → Option Contract := lookC [(75, slices_IndexFunc__way_Check_1_C nf)]
def slices_ContainsFunc__way_Check_1_keep : Nat → List Nat := lookK []
def slices_ContainsFunc__way_Check_1_p (nf : Nat)  (s : List Int) (f : List (List Int) × Unit) : Option (Bool × Unit) :=
  Option.bind (slices_IndexFunc__way_Check_1_f nf s ((f.fst, ()))) fun r =>
  some ((decide (r.fst ≥ 0), ()))
def slices_ContainsFunc__way_Check_1_f (nf : Nat) (s : List Int) (f : List (List Int) × Unit) : Option (Bool × Unit) := slices_ContainsFunc__way_Check_1_p nf  s f
theorem slices_ContainsFunc__way_Check_1_eq (nf : Nat) (s : List Int) (f : List (List Int) × Unit) : runF tab (slices_ContainsFunc__way_Check_1_phi nf) slices_ContainsFunc__way_Check_1_keep nf [PT.val (Ty.int IntKind.i64).sl (Md.bor true false), PT.clo 58 [((Ty.int IntKind.i64).sl.sl, Md.bor true false)]] [(Ty.bool, Md.bor false true)] (resL ([]) Try.f57) (codeOf Try.f57) ⟨s, f, ()⟩ = slices_ContainsFunc__way_Check_1_f nf s f := by
  have h : runF tab (slices_ContainsFunc__way_Check_1_phi nf) slices_ContainsFunc__way_Check_1_keep nf [PT.val (Ty.int IntKind.i64).sl (Md.bor true false), PT.clo 58 [((Ty.int IntKind.i64).sl.sl, Md.bor true false)]] [(Ty.bool, Md.bor false true)] (resL ([]) Try.f57) (codeOf Try.f57) ⟨s, f, ()⟩ = slices_ContainsFunc__way_Check_1_p nf  s f := by kernel_rfl
  exact h
def slices_ContainsFunc__way_Check_1_F (nf : Nat) (x : denPs [.val (.sl (.int .i64)) (.bor true false), .clo 58 [(.sl (.sl (.int .i64)), .bor true false)]]) : Option (denL [(.bool, .bor false true)]) := slices_ContainsFunc__way_Check_1_f nf x.1 x.2.1
def slices_ContainsFunc__way_Check_1_C (nf : Nat) : Contract := ⟨[.val (.sl (.int .i64)) (.bor true false), .clo 58 [(.sl (.sl (.int .i64)), .bor true false)]], [(.bool, .bor false true)], slices_ContainsFunc__way_Check_1_F nf, []⟩
theorem slices_ContainsFunc__way_Check_1_ok : FnOK Try.prog 57 := ⟨Try.f57, codeOf Try.f57, Try.func57, by kernel_rfl, by kernel_rfl⟩
theorem slices_ContainsFunc__way_Check_1_holds (nf : Nat) : Contract.Holds Try.prog 57 (slices_ContainsFunc__way_Check_1_C nf) :=
  fn_holds (Φ := slices_ContainsFunc__way_Check_1_phi nf) (keep := slices_ContainsFunc__way_Check_1_keep) (n := nf) ⟨tabs.1, tabs.2, (ctx_cons slices_IndexFunc__way_Check_1_ok (slices_IndexFunc__way_Check_1_holds nf) ctx_nil), mixed, bk_ok bkls rfl⟩ (fn := Try.f57) ⟨Try.func57, by kernel_rfl, by kernel_rfl, by kernel_rfl⟩ (fun x => slices_ContainsFunc__way_Check_1_eq nf x.1 x.2.1)

/-! codemason way.Check -/
def way_Check_phi (nf : Nat) : Nat → Option Contract := lookC [(57, slices_ContainsFunc__way_Check_1_C nf)]
def way_Check_keep : Nat → List Nat := lookK [(0, [0, 1, 13, 14, 15])]
def way_Check_b0 (nf : Nat) (next : List (List Int)) (g0 : List (List Int) → Int → Option (Int × Unit)) (next2 : List (List Int)) (t15 : Int) : Option (Int × Unit) :=
  bif decide (t15 < (↑next.length : Int)) then
    bif inb t15 next.length then
      bif decide ((↑(List.length (next.getD t15.toNat [])) : Int) > 3) then
        some ((1, ()))
      else
        Option.bind (slices_ContainsFunc__way_Check_1_f nf (next.getD t15.toNat []) ((next2, ()))) fun r =>
        bif r.fst then
          some ((2, ()))
        else
          g0 next2 (IntKind.i64.wrap (t15 + 1))
    else
      none
  else
    some ((0, ()))
def way_Check_p (nf : Nat) (l0 : List (List Int) → List (List Int) → Int → Option (Int × Unit)) (next : List (List Int)) : Option (Int × Unit) :=
  bif decide ((↑next.length : Int) < 1) then
    some ((1, ()))
  else
    bif decide ((↑next.length : Int) > 8) then
      some ((1, ()))
    else
      l0 next next 0
def way_Check_l0 (nf : Nat) (next : List (List Int)) : Nat → List (List Int) → Int → Option (Int × Unit)
  | 0, _, _ => none
  | fu + 1, next2, t15 => way_Check_b0 nf  next  (way_Check_l0 nf next  fu) next2 t15
def way_Check_f (nf : Nat) (next : List (List Int)) : Option (Int × Unit) := way_Check_p nf (fun p0 v0 v1 => way_Check_l0 nf p0 nf v0 v1) next
noncomputable def way_Check_L0 (nf : Nat) : LC (Int × Unit) := theL (findL tab (way_Check_phi nf) (fun _ F => iter nf F) way_Check_keep 0 0 (codeOf Try.f20) (fin tab [(Ty.int IntKind.i64, Md.bor false true)] (resL ([]) Try.f20)) (fun _ _ => none) (fin tab [(Ty.int IntKind.i64, Md.bor false true)] (resL ([]) Try.f20)))
def way_Check_m0 (next : List (List Int)) (next2 : List (List Int)) (t15 : Int) : St := ⟨fresh, [(0, AV.v (Ty.int IntKind.i64).sl.sl (Md.bor true false) next), (1, AV.box 1 500001 (Ty.int IntKind.i64).sl.sl (Md.bor true false) next2), (13, AV.v (Ty.int IntKind.i64).sl.sl (Md.bor true false) next), (14, AV.v (Ty.int IntKind.i64) (Md.bor false true) (↑next.length : Int)), (15, AV.v (Ty.int IntKind.i64) (Md.bor false true) t15)]⟩
theorem way_Check_h0 (nf : Nat)  (next : List (List Int)) (fu : Nat) (next2 : List (List Int)) (t15 : Int) : iter (fu + 1) (LC.F tab (way_Check_phi nf) (fun _ F => iter nf F) way_Check_keep 0 (way_Check_L0 nf )) (way_Check_m0 next next2 t15) = way_Check_b0 nf  next  (fun next2 t15 => iter fu (LC.F tab (way_Check_phi nf) (fun _ F => iter nf F) way_Check_keep 0 (way_Check_L0 nf )) (way_Check_m0 next next2 t15)) next2 t15 := by kernel_rfl
theorem way_Check_e0 (nf : Nat)  (next : List (List Int)) : ∀ (fu : Nat) (next2 : List (List Int)) (t15 : Int), iter fu (LC.F tab (way_Check_phi nf) (fun _ F => iter nf F) way_Check_keep 0 (way_Check_L0 nf )) (way_Check_m0 next next2 t15) = way_Check_l0 nf next  fu next2 t15 := by
  intro fu
  induction fu with
  | zero => intros; rfl
  | succ fu ih =>
    intro next2 t15
    rw [way_Check_h0 nf  next fu next2 t15]
    simp only [ih]
    rfl
theorem way_Check_eq (nf : Nat) (next : List (List Int)) : runF tab (way_Check_phi nf) way_Check_keep nf [PT.val (Ty.int IntKind.i64).sl.sl (Md.bor true false)] [(Ty.int IntKind.i64, Md.bor false true)] (resL ([]) Try.f20) (codeOf Try.f20) ⟨next, ()⟩ = way_Check_f nf next := by
  have h : runF tab (way_Check_phi nf) way_Check_keep nf [PT.val (Ty.int IntKind.i64).sl.sl (Md.bor true false)] [(Ty.int IntKind.i64, Md.bor false true)] (resL ([]) Try.f20) (codeOf Try.f20) ⟨next, ()⟩ = way_Check_p nf (fun p0 v0 v1 => iter nf (LC.F tab (way_Check_phi nf) (fun _ F => iter nf F) way_Check_keep 0 (way_Check_L0 nf)) (way_Check_m0 p0 v0 v1)) next := by kernel_rfl
  rw [h]
  simp only [way_Check_e0]
  rfl
def way_Check_F (nf : Nat) (x : denPs [.val (.sl (.sl (.int .i64))) (.bor true false)]) : Option (denL [(.int .i64, .bor false true)]) := way_Check_f nf x.1
def way_Check_C (nf : Nat) : Contract := ⟨[.val (.sl (.sl (.int .i64))) (.bor true false)], [(.int .i64, .bor false true)], way_Check_F nf, []⟩
theorem way_Check_ok : FnOK Try.prog 20 := ⟨Try.f20, codeOf Try.f20, Try.func20, by kernel_rfl, by kernel_rfl⟩
theorem way_Check_holds (nf : Nat) : Contract.Holds Try.prog 20 (way_Check_C nf) :=
  fn_holds (Φ := way_Check_phi nf) (keep := way_Check_keep) (n := nf) ⟨tabs.1, tabs.2, (ctx_cons slices_ContainsFunc__way_Check_1_ok (slices_ContainsFunc__way_Check_1_holds nf) ctx_nil), mixed, bk_ok bkls rfl⟩ (fn := Try.f20) ⟨Try.func20, by kernel_rfl, by kernel_rfl, by kernel_rfl⟩ (fun x => way_Check_eq nf x.1)

/-! codemason way.From -/
def way_From_phi (nf : Nat) : Nat → Option Contract := lookC []
def way_From_keep : Nat → List Nat := lookK [(2, [0, 2, 7, 8, 17, 21, 22, 23, 27, 28, 29, 30, 51]), (0, [0, 2, 7, 8, 17, 21, 22, 51])]
def way_From_b0 (nf : Nat) (l2 : List (List Int) → Int → List Int → Int → List Int → Int → Option (Int × Unit)) (next : List (List Int)) (without : Int) (g0 : Int → List Int → Option (Int × Unit)) (set' : Int) (queue : List Int) : Option (Int × Unit) :=
  bif decide ((↑queue.length : Int) > 0) then
    bif inb 0 queue.length then
      bif inb (queue.getD 0 0) next.length then
        l2 next without queue set' queue 0
      else
        none
    else
      none
  else
    some ((set', ()))
def way_From_b2 (nf : Nat) (next : List (List Int)) (without : Int) (queue : List Int) (g0 : Int → List Int → Option (Int × Unit)) (g2 : Int → List Int → Int → Option (Int × Unit)) (set'2 : Int) (queue2 : List Int) (t30 : Int) : Option (Int × Unit) :=
  bif decide (t30 < (↑(List.length (next.getD (Int.toNat (queue.getD 0 0)) [])) : Int)) then
    bif inb t30 (List.length (next.getD (Int.toNat (queue.getD 0 0)) [])) then
      bif List.getD (next.getD (Int.toNat (queue.getD 0 0)) []) t30.toNat 0 != without then
        bif decide (0 ≤ List.getD (next.getD (Int.toNat (queue.getD 0 0)) []) t30.toNat 0) then
          bif IntKind.u32.wrap (↑(BitVec.ofInt IntKind.u32.bits (shrI IntKind.u32 set'2 (List.getD (next.getD (Int.toNat (queue.getD 0 0)) []) t30.toNat 0)) &&& BitVec.ofInt IntKind.u32.bits 1).toNat : Int) == 0 then
            bif decide (0 ≤ List.getD (next.getD (Int.toNat (queue.getD 0 0)) []) t30.toNat 0) then
              bif bimp false ![List.getD (next.getD (Int.toNat (queue.getD 0 0)) []) t30.toNat 0].isEmpty && (queue2.length + [List.getD (next.getD (Int.toNat (queue.getD 0 0)) []) t30.toNat 0].length).ble lim then
                g2 (IntKind.u32.wrap (↑(BitVec.ofInt IntKind.u32.bits set'2 ||| BitVec.ofInt IntKind.u32.bits (shlI IntKind.u32 1 (List.getD (next.getD (Int.toNat (queue.getD 0 0)) []) t30.toNat 0))).toNat : Int)) (queue2 ++ [List.getD (next.getD (Int.toNat (queue.getD 0 0)) []) t30.toNat 0]) (IntKind.i64.wrap (t30 + 1))
              else
                none
            else
              none
          else
            g2 set'2 queue2 (IntKind.i64.wrap (t30 + 1))
        else
          none
      else
        g2 set'2 queue2 (IntKind.i64.wrap (t30 + 1))
    else
      none
  else
    bif decide (0 ≤ 1) && decide (1 ≤ (↑queue2.length : Int)) && decide ((↑queue2.length : Int) ≤ (↑queue2.length : Int)) then
      g0 set'2 (List.take ((↑queue2.length : Int) - 1).toNat (List.drop 1 queue2))
    else
      none
def way_From_p (nf : Nat) (l0 : List (List Int) → Int → Int → List Int → Option (Int × Unit)) (next : List (List Int)) (i : Int) (without : Int) : Option (Int × Unit) :=
  bif i == without then
    some ((0, ()))
  else
    bif decide (0 ≤ i) then
      l0 next without (shlI IntKind.u32 1 i) [i]
    else
      none
def way_From_l2 (nf : Nat) (next : List (List Int)) (without : Int) (queue : List Int) (g0 : Int → List Int → Option (Int × Unit)) : Nat → Int → List Int → Int → Option (Int × Unit)
  | 0, _, _, _ => none
  | fu + 1, set'2, queue2, t30 => way_From_b2 nf  next without queue g0 (way_From_l2 nf next without queue g0 fu) set'2 queue2 t30
def way_From_l0 (nf : Nat) (next : List (List Int)) (without : Int) : Nat → Int → List Int → Option (Int × Unit)
  | 0, _, _ => none
  | fu + 1, set', queue => way_From_b0 nf (fun _ _ p2 v0 v1 v2 => way_From_l2 nf next without p2 (fun set' queue => way_From_l0 nf next without  fu set' queue) nf v0 v1 v2) next without  (way_From_l0 nf next without  fu) set' queue
def way_From_f (nf : Nat) (next : List (List Int)) (i : Int) (without : Int) : Option (Int × Unit) := way_From_p nf (fun p0 p1 v0 v1 => way_From_l0 nf p0 p1 nf v0 v1) next i without
noncomputable def way_From_L0 (nf : Nat) : LC (Int × Unit) := theL (findL tab (way_From_phi nf) (fun _ F => iter nf F) way_From_keep 0 0 (codeOf Try.f59) (fin tab [(Ty.int IntKind.u32, Md.bor false true)] (resL ([]) Try.f59)) (fun _ _ => none) (fin tab [(Ty.int IntKind.u32, Md.bor false true)] (resL ([]) Try.f59)))
def way_From_m0 (next : List (List Int)) (without : Int) (set' : Int) (queue : List Int) : St := ⟨fresh, [(0, AV.v (Ty.int IntKind.i64).sl.sl (Md.bor true false) next), (2, AV.v (Ty.int IntKind.i64) (Md.bor false true) without), (7, AV.v (Ty.int IntKind.u32) (Md.bor false true) set'), (8, AV.ow 500008 (Ty.int IntKind.i64).sl (Md.own false (Md.bor false false)) queue), (17, AV.dead), (21, AV.dead), (22, AV.dead), (51, AV.dead)]⟩
noncomputable def way_From_L2 (nf : Nat) (G0 : St → Option (Int × Unit)) : LC (Int × Unit) := theL (findL tab (way_From_phi nf) (fun _ F => iter nf F) way_From_keep 2 0 (way_From_L0 nf ).c (fun st => norm (way_From_keep 0) st G0) (way_From_L0 nf ).Kx (way_From_L0 nf ).Kr)
def way_From_m2 (next : List (List Int)) (without : Int) (queue : List Int) (set'2 : Int) (queue2 : List Int) (t30 : Int) : St := ⟨fresh, [(0, AV.v (Ty.int IntKind.i64).sl.sl (Md.bor true false) next), (2, AV.v (Ty.int IntKind.i64) (Md.bor false true) without), (7, AV.v (Ty.int IntKind.u32) (Md.bor false true) set'2), (8, AV.ow 500008 (Ty.int IntKind.i64).sl (Md.own false (Md.bor false false)) queue2), (17, AV.dead), (21, AV.dead), (22, AV.dead), (23, AV.v (Ty.int IntKind.i64).sl.sl (Md.bor true false) next), (27, AV.rop (Ty.int IntKind.i64).sl (Md.bor true false) (next.getD (Int.toNat (queue.getD 0 0)) [])), (28, AV.v (Ty.int IntKind.i64).sl (Md.bor true false) (next.getD (Int.toNat (queue.getD 0 0)) [])), (29, AV.v (Ty.int IntKind.i64) (Md.bor false true) (↑(List.length (next.getD (Int.toNat (queue.getD 0 0)) [])) : Int)), (30, AV.v (Ty.int IntKind.i64) (Md.bor false true) t30), (51, AV.dead)]⟩
theorem way_From_h2 (nf : Nat) (G0 : St → Option (Int × Unit)) (next : List (List Int)) (without : Int) (queue : List Int) (fu : Nat) (set'2 : Int) (queue2 : List Int) (t30 : Int) : iter (fu + 1) (LC.F tab (way_From_phi nf) (fun _ F => iter nf F) way_From_keep 2 (way_From_L2 nf G0)) (way_From_m2 next without queue set'2 queue2 t30) = way_From_b2 nf  next without queue (fun set' queue => G0 (way_From_m0 next without set' queue)) (fun set'2 queue2 t30 => iter fu (LC.F tab (way_From_phi nf) (fun _ F => iter nf F) way_From_keep 2 (way_From_L2 nf G0)) (way_From_m2 next without queue set'2 queue2 t30)) set'2 queue2 t30 := by kernel_rfl
theorem way_From_e2 (nf : Nat) (G0 : St → Option (Int × Unit)) (next : List (List Int)) (without : Int) (queue : List Int) : ∀ (fu : Nat) (set'2 : Int) (queue2 : List Int) (t30 : Int), iter fu (LC.F tab (way_From_phi nf) (fun _ F => iter nf F) way_From_keep 2 (way_From_L2 nf G0)) (way_From_m2 next without queue set'2 queue2 t30) = way_From_l2 nf next without queue (fun set' queue => G0 (way_From_m0 next without set' queue)) fu set'2 queue2 t30 := by
  intro fu
  induction fu with
  | zero => intros; rfl
  | succ fu ih =>
    intro set'2 queue2 t30
    rw [way_From_h2 nf G0 next without queue fu set'2 queue2 t30]
    simp only [ih]
    rfl
theorem way_From_h0 (nf : Nat)  (next : List (List Int)) (without : Int) (fu : Nat) (set' : Int) (queue : List Int) : iter (fu + 1) (LC.F tab (way_From_phi nf) (fun _ F => iter nf F) way_From_keep 0 (way_From_L0 nf )) (way_From_m0 next without set' queue) = way_From_b0 nf (fun _ _ p2 v0 v1 v2 => iter nf (LC.F tab (way_From_phi nf) (fun _ F => iter nf F) way_From_keep 2 (way_From_L2 nf (iter fu (LC.F tab (way_From_phi nf) (fun _ F => iter nf F) way_From_keep 0 (way_From_L0 nf ))))) (way_From_m2 next without p2 v0 v1 v2)) next without  (fun set' queue => iter fu (LC.F tab (way_From_phi nf) (fun _ F => iter nf F) way_From_keep 0 (way_From_L0 nf )) (way_From_m0 next without set' queue)) set' queue := by kernel_rfl
theorem way_From_e0 (nf : Nat)  (next : List (List Int)) (without : Int) : ∀ (fu : Nat) (set' : Int) (queue : List Int), iter fu (LC.F tab (way_From_phi nf) (fun _ F => iter nf F) way_From_keep 0 (way_From_L0 nf )) (way_From_m0 next without set' queue) = way_From_l0 nf next without  fu set' queue := by
  intro fu
  induction fu with
  | zero => intros; rfl
  | succ fu ih =>
    intro set' queue
    rw [way_From_h0 nf  next without fu set' queue]
    simp only [ih, way_From_e2]
    rfl
theorem way_From_eq (nf : Nat) (next : List (List Int)) (i : Int) (without : Int) : runF tab (way_From_phi nf) way_From_keep nf [PT.val (Ty.int IntKind.i64).sl.sl (Md.bor true false), PT.val (Ty.int IntKind.i64) (Md.bor true false), PT.val (Ty.int IntKind.i64) (Md.bor true false)] [(Ty.int IntKind.u32, Md.bor false true)] (resL ([]) Try.f59) (codeOf Try.f59) ⟨next, i, without, ()⟩ = way_From_f nf next i without := by
  have h : runF tab (way_From_phi nf) way_From_keep nf [PT.val (Ty.int IntKind.i64).sl.sl (Md.bor true false), PT.val (Ty.int IntKind.i64) (Md.bor true false), PT.val (Ty.int IntKind.i64) (Md.bor true false)] [(Ty.int IntKind.u32, Md.bor false true)] (resL ([]) Try.f59) (codeOf Try.f59) ⟨next, i, without, ()⟩ = way_From_p nf (fun p0 p1 v0 v1 => iter nf (LC.F tab (way_From_phi nf) (fun _ F => iter nf F) way_From_keep 0 (way_From_L0 nf)) (way_From_m0 p0 p1 v0 v1)) next i without := by kernel_rfl
  rw [h]
  simp only [way_From_e0]
  rfl
def way_From_F (nf : Nat) (x : denPs [.val (.sl (.sl (.int .i64))) (.bor true false), .val (.int .i64) (.bor true false), .val (.int .i64) (.bor true false)]) : Option (denL [(.int .u32, .bor false true)]) := way_From_f nf x.1 x.2.1 x.2.2.1
def way_From_C (nf : Nat) : Contract := ⟨[.val (.sl (.sl (.int .i64))) (.bor true false), .val (.int .i64) (.bor true false), .val (.int .i64) (.bor true false)], [(.int .u32, .bor false true)], way_From_F nf, []⟩
theorem way_From_ok : FnOK Try.prog 59 := ⟨Try.f59, codeOf Try.f59, Try.func59, by kernel_rfl, by kernel_rfl⟩
theorem way_From_holds (nf : Nat) : Contract.Holds Try.prog 59 (way_From_C nf) :=
  fn_holds (Φ := way_From_phi nf) (keep := way_From_keep) (n := nf) ⟨tabs.1, tabs.2, ctx_nil, mixed, bk_ok bkls rfl⟩ (fn := Try.f59) ⟨Try.func59, by kernel_rfl, by kernel_rfl, by kernel_rfl⟩ (fun x => way_From_eq nf x.1 x.2.1 x.2.2.1)

/-! codemason loop.to -/
def loop_to_phi (nf : Nat) : Nat → Option Contract := lookC [(59, way_From_C nf)]
def loop_to_keep : Nat → List Nat := lookK [(2, [0, 3, 4, 5, 6, 13, 14, 15, 16, 19, 20, 21, 22, 23]), (0, [0, 3, 4, 13, 14, 15, 16])]
def loop_to_b0 (nf : Nat) (l2 : List (List Int) → Int × Unit → Int → List Int → Int → Option (List Int × Unit)) (next : List (List Int)) (r : Int × Unit) (g0 : List Int → Int → Option (List Int × Unit)) (out : List Int) (t16 : Int) : Option (List Int × Unit) :=
  bif decide (t16 < (↑next.length : Int)) then
    bif inb t16 next.length then
      l2 next r t16 out 0
    else
      none
  else
    some ((out, ()))
def loop_to_b2 (nf : Nat) (next : List (List Int)) (r : Int × Unit) (t16 : Int) (g0 : List Int → Int → Option (List Int × Unit)) (g2 : List Int → Int → Option (List Int × Unit)) (out2 : List Int) (t23 : Int) : Option (List Int × Unit) :=
  bif decide (t23 < (↑(List.length (next.getD t16.toNat [])) : Int)) then
    bif inb t23 (List.length (next.getD t16.toNat [])) then
      bif decide (0 ≤ t16) then
        bif IntKind.u32.wrap (↑(BitVec.ofInt IntKind.u32.bits (shrI IntKind.u32 r.fst t16) &&& BitVec.ofInt IntKind.u32.bits 1).toNat : Int) == 1 then
          bif inb (List.getD (next.getD t16.toNat []) t23.toNat 0) out2.length then
            bif decide (0 ≤ t16) then
              bif inb (List.getD (next.getD t16.toNat []) t23.toNat 0) out2.length then
                g2 (out2.set (Int.toNat (List.getD (next.getD t16.toNat []) t23.toNat 0)) (IntKind.u32.wrap (↑(BitVec.ofInt IntKind.u32.bits (out2.getD (Int.toNat (List.getD (next.getD t16.toNat []) t23.toNat 0)) 0) ||| BitVec.ofInt IntKind.u32.bits (shlI IntKind.u32 1 t16)).toNat : Int))) (IntKind.i64.wrap (t23 + 1))
              else
                none
            else
              none
          else
            none
        else
          g2 out2 (IntKind.i64.wrap (t23 + 1))
      else
        none
    else
      none
  else
    g0 out2 (IntKind.i64.wrap (t16 + 1))
def loop_to_p (nf : Nat) (l0 : List (List Int) → Int × Unit → List Int → Int → Option (List Int × Unit)) (next : List (List Int)) : Option (List Int × Unit) :=
  Option.bind (way_From_f nf next 0 (-1)) fun r =>
  bif decide (0 ≤ (↑next.length : Int)) && decide ((↑next.length : Int) ≤ (↑next.length : Int)) && decide ((↑next.length : Int) ≤ (↑lim : Int)) then
    l0 next r (List.replicate (↑next.length : Int).toNat 0) 0
  else
    none
def loop_to_l2 (nf : Nat) (next : List (List Int)) (r : Int × Unit) (t16 : Int) (g0 : List Int → Int → Option (List Int × Unit)) : Nat → List Int → Int → Option (List Int × Unit)
  | 0, _, _ => none
  | fu + 1, out2, t23 => loop_to_b2 nf  next r t16 g0 (loop_to_l2 nf next r t16 g0 fu) out2 t23
def loop_to_l0 (nf : Nat) (next : List (List Int)) (r : Int × Unit) : Nat → List Int → Int → Option (List Int × Unit)
  | 0, _, _ => none
  | fu + 1, out, t16 => loop_to_b0 nf (fun _ _ p2 v0 v1 => loop_to_l2 nf next r p2 (fun out t16 => loop_to_l0 nf next r  fu out t16) nf v0 v1) next r  (loop_to_l0 nf next r  fu) out t16
def loop_to_f (nf : Nat) (next : List (List Int)) : Option (List Int × Unit) := loop_to_p nf (fun p0 p1 v0 v1 => loop_to_l0 nf p0 p1 nf v0 v1) next
noncomputable def loop_to_L0 (nf : Nat) : LC (List Int × Unit) := theL (findL tab (loop_to_phi nf) (fun _ F => iter nf F) loop_to_keep 0 0 (codeOf Try.f68) (fin tab [((Ty.int IntKind.u32).sl, Md.own false (Md.bor false false))] (resL ([]) Try.f68)) (fun _ _ => none) (fin tab [((Ty.int IntKind.u32).sl, Md.own false (Md.bor false false))] (resL ([]) Try.f68)))
def loop_to_m0 (next : List (List Int)) (r : Int × Unit) (out : List Int) (t16 : Int) : St := ⟨fresh, [(0, AV.v (Ty.int IntKind.i64).sl.sl (Md.bor true false) next), (3, AV.v (Ty.int IntKind.u32) (Md.bor false true) r.fst), (4, AV.ow 500004 (Ty.int IntKind.u32).sl (Md.own false (Md.bor false false)) out), (13, AV.dead), (14, AV.v (Ty.int IntKind.i64).sl.sl (Md.bor true false) next), (15, AV.v (Ty.int IntKind.i64) (Md.bor false true) (↑next.length : Int)), (16, AV.v (Ty.int IntKind.i64) (Md.bor false true) t16)]⟩
noncomputable def loop_to_L2 (nf : Nat) (G0 : St → Option (List Int × Unit)) : LC (List Int × Unit) := theL (findL tab (loop_to_phi nf) (fun _ F => iter nf F) loop_to_keep 2 0 (loop_to_L0 nf ).c (fun st => norm (loop_to_keep 0) st G0) (loop_to_L0 nf ).Kx (loop_to_L0 nf ).Kr)
def loop_to_m2 (next : List (List Int)) (r : Int × Unit) (t16 : Int) (out2 : List Int) (t23 : Int) : St := ⟨fresh, [(0, AV.v (Ty.int IntKind.i64).sl.sl (Md.bor true false) next), (3, AV.v (Ty.int IntKind.u32) (Md.bor false true) r.fst), (4, AV.ow 500004 (Ty.int IntKind.u32).sl (Md.own false (Md.bor false false)) out2), (5, AV.v (Ty.int IntKind.i64) (Md.bor false true) t16), (6, AV.v (Ty.int IntKind.i64).sl (Md.bor true false) (next.getD t16.toNat [])), (13, AV.dead), (14, AV.v (Ty.int IntKind.i64).sl.sl (Md.bor true false) next), (15, AV.v (Ty.int IntKind.i64) (Md.bor false true) (↑next.length : Int)), (16, AV.v (Ty.int IntKind.i64) (Md.bor false true) t16), (19, AV.rop (Ty.int IntKind.i64).sl (Md.bor true false) (next.getD t16.toNat [])), (20, AV.v (Ty.int IntKind.i64).sl (Md.bor true false) (next.getD t16.toNat [])), (21, AV.v (Ty.int IntKind.i64).sl (Md.bor true false) (next.getD t16.toNat [])), (22, AV.v (Ty.int IntKind.i64) (Md.bor false true) (↑(List.length (next.getD t16.toNat [])) : Int)), (23, AV.v (Ty.int IntKind.i64) (Md.bor false true) t23)]⟩
theorem loop_to_h2 (nf : Nat) (G0 : St → Option (List Int × Unit)) (next : List (List Int)) (r : Int × Unit) (t16 : Int) (fu : Nat) (out2 : List Int) (t23 : Int) : iter (fu + 1) (LC.F tab (loop_to_phi nf) (fun _ F => iter nf F) loop_to_keep 2 (loop_to_L2 nf G0)) (loop_to_m2 next r t16 out2 t23) = loop_to_b2 nf  next r t16 (fun out t16 => G0 (loop_to_m0 next r out t16)) (fun out2 t23 => iter fu (LC.F tab (loop_to_phi nf) (fun _ F => iter nf F) loop_to_keep 2 (loop_to_L2 nf G0)) (loop_to_m2 next r t16 out2 t23)) out2 t23 := by kernel_rfl
theorem loop_to_e2 (nf : Nat) (G0 : St → Option (List Int × Unit)) (next : List (List Int)) (r : Int × Unit) (t16 : Int) : ∀ (fu : Nat) (out2 : List Int) (t23 : Int), iter fu (LC.F tab (loop_to_phi nf) (fun _ F => iter nf F) loop_to_keep 2 (loop_to_L2 nf G0)) (loop_to_m2 next r t16 out2 t23) = loop_to_l2 nf next r t16 (fun out t16 => G0 (loop_to_m0 next r out t16)) fu out2 t23 := by
  intro fu
  induction fu with
  | zero => intros; rfl
  | succ fu ih =>
    intro out2 t23
    rw [loop_to_h2 nf G0 next r t16 fu out2 t23]
    simp only [ih]
    rfl
theorem loop_to_h0 (nf : Nat)  (next : List (List Int)) (r : Int × Unit) (fu : Nat) (out : List Int) (t16 : Int) : iter (fu + 1) (LC.F tab (loop_to_phi nf) (fun _ F => iter nf F) loop_to_keep 0 (loop_to_L0 nf )) (loop_to_m0 next r out t16) = loop_to_b0 nf (fun _ _ p2 v0 v1 => iter nf (LC.F tab (loop_to_phi nf) (fun _ F => iter nf F) loop_to_keep 2 (loop_to_L2 nf (iter fu (LC.F tab (loop_to_phi nf) (fun _ F => iter nf F) loop_to_keep 0 (loop_to_L0 nf ))))) (loop_to_m2 next r p2 v0 v1)) next r  (fun out t16 => iter fu (LC.F tab (loop_to_phi nf) (fun _ F => iter nf F) loop_to_keep 0 (loop_to_L0 nf )) (loop_to_m0 next r out t16)) out t16 := by kernel_rfl
theorem loop_to_e0 (nf : Nat)  (next : List (List Int)) (r : Int × Unit) : ∀ (fu : Nat) (out : List Int) (t16 : Int), iter fu (LC.F tab (loop_to_phi nf) (fun _ F => iter nf F) loop_to_keep 0 (loop_to_L0 nf )) (loop_to_m0 next r out t16) = loop_to_l0 nf next r  fu out t16 := by
  intro fu
  induction fu with
  | zero => intros; rfl
  | succ fu ih =>
    intro out t16
    rw [loop_to_h0 nf  next r fu out t16]
    simp only [ih, loop_to_e2]
    rfl
theorem loop_to_eq (nf : Nat) (next : List (List Int)) : runF tab (loop_to_phi nf) loop_to_keep nf [PT.val (Ty.int IntKind.i64).sl.sl (Md.bor true false)] [((Ty.int IntKind.u32).sl, Md.own false (Md.bor false false))] (resL ([]) Try.f68) (codeOf Try.f68) ⟨next, ()⟩ = loop_to_f nf next := by
  have h : runF tab (loop_to_phi nf) loop_to_keep nf [PT.val (Ty.int IntKind.i64).sl.sl (Md.bor true false)] [((Ty.int IntKind.u32).sl, Md.own false (Md.bor false false))] (resL ([]) Try.f68) (codeOf Try.f68) ⟨next, ()⟩ = loop_to_p nf (fun p0 p1 v0 v1 => iter nf (LC.F tab (loop_to_phi nf) (fun _ F => iter nf F) loop_to_keep 0 (loop_to_L0 nf)) (loop_to_m0 p0 p1 v0 v1)) next := by kernel_rfl
  rw [h]
  simp only [loop_to_e0]
  rfl
def loop_to_F (nf : Nat) (x : denPs [.val (.sl (.sl (.int .i64))) (.bor true false)]) : Option (denL [(.sl (.int .u32), .own false (.bor false false))]) := loop_to_f nf x.1
def loop_to_C (nf : Nat) : Contract := ⟨[.val (.sl (.sl (.int .i64))) (.bor true false)], [(.sl (.int .u32), .own false (.bor false false))], loop_to_F nf, []⟩
theorem loop_to_ok : FnOK Try.prog 68 := ⟨Try.f68, codeOf Try.f68, Try.func68, by kernel_rfl, by kernel_rfl⟩
theorem loop_to_holds (nf : Nat) : Contract.Holds Try.prog 68 (loop_to_C nf) :=
  fn_holds (Φ := loop_to_phi nf) (keep := loop_to_keep) (n := nf) ⟨tabs.1, tabs.2, (ctx_cons way_From_ok (way_From_holds nf) ctx_nil), mixed, bk_ok bkls rfl⟩ (fn := Try.f68) ⟨Try.func68, by kernel_rfl, by kernel_rfl, by kernel_rfl⟩ (fun x => loop_to_eq nf x.1)

/-! codemason loop.Fold -/
def loop_Fold_phi (nf : Nat) : Nat → Option Contract := lookC [(20, way_Check_C nf), (59, way_From_C nf), (66, bits_OnesCount32_C nf), (68, loop_to_C nf)]
def loop_Fold_keep : Nat → List Nat := lookK [(4, [0, 5, 6, 8, 16, 21, 22, 51, 52]), (2, [0, 5, 6, 7, 16, 21, 22]), (0, [0, 5, 6, 7, 16])]
def loop_Fold_b0 (nf : Nat) (l2 : List (List Int) → List Int → Int → Bool → Int → Option (Int × Int × Unit)) (next : List (List Int)) (g0 : List Int → Int → Bool → Option (Int × Int × Unit)) (from' : List Int) (left : Int) (more : Bool) : Option (Int × Int × Unit) :=
  bif more then
    l2 next from' left false 0
  else
    Option.bind (bits_OnesCount32_f nf left) fun r5 =>
    some ((r5.fst, 0, ()))
def loop_Fold_b2 (nf : Nat) (l4 : List (List Int) → Int → Int → List Int → List Int → Int → Option (Int × Int × Unit)) (next : List (List Int)) (g0 : List Int → Int → Bool → Option (Int × Int × Unit)) (g2 : List Int → Int → Bool → Int → Option (Int × Int × Unit)) (from'2 : List Int) (left2 : Int) (more2 : Bool) (t22 : Int) : Option (Int × Int × Unit) :=
  bif decide (t22 < (↑next.length : Int)) then
    bif inb t22 from'2.length then
      bif decide (0 ≤ t22) then
        bif inb t22 from'2.length then
          bif t22 == 0 then
            g2 (from'2.set t22.toNat (IntKind.u32.wrap (↑(BitVec.ofInt IntKind.u32.bits (from'2.getD t22.toNat 0) &&& ~~~BitVec.ofInt IntKind.u32.bits (shlI IntKind.u32 1 t22)).toNat : Int))) left2 more2 (IntKind.i64.wrap (t22 + 1))
          else
            bif decide (0 ≤ t22) then
              bif IntKind.u32.wrap (↑(BitVec.ofInt IntKind.u32.bits (shrI IntKind.u32 left2 t22) &&& BitVec.ofInt IntKind.u32.bits 1).toNat : Int) == 0 then
                g2 (from'2.set t22.toNat (IntKind.u32.wrap (↑(BitVec.ofInt IntKind.u32.bits (from'2.getD t22.toNat 0) &&& ~~~BitVec.ofInt IntKind.u32.bits (shlI IntKind.u32 1 t22)).toNat : Int))) left2 more2 (IntKind.i64.wrap (t22 + 1))
              else
                bif inb t22 (from'2.set t22.toNat (IntKind.u32.wrap (↑(BitVec.ofInt IntKind.u32.bits (from'2.getD t22.toNat 0) &&& ~~~BitVec.ofInt IntKind.u32.bits (shlI IntKind.u32 1 t22)).toNat : Int))).length then
                  Option.bind (bits_OnesCount32_f nf ((from'2.set t22.toNat (IntKind.u32.wrap (↑(BitVec.ofInt IntKind.u32.bits (from'2.getD t22.toNat 0) &&& ~~~BitVec.ofInt IntKind.u32.bits (shlI IntKind.u32 1 t22)).toNat : Int))).getD t22.toNat 0)) fun r4 =>
                  bif r4.fst != 1 then
                    g2 (from'2.set t22.toNat (IntKind.u32.wrap (↑(BitVec.ofInt IntKind.u32.bits (from'2.getD t22.toNat 0) &&& ~~~BitVec.ofInt IntKind.u32.bits (shlI IntKind.u32 1 t22)).toNat : Int))) left2 more2 (IntKind.i64.wrap (t22 + 1))
                  else
                    l4 next left2 t22 from'2 (from'2.set t22.toNat (IntKind.u32.wrap (↑(BitVec.ofInt IntKind.u32.bits (from'2.getD t22.toNat 0) &&& ~~~BitVec.ofInt IntKind.u32.bits (shlI IntKind.u32 1 t22)).toNat : Int))) 0
                else
                  none
            else
              none
        else
          none
      else
        none
    else
      none
  else
    g0 from'2 left2 more2
def loop_Fold_b4 (nf : Nat) (next : List (List Int)) (left2 : Int) (t22 : Int) (from'2 : List Int) (g2 : List Int → Int → Bool → Int → Option (Int × Int × Unit)) (g0 : List Int → Int → Bool → Option (Int × Int × Unit)) (g4 : List Int → Int → Option (Int × Int × Unit)) (from'3 : List Int) (t52 : Int) : Option (Int × Int × Unit) :=
  bif decide (t52 < (↑(from'2.set t22.toNat (IntKind.u32.wrap (↑(BitVec.ofInt IntKind.u32.bits (from'2.getD t22.toNat 0) &&& ~~~BitVec.ofInt IntKind.u32.bits (shlI IntKind.u32 1 t22)).toNat : Int))).length : Int)) then
    bif inb t52 from'3.length then
      bif decide (0 ≤ t22) then
        bif IntKind.u32.wrap (↑(BitVec.ofInt IntKind.u32.bits (shrI IntKind.u32 (from'3.getD t52.toNat 0) t22) &&& BitVec.ofInt IntKind.u32.bits 1).toNat : Int) == 1 then
          bif inb t52 from'3.length then
            bif decide (0 ≤ t22) then
              bif inb t22 from'3.length then
                bif inb t52 from'3.length then
                  g4 (from'3.set t52.toNat (IntKind.u32.wrap (↑(BitVec.ofInt IntKind.u32.bits (IntKind.u32.wrap (↑(BitVec.ofInt IntKind.u32.bits (from'3.getD t52.toNat 0) &&& ~~~BitVec.ofInt IntKind.u32.bits (shlI IntKind.u32 1 t22)).toNat : Int)) ||| BitVec.ofInt IntKind.u32.bits (from'3.getD t22.toNat 0)).toNat : Int))) (IntKind.i64.wrap (t52 + 1))
                else
                  none
              else
                none
            else
              none
          else
            none
        else
          g4 from'3 (IntKind.i64.wrap (t52 + 1))
      else
        none
    else
      none
  else
    bif decide (0 ≤ t22) then
      g2 from'3 (IntKind.u32.wrap (↑(BitVec.ofInt IntKind.u32.bits left2 &&& ~~~BitVec.ofInt IntKind.u32.bits (shlI IntKind.u32 1 t22)).toNat : Int)) true (IntKind.i64.wrap (t22 + 1))
    else
      none
def loop_Fold_p (nf : Nat) (l0 : List (List Int) → List Int → Int → Bool → Option (Int × Int × Unit)) (next : List (List Int)) : Option (Int × Int × Unit) :=
  Option.bind (way_Check_f nf next) fun r =>
  bif r.fst != 0 then
    some ((0, r.fst, ()))
  else
    Option.bind (loop_to_f nf next) fun r2 =>
    Option.bind (way_From_f nf next 0 (-1)) fun r3 =>
    l0 next r2.fst r3.fst true
def loop_Fold_l4 (nf : Nat) (next : List (List Int)) (left2 : Int) (t22 : Int) (from'2 : List Int) (g2 : List Int → Int → Bool → Int → Option (Int × Int × Unit)) (g0 : List Int → Int → Bool → Option (Int × Int × Unit)) : Nat → List Int → Int → Option (Int × Int × Unit)
  | 0, _, _ => none
  | fu + 1, from'3, t52 => loop_Fold_b4 nf  next left2 t22 from'2 g2 g0 (loop_Fold_l4 nf next left2 t22 from'2 g2 g0 fu) from'3 t52
def loop_Fold_l2 (nf : Nat) (next : List (List Int)) (g0 : List Int → Int → Bool → Option (Int × Int × Unit)) : Nat → List Int → Int → Bool → Int → Option (Int × Int × Unit)
  | 0, _, _, _, _ => none
  | fu + 1, from'2, left2, more2, t22 => loop_Fold_b2 nf (fun _ p1 p2 p3 v0 v1 => loop_Fold_l4 nf next p1 p2 p3 (fun from'2 left2 more2 t22 => loop_Fold_l2 nf next g0 fu from'2 left2 more2 t22) g0 nf v0 v1) next g0 (loop_Fold_l2 nf next g0 fu) from'2 left2 more2 t22
def loop_Fold_l0 (nf : Nat) (next : List (List Int)) : Nat → List Int → Int → Bool → Option (Int × Int × Unit)
  | 0, _, _, _ => none
  | fu + 1, from', left, more => loop_Fold_b0 nf (fun _ v0 v1 v2 v3 => loop_Fold_l2 nf next (fun from' left more => loop_Fold_l0 nf next  fu from' left more) nf v0 v1 v2 v3) next  (loop_Fold_l0 nf next  fu) from' left more
def loop_Fold_f (nf : Nat) (next : List (List Int)) : Option (Int × Int × Unit) := loop_Fold_p nf (fun p0 v0 v1 v2 => loop_Fold_l0 nf p0 nf v0 v1 v2) next
noncomputable def loop_Fold_L0 (nf : Nat) : LC (Int × Int × Unit) := theL (findL tab (loop_Fold_phi nf) (fun _ F => iter nf F) loop_Fold_keep 0 0 (codeOf Try.f45) (fin tab [(Ty.int IntKind.i64, Md.bor false true), (Ty.int IntKind.i64, Md.bor false true)] (resL ([]) Try.f45)) (fun _ _ => none) (fin tab [(Ty.int IntKind.i64, Md.bor false true), (Ty.int IntKind.i64, Md.bor false true)] (resL ([]) Try.f45)))
def loop_Fold_m0 (next : List (List Int)) (from' : List Int) (left : Int) (more : Bool) : St := ⟨fresh, [(0, AV.v (Ty.int IntKind.i64).sl.sl (Md.bor true false) next), (5, AV.ow 500005 (Ty.int IntKind.u32).sl (Md.own false (Md.bor false false)) from'), (6, AV.v (Ty.int IntKind.u32) (Md.bor false true) left), (7, AV.v Ty.bool (Md.bor false true) more), (16, AV.dead)]⟩
noncomputable def loop_Fold_L2 (nf : Nat) (G0 : St → Option (Int × Int × Unit)) : LC (Int × Int × Unit) := theL (findL tab (loop_Fold_phi nf) (fun _ F => iter nf F) loop_Fold_keep 2 0 (loop_Fold_L0 nf ).c (fun st => norm (loop_Fold_keep 0) st G0) (loop_Fold_L0 nf ).Kx (loop_Fold_L0 nf ).Kr)
def loop_Fold_m2 (next : List (List Int)) (from'2 : List Int) (left2 : Int) (more2 : Bool) (t22 : Int) : St := ⟨fresh, [(0, AV.v (Ty.int IntKind.i64).sl.sl (Md.bor true false) next), (5, AV.ow 500005 (Ty.int IntKind.u32).sl (Md.own false (Md.bor false false)) from'2), (6, AV.v (Ty.int IntKind.u32) (Md.bor false true) left2), (7, AV.v Ty.bool (Md.bor false true) more2), (16, AV.dead), (21, AV.v (Ty.int IntKind.i64) (Md.bor false true) (↑next.length : Int)), (22, AV.v (Ty.int IntKind.i64) (Md.bor false true) t22)]⟩
noncomputable def loop_Fold_L4 (nf : Nat) (G0 : St → Option (Int × Int × Unit)) (G2 : St → Option (Int × Int × Unit)) : LC (Int × Int × Unit) := theL (findL tab (loop_Fold_phi nf) (fun _ F => iter nf F) loop_Fold_keep 4 2 (loop_Fold_L2 nf G0).c (fun st => norm (loop_Fold_keep 2) st G2) (loop_Fold_L2 nf G0).Kx (loop_Fold_L2 nf G0).Kr)
def loop_Fold_m4 (next : List (List Int)) (left2 : Int) (t22 : Int) (from'2 : List Int) (from'3 : List Int) (t52 : Int) : St := ⟨fresh, [(0, AV.v (Ty.int IntKind.i64).sl.sl (Md.bor true false) next), (5, AV.ow 500005 (Ty.int IntKind.u32).sl (Md.own false (Md.bor false false)) from'3), (6, AV.v (Ty.int IntKind.u32) (Md.bor false true) left2), (8, AV.v (Ty.int IntKind.i64) (Md.bor false true) t22), (16, AV.dead), (21, AV.v (Ty.int IntKind.i64) (Md.bor false true) (↑next.length : Int)), (22, AV.v (Ty.int IntKind.i64) (Md.bor false true) t22), (51, AV.v (Ty.int IntKind.i64) (Md.bor false true) (↑(from'2.set t22.toNat (IntKind.u32.wrap (↑(BitVec.ofInt IntKind.u32.bits (from'2.getD t22.toNat 0) &&& ~~~BitVec.ofInt IntKind.u32.bits (shlI IntKind.u32 1 t22)).toNat : Int))).length : Int)), (52, AV.v (Ty.int IntKind.i64) (Md.bor false true) t52)]⟩
theorem loop_Fold_h4 (nf : Nat) (G0 : St → Option (Int × Int × Unit)) (G2 : St → Option (Int × Int × Unit)) (next : List (List Int)) (left2 : Int) (t22 : Int) (from'2 : List Int) (fu : Nat) (from'3 : List Int) (t52 : Int) : iter (fu + 1) (LC.F tab (loop_Fold_phi nf) (fun _ F => iter nf F) loop_Fold_keep 4 (loop_Fold_L4 nf G0 G2)) (loop_Fold_m4 next left2 t22 from'2 from'3 t52) = loop_Fold_b4 nf  next left2 t22 from'2 (fun from'2 left2 more2 t22 => G2 (loop_Fold_m2 next from'2 left2 more2 t22)) (fun from' left more => G0 (loop_Fold_m0 next from' left more)) (fun from'3 t52 => iter fu (LC.F tab (loop_Fold_phi nf) (fun _ F => iter nf F) loop_Fold_keep 4 (loop_Fold_L4 nf G0 G2)) (loop_Fold_m4 next left2 t22 from'2 from'3 t52)) from'3 t52 := by kernel_rfl
theorem loop_Fold_e4 (nf : Nat) (G0 : St → Option (Int × Int × Unit)) (G2 : St → Option (Int × Int × Unit)) (next : List (List Int)) (left2 : Int) (t22 : Int) (from'2 : List Int) : ∀ (fu : Nat) (from'3 : List Int) (t52 : Int), iter fu (LC.F tab (loop_Fold_phi nf) (fun _ F => iter nf F) loop_Fold_keep 4 (loop_Fold_L4 nf G0 G2)) (loop_Fold_m4 next left2 t22 from'2 from'3 t52) = loop_Fold_l4 nf next left2 t22 from'2 (fun from'2 left2 more2 t22 => G2 (loop_Fold_m2 next from'2 left2 more2 t22)) (fun from' left more => G0 (loop_Fold_m0 next from' left more)) fu from'3 t52 := by
  intro fu
  induction fu with
  | zero => intros; rfl
  | succ fu ih =>
    intro from'3 t52
    rw [loop_Fold_h4 nf G0 G2 next left2 t22 from'2 fu from'3 t52]
    simp only [ih]
    rfl
theorem loop_Fold_h2 (nf : Nat) (G0 : St → Option (Int × Int × Unit)) (next : List (List Int)) (fu : Nat) (from'2 : List Int) (left2 : Int) (more2 : Bool) (t22 : Int) : iter (fu + 1) (LC.F tab (loop_Fold_phi nf) (fun _ F => iter nf F) loop_Fold_keep 2 (loop_Fold_L2 nf G0)) (loop_Fold_m2 next from'2 left2 more2 t22) = loop_Fold_b2 nf (fun _ p1 p2 p3 v0 v1 => iter nf (LC.F tab (loop_Fold_phi nf) (fun _ F => iter nf F) loop_Fold_keep 4 (loop_Fold_L4 nf G0 (iter fu (LC.F tab (loop_Fold_phi nf) (fun _ F => iter nf F) loop_Fold_keep 2 (loop_Fold_L2 nf G0))))) (loop_Fold_m4 next p1 p2 p3 v0 v1)) next (fun from' left more => G0 (loop_Fold_m0 next from' left more)) (fun from'2 left2 more2 t22 => iter fu (LC.F tab (loop_Fold_phi nf) (fun _ F => iter nf F) loop_Fold_keep 2 (loop_Fold_L2 nf G0)) (loop_Fold_m2 next from'2 left2 more2 t22)) from'2 left2 more2 t22 := by kernel_rfl
theorem loop_Fold_e2 (nf : Nat) (G0 : St → Option (Int × Int × Unit)) (next : List (List Int)) : ∀ (fu : Nat) (from'2 : List Int) (left2 : Int) (more2 : Bool) (t22 : Int), iter fu (LC.F tab (loop_Fold_phi nf) (fun _ F => iter nf F) loop_Fold_keep 2 (loop_Fold_L2 nf G0)) (loop_Fold_m2 next from'2 left2 more2 t22) = loop_Fold_l2 nf next (fun from' left more => G0 (loop_Fold_m0 next from' left more)) fu from'2 left2 more2 t22 := by
  intro fu
  induction fu with
  | zero => intros; rfl
  | succ fu ih =>
    intro from'2 left2 more2 t22
    rw [loop_Fold_h2 nf G0 next fu from'2 left2 more2 t22]
    simp only [ih, loop_Fold_e4]
    rfl
theorem loop_Fold_h0 (nf : Nat)  (next : List (List Int)) (fu : Nat) (from' : List Int) (left : Int) (more : Bool) : iter (fu + 1) (LC.F tab (loop_Fold_phi nf) (fun _ F => iter nf F) loop_Fold_keep 0 (loop_Fold_L0 nf )) (loop_Fold_m0 next from' left more) = loop_Fold_b0 nf (fun _ v0 v1 v2 v3 => iter nf (LC.F tab (loop_Fold_phi nf) (fun _ F => iter nf F) loop_Fold_keep 2 (loop_Fold_L2 nf (iter fu (LC.F tab (loop_Fold_phi nf) (fun _ F => iter nf F) loop_Fold_keep 0 (loop_Fold_L0 nf ))))) (loop_Fold_m2 next v0 v1 v2 v3)) next  (fun from' left more => iter fu (LC.F tab (loop_Fold_phi nf) (fun _ F => iter nf F) loop_Fold_keep 0 (loop_Fold_L0 nf )) (loop_Fold_m0 next from' left more)) from' left more := by kernel_rfl
theorem loop_Fold_e0 (nf : Nat)  (next : List (List Int)) : ∀ (fu : Nat) (from' : List Int) (left : Int) (more : Bool), iter fu (LC.F tab (loop_Fold_phi nf) (fun _ F => iter nf F) loop_Fold_keep 0 (loop_Fold_L0 nf )) (loop_Fold_m0 next from' left more) = loop_Fold_l0 nf next  fu from' left more := by
  intro fu
  induction fu with
  | zero => intros; rfl
  | succ fu ih =>
    intro from' left more
    rw [loop_Fold_h0 nf  next fu from' left more]
    simp only [ih, loop_Fold_e2]
    rfl
theorem loop_Fold_eq (nf : Nat) (next : List (List Int)) : runF tab (loop_Fold_phi nf) loop_Fold_keep nf [PT.val (Ty.int IntKind.i64).sl.sl (Md.bor true false)] [(Ty.int IntKind.i64, Md.bor false true), (Ty.int IntKind.i64, Md.bor false true)] (resL ([]) Try.f45) (codeOf Try.f45) ⟨next, ()⟩ = loop_Fold_f nf next := by
  have h : runF tab (loop_Fold_phi nf) loop_Fold_keep nf [PT.val (Ty.int IntKind.i64).sl.sl (Md.bor true false)] [(Ty.int IntKind.i64, Md.bor false true), (Ty.int IntKind.i64, Md.bor false true)] (resL ([]) Try.f45) (codeOf Try.f45) ⟨next, ()⟩ = loop_Fold_p nf (fun p0 v0 v1 v2 => iter nf (LC.F tab (loop_Fold_phi nf) (fun _ F => iter nf F) loop_Fold_keep 0 (loop_Fold_L0 nf)) (loop_Fold_m0 p0 v0 v1 v2)) next := by kernel_rfl
  rw [h]
  simp only [loop_Fold_e0]
  rfl
def loop_Fold_F (nf : Nat) (x : denPs [.val (.sl (.sl (.int .i64))) (.bor true false)]) : Option (denL [(.int .i64, .bor false true), (.int .i64, .bor false true)]) := loop_Fold_f nf x.1
def loop_Fold_C (nf : Nat) : Contract := ⟨[.val (.sl (.sl (.int .i64))) (.bor true false)], [(.int .i64, .bor false true), (.int .i64, .bor false true)], loop_Fold_F nf, []⟩
theorem loop_Fold_ok : FnOK Try.prog 45 := ⟨Try.f45, codeOf Try.f45, Try.func45, by kernel_rfl, by kernel_rfl⟩
theorem loop_Fold_holds (nf : Nat) : Contract.Holds Try.prog 45 (loop_Fold_C nf) :=
  fn_holds (Φ := loop_Fold_phi nf) (keep := loop_Fold_keep) (n := nf) ⟨tabs.1, tabs.2, (ctx_cons way_Check_ok (way_Check_holds nf) (ctx_cons way_From_ok (way_From_holds nf) (ctx_cons bits_OnesCount32_ok (bits_OnesCount32_holds nf) (ctx_cons loop_to_ok (loop_to_holds nf) ctx_nil)))), mixed, bk_ok bkls rfl⟩ (fn := Try.f45) ⟨Try.func45, by kernel_rfl, by kernel_rfl, by kernel_rfl⟩ (fun x => loop_Fold_eq nf x.1)

/-! codemason codemasonref.Has -/
def ref_Has_phi (nf : Nat) : Nat → Option Contract := lookC []
def ref_Has_keep : Nat → List Nat := lookK [(0, [0, 1, 7, 8, 9])]
def ref_Has_b0 (nf : Nat) (l' : List Int) (x : Int) (g0 : Int → Option (Bool × Unit)) (t9 : Int) : Option (Bool × Unit) :=
  bif decide (t9 < (↑l'.length : Int)) then
    bif inb t9 l'.length then
      bif x == l'.getD t9.toNat 0 then
        some ((true, ()))
      else
        g0 (IntKind.i64.wrap (t9 + 1))
    else
      none
  else
    some ((false, ()))
def ref_Has_p (nf : Nat) (l0 : List Int → Int → Int → Option (Bool × Unit)) (l' : List Int) (x : Int) : Option (Bool × Unit) :=
  l0 l' x 0
def ref_Has_l0 (nf : Nat) (l' : List Int) (x : Int) : Nat → Int → Option (Bool × Unit)
  | 0, _ => none
  | fu + 1, t9 => ref_Has_b0 nf  l' x  (ref_Has_l0 nf l' x  fu) t9
def ref_Has_f (nf : Nat) (l' : List Int) (x : Int) : Option (Bool × Unit) := ref_Has_p nf (fun p0 p1 v0 => ref_Has_l0 nf p0 p1 nf v0) l' x
noncomputable def ref_Has_L0 (nf : Nat) : LC (Bool × Unit) := theL (findL tab (ref_Has_phi nf) (fun _ F => iter nf F) ref_Has_keep 0 0 (codeOf Try.f28) (fin tab [(Ty.bool, Md.bor false true)] (resL ([]) Try.f28)) (fun _ _ => none) (fin tab [(Ty.bool, Md.bor false true)] (resL ([]) Try.f28)))
def ref_Has_m0 (l' : List Int) (x : Int) (t9 : Int) : St := ⟨fresh, [(0, AV.v (Ty.int IntKind.i64).sl (Md.bor true false) l'), (1, AV.v (Ty.int IntKind.i64) (Md.bor false true) x), (7, AV.v (Ty.int IntKind.i64).sl (Md.bor true false) l'), (8, AV.v (Ty.int IntKind.i64) (Md.bor false true) (↑l'.length : Int)), (9, AV.v (Ty.int IntKind.i64) (Md.bor false true) t9)]⟩
theorem ref_Has_h0 (nf : Nat)  (l' : List Int) (x : Int) (fu : Nat) (t9 : Int) : iter (fu + 1) (LC.F tab (ref_Has_phi nf) (fun _ F => iter nf F) ref_Has_keep 0 (ref_Has_L0 nf )) (ref_Has_m0 l' x t9) = ref_Has_b0 nf  l' x  (fun t9 => iter fu (LC.F tab (ref_Has_phi nf) (fun _ F => iter nf F) ref_Has_keep 0 (ref_Has_L0 nf )) (ref_Has_m0 l' x t9)) t9 := by kernel_rfl
theorem ref_Has_e0 (nf : Nat)  (l' : List Int) (x : Int) : ∀ (fu : Nat) (t9 : Int), iter fu (LC.F tab (ref_Has_phi nf) (fun _ F => iter nf F) ref_Has_keep 0 (ref_Has_L0 nf )) (ref_Has_m0 l' x t9) = ref_Has_l0 nf l' x  fu t9 := by
  intro fu
  induction fu with
  | zero => intros; rfl
  | succ fu ih =>
    intro t9
    rw [ref_Has_h0 nf  l' x fu t9]
    simp only [ih]
    rfl
theorem ref_Has_eq (nf : Nat) (l' : List Int) (x : Int) : runF tab (ref_Has_phi nf) ref_Has_keep nf [PT.val (Ty.int IntKind.i64).sl (Md.bor true false), PT.val (Ty.int IntKind.i64) (Md.bor true false)] [(Ty.bool, Md.bor false true)] (resL ([]) Try.f28) (codeOf Try.f28) ⟨l', x, ()⟩ = ref_Has_f nf l' x := by
  have h : runF tab (ref_Has_phi nf) ref_Has_keep nf [PT.val (Ty.int IntKind.i64).sl (Md.bor true false), PT.val (Ty.int IntKind.i64) (Md.bor true false)] [(Ty.bool, Md.bor false true)] (resL ([]) Try.f28) (codeOf Try.f28) ⟨l', x, ()⟩ = ref_Has_p nf (fun p0 p1 v0 => iter nf (LC.F tab (ref_Has_phi nf) (fun _ F => iter nf F) ref_Has_keep 0 (ref_Has_L0 nf)) (ref_Has_m0 p0 p1 v0)) l' x := by kernel_rfl
  rw [h]
  simp only [ref_Has_e0]
  rfl
def ref_Has_F (nf : Nat) (x : denPs [.val (.sl (.int .i64)) (.bor true false), .val (.int .i64) (.bor true false)]) : Option (denL [(.bool, .bor false true)]) := ref_Has_f nf x.1 x.2.1
def ref_Has_C (nf : Nat) : Contract := ⟨[.val (.sl (.int .i64)) (.bor true false), .val (.int .i64) (.bor true false)], [(.bool, .bor false true)], ref_Has_F nf, []⟩
theorem ref_Has_ok : FnOK Try.prog 28 := ⟨Try.f28, codeOf Try.f28, Try.func28, by kernel_rfl, by kernel_rfl⟩
theorem ref_Has_holds (nf : Nat) : Contract.Holds Try.prog 28 (ref_Has_C nf) :=
  fn_holds (Φ := ref_Has_phi nf) (keep := ref_Has_keep) (n := nf) ⟨tabs.1, tabs.2, ctx_nil, mixed, bk_ok bkls rfl⟩ (fn := Try.f28) ⟨Try.func28, by kernel_rfl, by kernel_rfl, by kernel_rfl⟩ (fun x => ref_Has_eq nf x.1 x.2.1)

/-! codemason codemasonref.Reach -/
def ref_Reach_phi (nf : Nat) : Nat → Option Contract := lookC [(28, ref_Has_C nf)]
def ref_Reach_keep : Nat → List Nat := lookK [(2, [0, 2, 7, 8, 15, 22, 27, 28, 29, 30, 46]), (0, [0, 2, 7, 8, 15, 46])]
def ref_Reach_b0 (nf : Nat) (l2 : List (List Int) → Int → Int → List Int → List Int → Int → Option (List Int × Unit)) (next : List (List Int)) (without : Int) (g0 : List Int → Int → Option (List Int × Unit)) (here : List Int) (k' : Int) : Option (List Int × Unit) :=
  bif decide (k' < (↑here.length : Int)) then
    bif inb k' here.length then
      bif inb (here.getD k'.toNat 0) next.length then
        l2 next without k' here here 0
      else
        none
    else
      none
  else
    some ((here, ()))
def ref_Reach_b2 (nf : Nat) (next : List (List Int)) (without : Int) (k' : Int) (here : List Int) (g0 : List Int → Int → Option (List Int × Unit)) (g2 : List Int → Int → Option (List Int × Unit)) (here2 : List Int) (t30 : Int) : Option (List Int × Unit) :=
  bif decide (t30 < (↑(List.length (next.getD (Int.toNat (here.getD k'.toNat 0)) [])) : Int)) then
    bif inb t30 (List.length (next.getD (Int.toNat (here.getD k'.toNat 0)) [])) then
      bif List.getD (next.getD (Int.toNat (here.getD k'.toNat 0)) []) t30.toNat 0 != without then
        Option.bind (ref_Has_f nf here2 (List.getD (next.getD (Int.toNat (here.getD k'.toNat 0)) []) t30.toNat 0)) fun r =>
        bif !r.fst then
          bif bimp false ![List.getD (next.getD (Int.toNat (here.getD k'.toNat 0)) []) t30.toNat 0].isEmpty && (here2.length + [List.getD (next.getD (Int.toNat (here.getD k'.toNat 0)) []) t30.toNat 0].length).ble lim then
            g2 (here2 ++ [List.getD (next.getD (Int.toNat (here.getD k'.toNat 0)) []) t30.toNat 0]) (IntKind.i64.wrap (t30 + 1))
          else
            none
        else
          g2 here2 (IntKind.i64.wrap (t30 + 1))
      else
        g2 here2 (IntKind.i64.wrap (t30 + 1))
    else
      none
  else
    g0 here2 (IntKind.i64.wrap (k' + 1))
def ref_Reach_p (nf : Nat) (l0 : List (List Int) → Int → List Int → Int → Option (List Int × Unit)) (next : List (List Int)) (i : Int) (without : Int) : Option (List Int × Unit) :=
  bif i == without then
    some (([], ()))
  else
    l0 next without [i] 0
def ref_Reach_l2 (nf : Nat) (next : List (List Int)) (without : Int) (k' : Int) (here : List Int) (g0 : List Int → Int → Option (List Int × Unit)) : Nat → List Int → Int → Option (List Int × Unit)
  | 0, _, _ => none
  | fu + 1, here2, t30 => ref_Reach_b2 nf  next without k' here g0 (ref_Reach_l2 nf next without k' here g0 fu) here2 t30
def ref_Reach_l0 (nf : Nat) (next : List (List Int)) (without : Int) : Nat → List Int → Int → Option (List Int × Unit)
  | 0, _, _ => none
  | fu + 1, here, k' => ref_Reach_b0 nf (fun _ _ p2 p3 v0 v1 => ref_Reach_l2 nf next without p2 p3 (fun here k' => ref_Reach_l0 nf next without  fu here k') nf v0 v1) next without  (ref_Reach_l0 nf next without  fu) here k'
def ref_Reach_f (nf : Nat) (next : List (List Int)) (i : Int) (without : Int) : Option (List Int × Unit) := ref_Reach_p nf (fun p0 p1 v0 v1 => ref_Reach_l0 nf p0 p1 nf v0 v1) next i without
noncomputable def ref_Reach_L0 (nf : Nat) : LC (List Int × Unit) := theL (findL tab (ref_Reach_phi nf) (fun _ F => iter nf F) ref_Reach_keep 0 0 (codeOf Try.f24) (fin tab [((Ty.int IntKind.i64).sl, Md.own false (Md.bor false false))] (resL ([]) Try.f24)) (fun _ _ => none) (fin tab [((Ty.int IntKind.i64).sl, Md.own false (Md.bor false false))] (resL ([]) Try.f24)))
def ref_Reach_m0 (next : List (List Int)) (without : Int) (here : List Int) (k' : Int) : St := ⟨fresh, [(0, AV.v (Ty.int IntKind.i64).sl.sl (Md.bor true false) next), (2, AV.v (Ty.int IntKind.i64) (Md.bor false true) without), (7, AV.ow 500007 (Ty.int IntKind.i64).sl (Md.own false (Md.bor false false)) here), (8, AV.v (Ty.int IntKind.i64) (Md.bor false true) k'), (15, AV.dead), (46, AV.dead)]⟩
noncomputable def ref_Reach_L2 (nf : Nat) (G0 : St → Option (List Int × Unit)) : LC (List Int × Unit) := theL (findL tab (ref_Reach_phi nf) (fun _ F => iter nf F) ref_Reach_keep 2 0 (ref_Reach_L0 nf ).c (fun st => norm (ref_Reach_keep 0) st G0) (ref_Reach_L0 nf ).Kx (ref_Reach_L0 nf ).Kr)
def ref_Reach_m2 (next : List (List Int)) (without : Int) (k' : Int) (here : List Int) (here2 : List Int) (t30 : Int) : St := ⟨fresh, [(0, AV.v (Ty.int IntKind.i64).sl.sl (Md.bor true false) next), (2, AV.v (Ty.int IntKind.i64) (Md.bor false true) without), (7, AV.ow 500007 (Ty.int IntKind.i64).sl (Md.own false (Md.bor false false)) here2), (8, AV.v (Ty.int IntKind.i64) (Md.bor false true) k'), (15, AV.dead), (22, AV.v (Ty.int IntKind.i64).sl.sl (Md.bor true false) next), (27, AV.rop (Ty.int IntKind.i64).sl (Md.bor true false) (next.getD (Int.toNat (here.getD k'.toNat 0)) [])), (28, AV.v (Ty.int IntKind.i64).sl (Md.bor true false) (next.getD (Int.toNat (here.getD k'.toNat 0)) [])), (29, AV.v (Ty.int IntKind.i64) (Md.bor false true) (↑(List.length (next.getD (Int.toNat (here.getD k'.toNat 0)) [])) : Int)), (30, AV.v (Ty.int IntKind.i64) (Md.bor false true) t30), (46, AV.dead)]⟩
theorem ref_Reach_h2 (nf : Nat) (G0 : St → Option (List Int × Unit)) (next : List (List Int)) (without : Int) (k' : Int) (here : List Int) (fu : Nat) (here2 : List Int) (t30 : Int) : iter (fu + 1) (LC.F tab (ref_Reach_phi nf) (fun _ F => iter nf F) ref_Reach_keep 2 (ref_Reach_L2 nf G0)) (ref_Reach_m2 next without k' here here2 t30) = ref_Reach_b2 nf  next without k' here (fun here k' => G0 (ref_Reach_m0 next without here k')) (fun here2 t30 => iter fu (LC.F tab (ref_Reach_phi nf) (fun _ F => iter nf F) ref_Reach_keep 2 (ref_Reach_L2 nf G0)) (ref_Reach_m2 next without k' here here2 t30)) here2 t30 := by kernel_rfl
theorem ref_Reach_e2 (nf : Nat) (G0 : St → Option (List Int × Unit)) (next : List (List Int)) (without : Int) (k' : Int) (here : List Int) : ∀ (fu : Nat) (here2 : List Int) (t30 : Int), iter fu (LC.F tab (ref_Reach_phi nf) (fun _ F => iter nf F) ref_Reach_keep 2 (ref_Reach_L2 nf G0)) (ref_Reach_m2 next without k' here here2 t30) = ref_Reach_l2 nf next without k' here (fun here k' => G0 (ref_Reach_m0 next without here k')) fu here2 t30 := by
  intro fu
  induction fu with
  | zero => intros; rfl
  | succ fu ih =>
    intro here2 t30
    rw [ref_Reach_h2 nf G0 next without k' here fu here2 t30]
    simp only [ih]
    rfl
theorem ref_Reach_h0 (nf : Nat)  (next : List (List Int)) (without : Int) (fu : Nat) (here : List Int) (k' : Int) : iter (fu + 1) (LC.F tab (ref_Reach_phi nf) (fun _ F => iter nf F) ref_Reach_keep 0 (ref_Reach_L0 nf )) (ref_Reach_m0 next without here k') = ref_Reach_b0 nf (fun _ _ p2 p3 v0 v1 => iter nf (LC.F tab (ref_Reach_phi nf) (fun _ F => iter nf F) ref_Reach_keep 2 (ref_Reach_L2 nf (iter fu (LC.F tab (ref_Reach_phi nf) (fun _ F => iter nf F) ref_Reach_keep 0 (ref_Reach_L0 nf ))))) (ref_Reach_m2 next without p2 p3 v0 v1)) next without  (fun here k' => iter fu (LC.F tab (ref_Reach_phi nf) (fun _ F => iter nf F) ref_Reach_keep 0 (ref_Reach_L0 nf )) (ref_Reach_m0 next without here k')) here k' := by kernel_rfl
theorem ref_Reach_e0 (nf : Nat)  (next : List (List Int)) (without : Int) : ∀ (fu : Nat) (here : List Int) (k' : Int), iter fu (LC.F tab (ref_Reach_phi nf) (fun _ F => iter nf F) ref_Reach_keep 0 (ref_Reach_L0 nf )) (ref_Reach_m0 next without here k') = ref_Reach_l0 nf next without  fu here k' := by
  intro fu
  induction fu with
  | zero => intros; rfl
  | succ fu ih =>
    intro here k'
    rw [ref_Reach_h0 nf  next without fu here k']
    simp only [ih, ref_Reach_e2]
    rfl
theorem ref_Reach_eq (nf : Nat) (next : List (List Int)) (i : Int) (without : Int) : runF tab (ref_Reach_phi nf) ref_Reach_keep nf [PT.val (Ty.int IntKind.i64).sl.sl (Md.bor true false), PT.val (Ty.int IntKind.i64) (Md.bor true false), PT.val (Ty.int IntKind.i64) (Md.bor true false)] [((Ty.int IntKind.i64).sl, Md.own false (Md.bor false false))] (resL ([]) Try.f24) (codeOf Try.f24) ⟨next, i, without, ()⟩ = ref_Reach_f nf next i without := by
  have h : runF tab (ref_Reach_phi nf) ref_Reach_keep nf [PT.val (Ty.int IntKind.i64).sl.sl (Md.bor true false), PT.val (Ty.int IntKind.i64) (Md.bor true false), PT.val (Ty.int IntKind.i64) (Md.bor true false)] [((Ty.int IntKind.i64).sl, Md.own false (Md.bor false false))] (resL ([]) Try.f24) (codeOf Try.f24) ⟨next, i, without, ()⟩ = ref_Reach_p nf (fun p0 p1 v0 v1 => iter nf (LC.F tab (ref_Reach_phi nf) (fun _ F => iter nf F) ref_Reach_keep 0 (ref_Reach_L0 nf)) (ref_Reach_m0 p0 p1 v0 v1)) next i without := by kernel_rfl
  rw [h]
  simp only [ref_Reach_e0]
  rfl
def ref_Reach_F (nf : Nat) (x : denPs [.val (.sl (.sl (.int .i64))) (.bor true false), .val (.int .i64) (.bor true false), .val (.int .i64) (.bor true false)]) : Option (denL [(.sl (.int .i64), .own false (.bor false false))]) := ref_Reach_f nf x.1 x.2.1 x.2.2.1
def ref_Reach_C (nf : Nat) : Contract := ⟨[.val (.sl (.sl (.int .i64))) (.bor true false), .val (.int .i64) (.bor true false), .val (.int .i64) (.bor true false)], [(.sl (.int .i64), .own false (.bor false false))], ref_Reach_F nf, []⟩
theorem ref_Reach_ok : FnOK Try.prog 24 := ⟨Try.f24, codeOf Try.f24, Try.func24, by kernel_rfl, by kernel_rfl⟩
theorem ref_Reach_holds (nf : Nat) : Contract.Holds Try.prog 24 (ref_Reach_C nf) :=
  fn_holds (Φ := ref_Reach_phi nf) (keep := ref_Reach_keep) (n := nf) ⟨tabs.1, tabs.2, (ctx_cons ref_Has_ok (ref_Has_holds nf) ctx_nil), mixed, bk_ok bkls rfl⟩ (fn := Try.f24) ⟨Try.func24, by kernel_rfl, by kernel_rfl, by kernel_rfl⟩ (fun x => ref_Reach_eq nf x.1 x.2.1 x.2.2.1)

/-! codemason codemasonref.Folded -/
def ref_Folded_phi (nf : Nat) : Nat → Option Contract := lookC [(24, ref_Reach_C nf)]
def ref_Folded_keep : Nat → List Nat := lookK [(10, [3, 4, 9, 10, 16, 22, 23, 69, 87, 88, 89, 116, 118]), (8, [3, 4, 9, 10, 12, 13, 16, 22, 23, 45, 46, 47, 55, 56, 57, 69, 116, 118]), (6, [3, 4, 9, 10, 16, 22, 23, 45, 46, 47, 69, 116, 118]), (4, [3, 4, 16, 22, 23, 69, 116, 118]), (2, [0, 3, 4, 6, 16, 22, 23, 24, 25, 26, 30, 32, 33, 34, 35, 69, 116, 118]), (0, [0, 3, 4, 16, 22, 23, 24, 25, 26, 69, 116, 118])]
def ref_Folded_b0 (nf : Nat) (l2 : List (List Int) → List Int → Int → List Int × Unit → List Int → List ((Int × Int × Unit) × Bool) → Int → Option (Int × Unit)) (l4 : List Int → List ((Int × Int × Unit) × Bool) → Option (Int × Unit)) (next : List (List Int)) (r : List Int × Unit) (g0 : List Int → List ((Int × Int × Unit) × Bool) → Int → Option (Int × Unit)) (left : List Int) (t : List ((Int × Int × Unit) × Bool)) (t26 : Int) : Option (Int × Unit) :=
  bif decide (t26 < (↑([] ++ r.fst).length : Int)) then
    bif inb t26 left.length then
      bif inb (left.getD t26.toNat 0) next.length then
        l2 next left t26 r left t 0
      else
        none
    else
      none
  else
    l4 left t
def ref_Folded_b2 (nf : Nat) (next : List (List Int)) (left : List Int) (t26 : Int) (r : List Int × Unit) (g0 : List Int → List ((Int × Int × Unit) × Bool) → Int → Option (Int × Unit)) (g2 : List Int → List ((Int × Int × Unit) × Bool) → Int → Option (Int × Unit)) (left2 : List Int) (t2 : List ((Int × Int × Unit) × Bool)) (t35 : Int) : Option (Int × Unit) :=
  bif decide (t35 < (↑(List.length (next.getD (Int.toNat (left.getD t26.toNat 0)) [])) : Int)) then
    bif inb t35 (List.length (next.getD (Int.toNat (left.getD t26.toNat 0)) [])) then
      g2 left2 (insM ((Ty.int IntKind.i64).pair ((Ty.int IntKind.i64).pair Ty.unit)) Ty.bool t2 (left.getD t26.toNat 0, List.getD (next.getD (Int.toNat (left.getD t26.toNat 0)) []) t35.toNat 0, ()) true) (IntKind.i64.wrap (t35 + 1))
    else
      none
  else
    g0 left2 t2 (IntKind.i64.wrap (t26 + 1))
def ref_Folded_b4 (nf : Nat) (l6 : List Int → List Int → List ((Int × Int × Unit) × Bool) → Int → Int → Int → Option (Int × Unit)) (g4 : List Int → List ((Int × Int × Unit) × Bool) → Option (Int × Unit)) (left3 : List Int) (t3 : List ((Int × Int × Unit) × Bool)) : Option (Int × Unit) :=
  l6 left3 left3 t3 (-1) (-1) 0
def ref_Folded_b6 (nf : Nat) (l8 : Int → Int → List Int → Int → List Int → List Int → List ((Int × Int × Unit) × Bool) → List Int → Int → Option (Int × Unit)) (l10 : Int → Int → List Int → List Int → List ((Int × Int × Unit) × Bool) → List Int → Int → Option (Int × Unit)) (left3 : List Int) (g4 : List Int → List ((Int × Int × Unit) × Bool) → Option (Int × Unit)) (g6 : List Int → List ((Int × Int × Unit) × Bool) → Int → Int → Int → Option (Int × Unit)) (left4 : List Int) (t4 : List ((Int × Int × Unit) × Bool)) (one : Int) (into : Int) (t47 : Int) : Option (Int × Unit) :=
  bif decide (t47 < (↑left3.length : Int)) then
    bif inb t47 left4.length then
      l8 one into left4 t47 left3 left4 (delM ((Ty.int IntKind.i64).pair ((Ty.int IntKind.i64).pair Ty.unit)) Ty.bool t4 (left4.getD t47.toNat 0, left4.getD t47.toNat 0, ())) [] 0
    else
      none
  else
    bif decide (one < 0) then
      some (((↑left4.length : Int), ()))
    else
      l10 one into left4 left4 t4 [] 0
def ref_Folded_b8 (nf : Nat) (one : Int) (into : Int) (left4 : List Int) (t47 : Int) (left3 : List Int) (g6 : List Int → List ((Int × Int × Unit) × Bool) → Int → Int → Int → Option (Int × Unit)) (g4 : List Int → List ((Int × Int × Unit) × Bool) → Option (Int × Unit)) (g8 : List Int → List ((Int × Int × Unit) × Bool) → List Int → Int → Option (Int × Unit)) (left5 : List Int) (t5 : List ((Int × Int × Unit) × Bool)) (from' : List Int) (t57 : Int) : Option (Int × Unit) :=
  bif decide (t57 < (↑left4.length : Int)) then
    bif inb t57 left5.length then
      bif (getM ((Ty.int IntKind.i64).pair ((Ty.int IntKind.i64).pair Ty.unit)) Ty.bool t5 (left5.getD t57.toNat 0, left4.getD t47.toNat 0, ())).getD false then
        bif bimp false ![left5.getD t57.toNat 0].isEmpty && (from'.length + [left5.getD t57.toNat 0].length).ble lim then
          g8 left5 t5 (from' ++ [left5.getD t57.toNat 0]) (IntKind.i64.wrap (t57 + 1))
        else
          none
      else
        g8 left5 t5 from' (IntKind.i64.wrap (t57 + 1))
    else
      none
  else
    bif left4.getD t47.toNat 0 != 0 then
      bif (↑from'.length : Int) == 1 then
        bif inb 0 from'.length then
          g6 left5 t5 (left4.getD t47.toNat 0) (from'.getD 0 0) (IntKind.i64.wrap (t47 + 1))
        else
          none
      else
        g6 left5 t5 one into (IntKind.i64.wrap (t47 + 1))
    else
      g6 left5 t5 one into (IntKind.i64.wrap (t47 + 1))
def ref_Folded_b10 (nf : Nat) (one : Int) (into : Int) (left4 : List Int) (g4 : List Int → List ((Int × Int × Unit) × Bool) → Option (Int × Unit)) (g10 : List Int → List ((Int × Int × Unit) × Bool) → List Int → Int → Option (Int × Unit)) (left6 : List Int) (t6 : List ((Int × Int × Unit) × Bool)) (rest : List Int) (t89 : Int) : Option (Int × Unit) :=
  bif decide (t89 < (↑left4.length : Int)) then
    bif inb t89 left6.length then
      bif (getM ((Ty.int IntKind.i64).pair ((Ty.int IntKind.i64).pair Ty.unit)) Ty.bool t6 (one, left6.getD t89.toNat 0, ())).getD false then
        bif left6.getD t89.toNat 0 != one then
          bif bimp false ![left6.getD t89.toNat 0].isEmpty && (rest.length + [left6.getD t89.toNat 0].length).ble lim then
            g10 left6 (delM ((Ty.int IntKind.i64).pair ((Ty.int IntKind.i64).pair Ty.unit)) Ty.bool (delM ((Ty.int IntKind.i64).pair ((Ty.int IntKind.i64).pair Ty.unit)) Ty.bool (insM ((Ty.int IntKind.i64).pair ((Ty.int IntKind.i64).pair Ty.unit)) Ty.bool t6 (into, left6.getD t89.toNat 0, ()) true) (one, left6.getD t89.toNat 0, ())) (left6.getD t89.toNat 0, one, ())) (rest ++ [left6.getD t89.toNat 0]) (IntKind.i64.wrap (t89 + 1))
          else
            none
        else
          g10 left6 (delM ((Ty.int IntKind.i64).pair ((Ty.int IntKind.i64).pair Ty.unit)) Ty.bool (delM ((Ty.int IntKind.i64).pair ((Ty.int IntKind.i64).pair Ty.unit)) Ty.bool (insM ((Ty.int IntKind.i64).pair ((Ty.int IntKind.i64).pair Ty.unit)) Ty.bool t6 (into, left6.getD t89.toNat 0, ()) true) (one, left6.getD t89.toNat 0, ())) (left6.getD t89.toNat 0, one, ())) rest (IntKind.i64.wrap (t89 + 1))
      else
        bif left6.getD t89.toNat 0 != one then
          bif bimp false ![left6.getD t89.toNat 0].isEmpty && (rest.length + [left6.getD t89.toNat 0].length).ble lim then
            g10 left6 (delM ((Ty.int IntKind.i64).pair ((Ty.int IntKind.i64).pair Ty.unit)) Ty.bool (delM ((Ty.int IntKind.i64).pair ((Ty.int IntKind.i64).pair Ty.unit)) Ty.bool t6 (one, left6.getD t89.toNat 0, ())) (left6.getD t89.toNat 0, one, ())) (rest ++ [left6.getD t89.toNat 0]) (IntKind.i64.wrap (t89 + 1))
          else
            none
        else
          g10 left6 (delM ((Ty.int IntKind.i64).pair ((Ty.int IntKind.i64).pair Ty.unit)) Ty.bool (delM ((Ty.int IntKind.i64).pair ((Ty.int IntKind.i64).pair Ty.unit)) Ty.bool t6 (one, left6.getD t89.toNat 0, ())) (left6.getD t89.toNat 0, one, ())) rest (IntKind.i64.wrap (t89 + 1))
    else
      none
  else
    g4 rest t6
def ref_Folded_p (nf : Nat) (l0 : List (List Int) → List Int × Unit → List Int → List ((Int × Int × Unit) × Bool) → Int → Option (Int × Unit)) (next : List (List Int)) : Option (Int × Unit) :=
  Option.bind (ref_Reach_f nf next 0 (-1)) fun r =>
  bif bimp false !List.isEmpty r.fst && ((List.length ([] : List Unit)) + List.length r.fst).ble lim then
    l0 next r ([] ++ r.fst) [] 0
  else
    none
def ref_Folded_l10 (nf : Nat) (one : Int) (into : Int) (left4 : List Int) (g4 : List Int → List ((Int × Int × Unit) × Bool) → Option (Int × Unit)) : Nat → List Int → List ((Int × Int × Unit) × Bool) → List Int → Int → Option (Int × Unit)
  | 0, _, _, _, _ => none
  | fu + 1, left6, t6, rest, t89 => ref_Folded_b10 nf  one into left4 g4 (ref_Folded_l10 nf one into left4 g4 fu) left6 t6 rest t89
def ref_Folded_l8 (nf : Nat) (one : Int) (into : Int) (left4 : List Int) (t47 : Int) (left3 : List Int) (g6 : List Int → List ((Int × Int × Unit) × Bool) → Int → Int → Int → Option (Int × Unit)) (g4 : List Int → List ((Int × Int × Unit) × Bool) → Option (Int × Unit)) : Nat → List Int → List ((Int × Int × Unit) × Bool) → List Int → Int → Option (Int × Unit)
  | 0, _, _, _, _ => none
  | fu + 1, left5, t5, from', t57 => ref_Folded_b8 nf  one into left4 t47 left3 g6 g4 (ref_Folded_l8 nf one into left4 t47 left3 g6 g4 fu) left5 t5 from' t57
def ref_Folded_l6 (nf : Nat) (left3 : List Int) (g4 : List Int → List ((Int × Int × Unit) × Bool) → Option (Int × Unit)) : Nat → List Int → List ((Int × Int × Unit) × Bool) → Int → Int → Int → Option (Int × Unit)
  | 0, _, _, _, _, _ => none
  | fu + 1, left4, t4, one, into, t47 => ref_Folded_b6 nf (fun p0 p1 p2 p3 _ v0 v1 v2 v3 => ref_Folded_l8 nf p0 p1 p2 p3 left3 (fun left4 t4 one into t47 => ref_Folded_l6 nf left3 g4 fu left4 t4 one into t47) g4 nf v0 v1 v2 v3) (fun p0 p1 p2 v0 v1 v2 v3 => ref_Folded_l10 nf p0 p1 p2 g4 nf v0 v1 v2 v3) left3 g4 (ref_Folded_l6 nf left3 g4 fu) left4 t4 one into t47
def ref_Folded_l4 (nf : Nat)  : Nat → List Int → List ((Int × Int × Unit) × Bool) → Option (Int × Unit)
  | 0, _, _ => none
  | fu + 1, left3, t3 => ref_Folded_b4 nf (fun p0 v0 v1 v2 v3 v4 => ref_Folded_l6 nf p0 (fun left3 t3 => ref_Folded_l4 nf   fu left3 t3) nf v0 v1 v2 v3 v4)   (ref_Folded_l4 nf   fu) left3 t3
def ref_Folded_l2 (nf : Nat) (next : List (List Int)) (left : List Int) (t26 : Int) (r : List Int × Unit) (g0 : List Int → List ((Int × Int × Unit) × Bool) → Int → Option (Int × Unit)) : Nat → List Int → List ((Int × Int × Unit) × Bool) → Int → Option (Int × Unit)
  | 0, _, _, _ => none
  | fu + 1, left2, t2, t35 => ref_Folded_b2 nf  next left t26 r g0 (ref_Folded_l2 nf next left t26 r g0 fu) left2 t2 t35
def ref_Folded_l0 (nf : Nat) (next : List (List Int)) (r : List Int × Unit) : Nat → List Int → List ((Int × Int × Unit) × Bool) → Int → Option (Int × Unit)
  | 0, _, _, _ => none
  | fu + 1, left, t, t26 => ref_Folded_b0 nf (fun _ p1 p2 _ v0 v1 v2 => ref_Folded_l2 nf next p1 p2 r (fun left t t26 => ref_Folded_l0 nf next r  fu left t t26) nf v0 v1 v2) (fun  v0 v1 => ref_Folded_l4 nf   nf v0 v1) next r  (ref_Folded_l0 nf next r  fu) left t t26
def ref_Folded_f (nf : Nat) (next : List (List Int)) : Option (Int × Unit) := ref_Folded_p nf (fun p0 p1 v0 v1 v2 => ref_Folded_l0 nf p0 p1 nf v0 v1 v2) next
noncomputable def ref_Folded_L0 (nf : Nat) : LC (Int × Unit) := theL (findL tab (ref_Folded_phi nf) (fun _ F => iter nf F) ref_Folded_keep 0 0 (codeOf Try.f46) (fin tab [(Ty.int IntKind.i64, Md.bor false true)] (resL ([]) Try.f46)) (fun _ _ => none) (fin tab [(Ty.int IntKind.i64, Md.bor false true)] (resL ([]) Try.f46)))
def ref_Folded_m0 (next : List (List Int)) (r : List Int × Unit) (left : List Int) (t : List ((Int × Int × Unit) × Bool)) (t26 : Int) : St := ⟨fresh, [(0, AV.v (Ty.int IntKind.i64).sl.sl (Md.bor true false) next), (3, AV.ow 500003 (Ty.int IntKind.i64).sl (Md.own false (Md.bor false false)) left), (4, AV.ow 500004 (((Ty.int IntKind.i64).pair ((Ty.int IntKind.i64).pair Ty.unit)).mp Ty.bool) (Md.own true (Md.bor false false)) t), (16, AV.dead), (22, AV.dead), (23, AV.dead), (24, AV.al 3 500003 []), (25, AV.v (Ty.int IntKind.i64) (Md.bor false true) (↑([] ++ r.fst).length : Int)), (26, AV.v (Ty.int IntKind.i64) (Md.bor false true) t26), (69, AV.dead), (116, AV.dead), (118, AV.dead)]⟩
noncomputable def ref_Folded_L2 (nf : Nat) (G0 : St → Option (Int × Unit)) : LC (Int × Unit) := theL (findL tab (ref_Folded_phi nf) (fun _ F => iter nf F) ref_Folded_keep 2 0 (ref_Folded_L0 nf ).c (fun st => norm (ref_Folded_keep 0) st G0) (ref_Folded_L0 nf ).Kx (ref_Folded_L0 nf ).Kr)
def ref_Folded_m2 (next : List (List Int)) (left : List Int) (t26 : Int) (r : List Int × Unit) (left2 : List Int) (t2 : List ((Int × Int × Unit) × Bool)) (t35 : Int) : St := ⟨fresh, [(0, AV.v (Ty.int IntKind.i64).sl.sl (Md.bor true false) next), (3, AV.ow 500003 (Ty.int IntKind.i64).sl (Md.own false (Md.bor false false)) left2), (4, AV.ow 500004 (((Ty.int IntKind.i64).pair ((Ty.int IntKind.i64).pair Ty.unit)).mp Ty.bool) (Md.own true (Md.bor false false)) t2), (6, AV.v (Ty.int IntKind.i64) (Md.bor false true) (left.getD t26.toNat 0)), (16, AV.dead), (22, AV.dead), (23, AV.dead), (24, AV.al 3 500003 []), (25, AV.v (Ty.int IntKind.i64) (Md.bor false true) (↑([] ++ r.fst).length : Int)), (26, AV.v (Ty.int IntKind.i64) (Md.bor false true) t26), (30, AV.v (Ty.int IntKind.i64).sl.sl (Md.bor true false) next), (32, AV.rop (Ty.int IntKind.i64).sl (Md.bor true false) (next.getD (Int.toNat (left.getD t26.toNat 0)) [])), (33, AV.v (Ty.int IntKind.i64).sl (Md.bor true false) (next.getD (Int.toNat (left.getD t26.toNat 0)) [])), (34, AV.v (Ty.int IntKind.i64) (Md.bor false true) (↑(List.length (next.getD (Int.toNat (left.getD t26.toNat 0)) [])) : Int)), (35, AV.v (Ty.int IntKind.i64) (Md.bor false true) t35), (69, AV.dead), (116, AV.dead), (118, AV.dead)]⟩
noncomputable def ref_Folded_L4 (nf : Nat) : LC (Int × Unit) := theL (findL tab (ref_Folded_phi nf) (fun _ F => iter nf F) ref_Folded_keep 4 0 (codeOf Try.f46) (fin tab [(Ty.int IntKind.i64, Md.bor false true)] (resL ([]) Try.f46)) (fun _ _ => none) (fin tab [(Ty.int IntKind.i64, Md.bor false true)] (resL ([]) Try.f46)))
def ref_Folded_m4 (left3 : List Int) (t3 : List ((Int × Int × Unit) × Bool)) : St := ⟨fresh, [(3, AV.ow 500003 (Ty.int IntKind.i64).sl (Md.own false (Md.bor false false)) left3), (4, AV.ow 500004 (((Ty.int IntKind.i64).pair ((Ty.int IntKind.i64).pair Ty.unit)).mp Ty.bool) (Md.own true (Md.bor false false)) t3), (16, AV.dead), (22, AV.dead), (23, AV.dead), (69, AV.dead), (116, AV.dead), (118, AV.dead)]⟩
noncomputable def ref_Folded_L6 (nf : Nat) (G4 : St → Option (Int × Unit)) : LC (Int × Unit) := theL (findL tab (ref_Folded_phi nf) (fun _ F => iter nf F) ref_Folded_keep 6 4 (ref_Folded_L4 nf ).c (fun st => norm (ref_Folded_keep 4) st G4) (ref_Folded_L4 nf ).Kx (ref_Folded_L4 nf ).Kr)
def ref_Folded_m6 (left3 : List Int) (left4 : List Int) (t4 : List ((Int × Int × Unit) × Bool)) (one : Int) (into : Int) (t47 : Int) : St := ⟨fresh, [(3, AV.ow 500003 (Ty.int IntKind.i64).sl (Md.own false (Md.bor false false)) left4), (4, AV.ow 500004 (((Ty.int IntKind.i64).pair ((Ty.int IntKind.i64).pair Ty.unit)).mp Ty.bool) (Md.own true (Md.bor false false)) t4), (9, AV.v (Ty.int IntKind.i64) (Md.bor false true) one), (10, AV.v (Ty.int IntKind.i64) (Md.bor false true) into), (16, AV.dead), (22, AV.dead), (23, AV.dead), (45, AV.al 3 500003 []), (46, AV.v (Ty.int IntKind.i64) (Md.bor false true) (↑left3.length : Int)), (47, AV.v (Ty.int IntKind.i64) (Md.bor false true) t47), (69, AV.dead), (116, AV.dead), (118, AV.dead)]⟩
noncomputable def ref_Folded_L8 (nf : Nat) (G4 : St → Option (Int × Unit)) (G6 : St → Option (Int × Unit)) : LC (Int × Unit) := theL (findL tab (ref_Folded_phi nf) (fun _ F => iter nf F) ref_Folded_keep 8 6 (ref_Folded_L6 nf G4).c (fun st => norm (ref_Folded_keep 6) st G6) (ref_Folded_L6 nf G4).Kx (ref_Folded_L6 nf G4).Kr)
def ref_Folded_m8 (one : Int) (into : Int) (left4 : List Int) (t47 : Int) (left3 : List Int) (left5 : List Int) (t5 : List ((Int × Int × Unit) × Bool)) (from' : List Int) (t57 : Int) : St := ⟨fresh, [(3, AV.ow 500003 (Ty.int IntKind.i64).sl (Md.own false (Md.bor false false)) left5), (4, AV.ow 500004 (((Ty.int IntKind.i64).pair ((Ty.int IntKind.i64).pair Ty.unit)).mp Ty.bool) (Md.own true (Md.bor false false)) t5), (9, AV.v (Ty.int IntKind.i64) (Md.bor false true) one), (10, AV.v (Ty.int IntKind.i64) (Md.bor false true) into), (12, AV.v (Ty.int IntKind.i64) (Md.bor false true) (left4.getD t47.toNat 0)), (13, AV.ow 500013 (Ty.int IntKind.i64).sl (Md.own false (Md.bor false false)) from'), (16, AV.dead), (22, AV.dead), (23, AV.dead), (45, AV.al 3 500003 []), (46, AV.v (Ty.int IntKind.i64) (Md.bor false true) (↑left3.length : Int)), (47, AV.v (Ty.int IntKind.i64) (Md.bor false true) t47), (55, AV.al 3 500003 []), (56, AV.v (Ty.int IntKind.i64) (Md.bor false true) (↑left4.length : Int)), (57, AV.v (Ty.int IntKind.i64) (Md.bor false true) t57), (69, AV.dead), (116, AV.dead), (118, AV.dead)]⟩
noncomputable def ref_Folded_L10 (nf : Nat) (G4 : St → Option (Int × Unit)) : LC (Int × Unit) := theL (findL tab (ref_Folded_phi nf) (fun _ F => iter nf F) ref_Folded_keep 10 4 (ref_Folded_L4 nf ).c (fun st => norm (ref_Folded_keep 4) st G4) (ref_Folded_L4 nf ).Kx (ref_Folded_L4 nf ).Kr)
def ref_Folded_m10 (one : Int) (into : Int) (left4 : List Int) (left6 : List Int) (t6 : List ((Int × Int × Unit) × Bool)) (rest : List Int) (t89 : Int) : St := ⟨fresh, [(3, AV.ow 500003 (Ty.int IntKind.i64).sl (Md.own false (Md.bor false false)) left6), (4, AV.ow 500004 (((Ty.int IntKind.i64).pair ((Ty.int IntKind.i64).pair Ty.unit)).mp Ty.bool) (Md.own true (Md.bor false false)) t6), (9, AV.v (Ty.int IntKind.i64) (Md.bor false true) one), (10, AV.v (Ty.int IntKind.i64) (Md.bor false true) into), (16, AV.ow 500016 (Ty.int IntKind.i64).sl (Md.own false (Md.bor false false)) rest), (22, AV.dead), (23, AV.dead), (69, AV.dead), (87, AV.al 3 500003 []), (88, AV.v (Ty.int IntKind.i64) (Md.bor false true) (↑left4.length : Int)), (89, AV.v (Ty.int IntKind.i64) (Md.bor false true) t89), (116, AV.dead), (118, AV.dead)]⟩
theorem ref_Folded_h10 (nf : Nat) (G4 : St → Option (Int × Unit)) (one : Int) (into : Int) (left4 : List Int) (fu : Nat) (left6 : List Int) (t6 : List ((Int × Int × Unit) × Bool)) (rest : List Int) (t89 : Int) : iter (fu + 1) (LC.F tab (ref_Folded_phi nf) (fun _ F => iter nf F) ref_Folded_keep 10 (ref_Folded_L10 nf G4)) (ref_Folded_m10 one into left4 left6 t6 rest t89) = ref_Folded_b10 nf  one into left4 (fun left3 t3 => G4 (ref_Folded_m4  left3 t3)) (fun left6 t6 rest t89 => iter fu (LC.F tab (ref_Folded_phi nf) (fun _ F => iter nf F) ref_Folded_keep 10 (ref_Folded_L10 nf G4)) (ref_Folded_m10 one into left4 left6 t6 rest t89)) left6 t6 rest t89 := by kernel_rfl
theorem ref_Folded_e10 (nf : Nat) (G4 : St → Option (Int × Unit)) (one : Int) (into : Int) (left4 : List Int) : ∀ (fu : Nat) (left6 : List Int) (t6 : List ((Int × Int × Unit) × Bool)) (rest : List Int) (t89 : Int), iter fu (LC.F tab (ref_Folded_phi nf) (fun _ F => iter nf F) ref_Folded_keep 10 (ref_Folded_L10 nf G4)) (ref_Folded_m10 one into left4 left6 t6 rest t89) = ref_Folded_l10 nf one into left4 (fun left3 t3 => G4 (ref_Folded_m4  left3 t3)) fu left6 t6 rest t89 := by
  intro fu
  induction fu with
  | zero => intros; rfl
  | succ fu ih =>
    intro left6 t6 rest t89
    rw [ref_Folded_h10 nf G4 one into left4 fu left6 t6 rest t89]
    simp only [ih]
    rfl
theorem ref_Folded_h8 (nf : Nat) (G4 : St → Option (Int × Unit)) (G6 : St → Option (Int × Unit)) (one : Int) (into : Int) (left4 : List Int) (t47 : Int) (left3 : List Int) (fu : Nat) (left5 : List Int) (t5 : List ((Int × Int × Unit) × Bool)) (from' : List Int) (t57 : Int) : iter (fu + 1) (LC.F tab (ref_Folded_phi nf) (fun _ F => iter nf F) ref_Folded_keep 8 (ref_Folded_L8 nf G4 G6)) (ref_Folded_m8 one into left4 t47 left3 left5 t5 from' t57) = ref_Folded_b8 nf  one into left4 t47 left3 (fun left4 t4 one into t47 => G6 (ref_Folded_m6 left3 left4 t4 one into t47)) (fun left3 t3 => G4 (ref_Folded_m4  left3 t3)) (fun left5 t5 from' t57 => iter fu (LC.F tab (ref_Folded_phi nf) (fun _ F => iter nf F) ref_Folded_keep 8 (ref_Folded_L8 nf G4 G6)) (ref_Folded_m8 one into left4 t47 left3 left5 t5 from' t57)) left5 t5 from' t57 := by kernel_rfl
theorem ref_Folded_e8 (nf : Nat) (G4 : St → Option (Int × Unit)) (G6 : St → Option (Int × Unit)) (one : Int) (into : Int) (left4 : List Int) (t47 : Int) (left3 : List Int) : ∀ (fu : Nat) (left5 : List Int) (t5 : List ((Int × Int × Unit) × Bool)) (from' : List Int) (t57 : Int), iter fu (LC.F tab (ref_Folded_phi nf) (fun _ F => iter nf F) ref_Folded_keep 8 (ref_Folded_L8 nf G4 G6)) (ref_Folded_m8 one into left4 t47 left3 left5 t5 from' t57) = ref_Folded_l8 nf one into left4 t47 left3 (fun left4 t4 one into t47 => G6 (ref_Folded_m6 left3 left4 t4 one into t47)) (fun left3 t3 => G4 (ref_Folded_m4  left3 t3)) fu left5 t5 from' t57 := by
  intro fu
  induction fu with
  | zero => intros; rfl
  | succ fu ih =>
    intro left5 t5 from' t57
    rw [ref_Folded_h8 nf G4 G6 one into left4 t47 left3 fu left5 t5 from' t57]
    simp only [ih]
    rfl
theorem ref_Folded_h6 (nf : Nat) (G4 : St → Option (Int × Unit)) (left3 : List Int) (fu : Nat) (left4 : List Int) (t4 : List ((Int × Int × Unit) × Bool)) (one : Int) (into : Int) (t47 : Int) : iter (fu + 1) (LC.F tab (ref_Folded_phi nf) (fun _ F => iter nf F) ref_Folded_keep 6 (ref_Folded_L6 nf G4)) (ref_Folded_m6 left3 left4 t4 one into t47) = ref_Folded_b6 nf (fun p0 p1 p2 p3 _ v0 v1 v2 v3 => iter nf (LC.F tab (ref_Folded_phi nf) (fun _ F => iter nf F) ref_Folded_keep 8 (ref_Folded_L8 nf G4 (iter fu (LC.F tab (ref_Folded_phi nf) (fun _ F => iter nf F) ref_Folded_keep 6 (ref_Folded_L6 nf G4))))) (ref_Folded_m8 p0 p1 p2 p3 left3 v0 v1 v2 v3)) (fun p0 p1 p2 v0 v1 v2 v3 => iter nf (LC.F tab (ref_Folded_phi nf) (fun _ F => iter nf F) ref_Folded_keep 10 (ref_Folded_L10 nf G4)) (ref_Folded_m10 p0 p1 p2 v0 v1 v2 v3)) left3 (fun left3 t3 => G4 (ref_Folded_m4  left3 t3)) (fun left4 t4 one into t47 => iter fu (LC.F tab (ref_Folded_phi nf) (fun _ F => iter nf F) ref_Folded_keep 6 (ref_Folded_L6 nf G4)) (ref_Folded_m6 left3 left4 t4 one into t47)) left4 t4 one into t47 := by kernel_rfl
theorem ref_Folded_e6 (nf : Nat) (G4 : St → Option (Int × Unit)) (left3 : List Int) : ∀ (fu : Nat) (left4 : List Int) (t4 : List ((Int × Int × Unit) × Bool)) (one : Int) (into : Int) (t47 : Int), iter fu (LC.F tab (ref_Folded_phi nf) (fun _ F => iter nf F) ref_Folded_keep 6 (ref_Folded_L6 nf G4)) (ref_Folded_m6 left3 left4 t4 one into t47) = ref_Folded_l6 nf left3 (fun left3 t3 => G4 (ref_Folded_m4  left3 t3)) fu left4 t4 one into t47 := by
  intro fu
  induction fu with
  | zero => intros; rfl
  | succ fu ih =>
    intro left4 t4 one into t47
    rw [ref_Folded_h6 nf G4 left3 fu left4 t4 one into t47]
    simp only [ih, ref_Folded_e8, ref_Folded_e10]
    rfl
theorem ref_Folded_h4 (nf : Nat)   (fu : Nat) (left3 : List Int) (t3 : List ((Int × Int × Unit) × Bool)) : iter (fu + 1) (LC.F tab (ref_Folded_phi nf) (fun _ F => iter nf F) ref_Folded_keep 4 (ref_Folded_L4 nf )) (ref_Folded_m4  left3 t3) = ref_Folded_b4 nf (fun p0 v0 v1 v2 v3 v4 => iter nf (LC.F tab (ref_Folded_phi nf) (fun _ F => iter nf F) ref_Folded_keep 6 (ref_Folded_L6 nf (iter fu (LC.F tab (ref_Folded_phi nf) (fun _ F => iter nf F) ref_Folded_keep 4 (ref_Folded_L4 nf ))))) (ref_Folded_m6 p0 v0 v1 v2 v3 v4))   (fun left3 t3 => iter fu (LC.F tab (ref_Folded_phi nf) (fun _ F => iter nf F) ref_Folded_keep 4 (ref_Folded_L4 nf )) (ref_Folded_m4  left3 t3)) left3 t3 := by kernel_rfl
theorem ref_Folded_e4 (nf : Nat)   : ∀ (fu : Nat) (left3 : List Int) (t3 : List ((Int × Int × Unit) × Bool)), iter fu (LC.F tab (ref_Folded_phi nf) (fun _ F => iter nf F) ref_Folded_keep 4 (ref_Folded_L4 nf )) (ref_Folded_m4  left3 t3) = ref_Folded_l4 nf   fu left3 t3 := by
  intro fu
  induction fu with
  | zero => intros; rfl
  | succ fu ih =>
    intro left3 t3
    rw [ref_Folded_h4 nf   fu left3 t3]
    simp only [ih, ref_Folded_e6]
    rfl
theorem ref_Folded_h2 (nf : Nat) (G0 : St → Option (Int × Unit)) (next : List (List Int)) (left : List Int) (t26 : Int) (r : List Int × Unit) (fu : Nat) (left2 : List Int) (t2 : List ((Int × Int × Unit) × Bool)) (t35 : Int) : iter (fu + 1) (LC.F tab (ref_Folded_phi nf) (fun _ F => iter nf F) ref_Folded_keep 2 (ref_Folded_L2 nf G0)) (ref_Folded_m2 next left t26 r left2 t2 t35) = ref_Folded_b2 nf  next left t26 r (fun left t t26 => G0 (ref_Folded_m0 next r left t t26)) (fun left2 t2 t35 => iter fu (LC.F tab (ref_Folded_phi nf) (fun _ F => iter nf F) ref_Folded_keep 2 (ref_Folded_L2 nf G0)) (ref_Folded_m2 next left t26 r left2 t2 t35)) left2 t2 t35 := by kernel_rfl
theorem ref_Folded_e2 (nf : Nat) (G0 : St → Option (Int × Unit)) (next : List (List Int)) (left : List Int) (t26 : Int) (r : List Int × Unit) : ∀ (fu : Nat) (left2 : List Int) (t2 : List ((Int × Int × Unit) × Bool)) (t35 : Int), iter fu (LC.F tab (ref_Folded_phi nf) (fun _ F => iter nf F) ref_Folded_keep 2 (ref_Folded_L2 nf G0)) (ref_Folded_m2 next left t26 r left2 t2 t35) = ref_Folded_l2 nf next left t26 r (fun left t t26 => G0 (ref_Folded_m0 next r left t t26)) fu left2 t2 t35 := by
  intro fu
  induction fu with
  | zero => intros; rfl
  | succ fu ih =>
    intro left2 t2 t35
    rw [ref_Folded_h2 nf G0 next left t26 r fu left2 t2 t35]
    simp only [ih]
    rfl
theorem ref_Folded_h0 (nf : Nat)  (next : List (List Int)) (r : List Int × Unit) (fu : Nat) (left : List Int) (t : List ((Int × Int × Unit) × Bool)) (t26 : Int) : iter (fu + 1) (LC.F tab (ref_Folded_phi nf) (fun _ F => iter nf F) ref_Folded_keep 0 (ref_Folded_L0 nf )) (ref_Folded_m0 next r left t t26) = ref_Folded_b0 nf (fun _ p1 p2 _ v0 v1 v2 => iter nf (LC.F tab (ref_Folded_phi nf) (fun _ F => iter nf F) ref_Folded_keep 2 (ref_Folded_L2 nf (iter fu (LC.F tab (ref_Folded_phi nf) (fun _ F => iter nf F) ref_Folded_keep 0 (ref_Folded_L0 nf ))))) (ref_Folded_m2 next p1 p2 r v0 v1 v2)) (fun  v0 v1 => iter nf (LC.F tab (ref_Folded_phi nf) (fun _ F => iter nf F) ref_Folded_keep 4 (ref_Folded_L4 nf )) (ref_Folded_m4  v0 v1)) next r  (fun left t t26 => iter fu (LC.F tab (ref_Folded_phi nf) (fun _ F => iter nf F) ref_Folded_keep 0 (ref_Folded_L0 nf )) (ref_Folded_m0 next r left t t26)) left t t26 := by kernel_rfl
theorem ref_Folded_e0 (nf : Nat)  (next : List (List Int)) (r : List Int × Unit) : ∀ (fu : Nat) (left : List Int) (t : List ((Int × Int × Unit) × Bool)) (t26 : Int), iter fu (LC.F tab (ref_Folded_phi nf) (fun _ F => iter nf F) ref_Folded_keep 0 (ref_Folded_L0 nf )) (ref_Folded_m0 next r left t t26) = ref_Folded_l0 nf next r  fu left t t26 := by
  intro fu
  induction fu with
  | zero => intros; rfl
  | succ fu ih =>
    intro left t t26
    rw [ref_Folded_h0 nf  next r fu left t t26]
    simp only [ih, ref_Folded_e2, ref_Folded_e4]
    rfl
theorem ref_Folded_eq (nf : Nat) (next : List (List Int)) : runF tab (ref_Folded_phi nf) ref_Folded_keep nf [PT.val (Ty.int IntKind.i64).sl.sl (Md.bor true false)] [(Ty.int IntKind.i64, Md.bor false true)] (resL ([]) Try.f46) (codeOf Try.f46) ⟨next, ()⟩ = ref_Folded_f nf next := by
  have h : runF tab (ref_Folded_phi nf) ref_Folded_keep nf [PT.val (Ty.int IntKind.i64).sl.sl (Md.bor true false)] [(Ty.int IntKind.i64, Md.bor false true)] (resL ([]) Try.f46) (codeOf Try.f46) ⟨next, ()⟩ = ref_Folded_p nf (fun p0 p1 v0 v1 v2 => iter nf (LC.F tab (ref_Folded_phi nf) (fun _ F => iter nf F) ref_Folded_keep 0 (ref_Folded_L0 nf)) (ref_Folded_m0 p0 p1 v0 v1 v2)) next := by kernel_rfl
  rw [h]
  simp only [ref_Folded_e0]
  rfl
def ref_Folded_F (nf : Nat) (x : denPs [.val (.sl (.sl (.int .i64))) (.bor true false)]) : Option (denL [(.int .i64, .bor false true)]) := ref_Folded_f nf x.1
def ref_Folded_C (nf : Nat) : Contract := ⟨[.val (.sl (.sl (.int .i64))) (.bor true false)], [(.int .i64, .bor false true)], ref_Folded_F nf, []⟩
theorem ref_Folded_ok : FnOK Try.prog 46 := ⟨Try.f46, codeOf Try.f46, Try.func46, by kernel_rfl, by kernel_rfl⟩
theorem ref_Folded_holds (nf : Nat) : Contract.Holds Try.prog 46 (ref_Folded_C nf) :=
  fn_holds (Φ := ref_Folded_phi nf) (keep := ref_Folded_keep) (n := nf) ⟨tabs.1, tabs.2, (ctx_cons ref_Reach_ok (ref_Reach_holds nf) ctx_nil), mixed, bk_ok bkls rfl⟩ (fn := Try.f46) ⟨Try.func46, by kernel_rfl, by kernel_rfl, by kernel_rfl⟩ (fun x => ref_Folded_eq nf x.1)

/-! codemason codemasonlaw.LoopFolds -/
def law_LoopFolds_phi (nf : Nat) : Nat → Option Contract := lookC [(21, ref_WayCheck_C nf), (45, loop_Fold_C nf), (46, ref_Folded_C nf)]
def law_LoopFolds_keep : Nat → List Nat := lookK []
def law_LoopFolds_p (nf : Nat)  (next : List (List Int)) : Option (Bool × Unit) :=
  Option.bind (loop_Fold_f nf next) fun r =>
  Option.bind (ref_WayCheck_f nf next) fun r2 =>
  bif r2.fst != 0 then
    bif r.snd.fst == r2.fst then
      some ((r.fst == 0, ()))
    else
      some ((false, ()))
  else
    bif r.snd.fst == 0 then
      Option.bind (ref_Folded_f nf next) fun r3 =>
      some ((r.fst == r3.fst, ()))
    else
      some ((false, ()))
def law_LoopFolds_f (nf : Nat) (next : List (List Int)) : Option (Bool × Unit) := law_LoopFolds_p nf  next
theorem law_LoopFolds_eq (nf : Nat) (next : List (List Int)) : runF tab (law_LoopFolds_phi nf) law_LoopFolds_keep nf [PT.val (Ty.int IntKind.i64).sl.sl (Md.bor false false)] [(Ty.bool, Md.bor false true)] (resL ([]) Try.f15) (codeOf Try.f15) ⟨next, ()⟩ = law_LoopFolds_f nf next := by
  have h : runF tab (law_LoopFolds_phi nf) law_LoopFolds_keep nf [PT.val (Ty.int IntKind.i64).sl.sl (Md.bor false false)] [(Ty.bool, Md.bor false true)] (resL ([]) Try.f15) (codeOf Try.f15) ⟨next, ()⟩ = law_LoopFolds_p nf  next := by kernel_rfl
  exact h
def law_LoopFolds_F (nf : Nat) (x : denPs [.val (.sl (.sl (.int .i64))) (.bor false false)]) : Option (denL [(.bool, .bor false true)]) := law_LoopFolds_f nf x.1
def law_LoopFolds_C (nf : Nat) : Contract := ⟨[.val (.sl (.sl (.int .i64))) (.bor false false)], [(.bool, .bor false true)], law_LoopFolds_F nf, []⟩
theorem law_LoopFolds_ok : FnOK Try.prog 15 := ⟨Try.f15, codeOf Try.f15, Try.func15, by kernel_rfl, by kernel_rfl⟩
theorem law_LoopFolds_holds (nf : Nat) : Contract.Holds Try.prog 15 (law_LoopFolds_C nf) :=
  fn_holds (Φ := law_LoopFolds_phi nf) (keep := law_LoopFolds_keep) (n := nf) ⟨tabs.1, tabs.2, (ctx_cons ref_WayCheck_ok (ref_WayCheck_holds nf) (ctx_cons loop_Fold_ok (loop_Fold_holds nf) (ctx_cons ref_Folded_ok (ref_Folded_holds nf) ctx_nil))), mixed, bk_ok bkls rfl⟩ (fn := Try.f15) ⟨Try.func15, by kernel_rfl, by kernel_rfl, by kernel_rfl⟩ (fun x => law_LoopFolds_eq nf x.1)

/-! codemason codemasonref.Set -/
def ref_Set_phi (nf : Nat) : Nat → Option Contract := lookC []
def ref_Set_keep : Nat → List Nat := lookK [(0, [0, 3, 6, 7, 8])]
def ref_Set_b0 (nf : Nat) (l' : List Int) (g0 : Int → Int → Option (Int × Unit)) (s : Int) (t8 : Int) : Option (Int × Unit) :=
  bif decide (t8 < (↑l'.length : Int)) then
    bif inb t8 l'.length then
      bif decide (0 ≤ IntKind.u64.wrap (l'.getD t8.toNat 0)) then
        g0 (IntKind.u32.wrap (↑(BitVec.ofInt IntKind.u32.bits s ||| BitVec.ofInt IntKind.u32.bits (shlI IntKind.u32 1 (IntKind.u64.wrap (l'.getD t8.toNat 0)))).toNat : Int)) (IntKind.i64.wrap (t8 + 1))
      else
        none
    else
      none
  else
    some ((s, ()))
def ref_Set_p (nf : Nat) (l0 : List Int → Int → Int → Option (Int × Unit)) (l' : List Int) : Option (Int × Unit) :=
  l0 l' 0 0
def ref_Set_l0 (nf : Nat) (l' : List Int) : Nat → Int → Int → Option (Int × Unit)
  | 0, _, _ => none
  | fu + 1, s, t8 => ref_Set_b0 nf  l'  (ref_Set_l0 nf l'  fu) s t8
def ref_Set_f (nf : Nat) (l' : List Int) : Option (Int × Unit) := ref_Set_p nf (fun p0 v0 v1 => ref_Set_l0 nf p0 nf v0 v1) l'
noncomputable def ref_Set_L0 (nf : Nat) : LC (Int × Unit) := theL (findL tab (ref_Set_phi nf) (fun _ F => iter nf F) ref_Set_keep 0 0 (codeOf Try.f23) (fin tab [(Ty.int IntKind.u32, Md.bor false true)] (resL ([]) Try.f23)) (fun _ _ => none) (fin tab [(Ty.int IntKind.u32, Md.bor false true)] (resL ([]) Try.f23)))
def ref_Set_m0 (l' : List Int) (s : Int) (t8 : Int) : St := ⟨fresh, [(0, AV.v (Ty.int IntKind.i64).sl (Md.bor true false) l'), (3, AV.v (Ty.int IntKind.u32) (Md.bor false true) s), (6, AV.v (Ty.int IntKind.i64).sl (Md.bor true false) l'), (7, AV.v (Ty.int IntKind.i64) (Md.bor false true) (↑l'.length : Int)), (8, AV.v (Ty.int IntKind.i64) (Md.bor false true) t8)]⟩
theorem ref_Set_h0 (nf : Nat)  (l' : List Int) (fu : Nat) (s : Int) (t8 : Int) : iter (fu + 1) (LC.F tab (ref_Set_phi nf) (fun _ F => iter nf F) ref_Set_keep 0 (ref_Set_L0 nf )) (ref_Set_m0 l' s t8) = ref_Set_b0 nf  l'  (fun s t8 => iter fu (LC.F tab (ref_Set_phi nf) (fun _ F => iter nf F) ref_Set_keep 0 (ref_Set_L0 nf )) (ref_Set_m0 l' s t8)) s t8 := by kernel_rfl
theorem ref_Set_e0 (nf : Nat)  (l' : List Int) : ∀ (fu : Nat) (s : Int) (t8 : Int), iter fu (LC.F tab (ref_Set_phi nf) (fun _ F => iter nf F) ref_Set_keep 0 (ref_Set_L0 nf )) (ref_Set_m0 l' s t8) = ref_Set_l0 nf l'  fu s t8 := by
  intro fu
  induction fu with
  | zero => intros; rfl
  | succ fu ih =>
    intro s t8
    rw [ref_Set_h0 nf  l' fu s t8]
    simp only [ih]
    rfl
theorem ref_Set_eq (nf : Nat) (l' : List Int) : runF tab (ref_Set_phi nf) ref_Set_keep nf [PT.val (Ty.int IntKind.i64).sl (Md.bor true false)] [(Ty.int IntKind.u32, Md.bor false true)] (resL ([]) Try.f23) (codeOf Try.f23) ⟨l', ()⟩ = ref_Set_f nf l' := by
  have h : runF tab (ref_Set_phi nf) ref_Set_keep nf [PT.val (Ty.int IntKind.i64).sl (Md.bor true false)] [(Ty.int IntKind.u32, Md.bor false true)] (resL ([]) Try.f23) (codeOf Try.f23) ⟨l', ()⟩ = ref_Set_p nf (fun p0 v0 v1 => iter nf (LC.F tab (ref_Set_phi nf) (fun _ F => iter nf F) ref_Set_keep 0 (ref_Set_L0 nf)) (ref_Set_m0 p0 v0 v1)) l' := by kernel_rfl
  rw [h]
  simp only [ref_Set_e0]
  rfl
def ref_Set_F (nf : Nat) (x : denPs [.val (.sl (.int .i64)) (.bor true false)]) : Option (denL [(.int .u32, .bor false true)]) := ref_Set_f nf x.1
def ref_Set_C (nf : Nat) : Contract := ⟨[.val (.sl (.int .i64)) (.bor true false)], [(.int .u32, .bor false true)], ref_Set_F nf, []⟩
theorem ref_Set_ok : FnOK Try.prog 23 := ⟨Try.f23, codeOf Try.f23, Try.func23, by kernel_rfl, by kernel_rfl⟩
theorem ref_Set_holds (nf : Nat) : Contract.Holds Try.prog 23 (ref_Set_C nf) :=
  fn_holds (Φ := ref_Set_phi nf) (keep := ref_Set_keep) (n := nf) ⟨tabs.1, tabs.2, ctx_nil, mixed, bk_ok bkls rfl⟩ (fn := Try.f23) ⟨Try.func23, by kernel_rfl, by kernel_rfl, by kernel_rfl⟩ (fun x => ref_Set_eq nf x.1)
end
end Go.Proofs.Ytccbcbhiblohgaa.S
