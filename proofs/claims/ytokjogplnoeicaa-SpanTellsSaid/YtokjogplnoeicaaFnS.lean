/- The functions of the code, as plain functions, and the theorems that say so: made by a program of this proof's own. -/
import Derived.Test.YtokjogplnoeicaaFn1
import Derived.Test.YtokjogplnoeicaaChecked
namespace Go.Proofs.Ytokjogplnoeicaa.S
open Go Go.Ab
noncomputable section

/-! codemason span.is -/
def span_is_phi (nf : Nat) : Nat → Option Contract := lookC []
def span_is_keep : Nat → List Nat := lookK []
def span_is_p (nf : Nat)  (s : Int × Int × Unit) : Option (Bool × Unit) :=
  bif decide (s.fst ≥ 0) then
    bif decide (s.fst ≤ s.snd.fst) then
      some ((decide (s.snd.fst ≤ 255), ()))
    else
      some ((false, ()))
  else
    some ((false, ()))
def span_is_f (nf : Nat) (s : Int × Int × Unit) : Option (Bool × Unit) := span_is_p nf  s
theorem span_is_eq (nf : Nat) (s : Int × Int × Unit) : runF tab (span_is_phi nf) span_is_keep nf [PT.val ((Ty.int IntKind.i64).pair ((Ty.int IntKind.i64).pair Ty.unit)) (Md.bor true false)] [(Ty.bool, Md.bor false true)] (resL ([]) Try.f93) (codeOf Try.f93) ⟨s, ()⟩ = span_is_f nf s := by
  have h : runF tab (span_is_phi nf) span_is_keep nf [PT.val ((Ty.int IntKind.i64).pair ((Ty.int IntKind.i64).pair Ty.unit)) (Md.bor true false)] [(Ty.bool, Md.bor false true)] (resL ([]) Try.f93) (codeOf Try.f93) ⟨s, ()⟩ = span_is_p nf  s := by kernel_rfl
  exact h
def span_is_F (nf : Nat) (x : denPs [.val (.pair (.int .i64) (.pair (.int .i64) (.unit))) (.bor true false)]) : Option (denL [(.bool, .bor false true)]) := span_is_f nf x.1
def span_is_C (nf : Nat) : Contract := ⟨[.val (.pair (.int .i64) (.pair (.int .i64) (.unit))) (.bor true false)], [(.bool, .bor false true)], span_is_F nf, []⟩
theorem span_is_ok : FnOK Try.prog 93 := ⟨Try.f93, codeOf Try.f93, Try.func93, by kernel_rfl, by kernel_rfl⟩
theorem span_is_holds (nf : Nat) : Contract.Holds Try.prog 93 (span_is_C nf) :=
  fn_holds (Φ := span_is_phi nf) (keep := span_is_keep) (n := nf) ⟨tabs.1, tabs.2, ctx_nil, mixed, bk_ok bkls rfl⟩ (fn := Try.f93) ⟨Try.func93, by kernel_rfl, by kernel_rfl, by kernel_rfl⟩ (fun x => span_is_eq nf x.1)

/-! codemason span.In 1 -/
def span_In_1_phi (nf : Nat) : Nat → Option Contract := lookC [(93, span_is_C nf)]
def span_In_1_keep : Nat → List Nat := lookK []
def span_In_1_p (nf : Nat)  (s : Int × Int × Unit) : Option (Bool × Unit) :=
  Option.bind (span_is_f nf s) fun r =>
  some ((!r.fst, ()))
def span_In_1_f (nf : Nat) (s : Int × Int × Unit) : Option (Bool × Unit) := span_In_1_p nf  s
theorem span_In_1_eq (nf : Nat) (s : Int × Int × Unit) : runF tab (span_In_1_phi nf) span_In_1_keep nf [PT.val ((Ty.int IntKind.i64).pair ((Ty.int IntKind.i64).pair Ty.unit)) (Md.bor true false)] [(Ty.bool, Md.bor false true)] (resL ([]) Try.f92) (codeOf Try.f92) ⟨s, ()⟩ = span_In_1_f nf s := by
  have h : runF tab (span_In_1_phi nf) span_In_1_keep nf [PT.val ((Ty.int IntKind.i64).pair ((Ty.int IntKind.i64).pair Ty.unit)) (Md.bor true false)] [(Ty.bool, Md.bor false true)] (resL ([]) Try.f92) (codeOf Try.f92) ⟨s, ()⟩ = span_In_1_p nf  s := by kernel_rfl
  exact h
def span_In_1_F (nf : Nat) (x : denPs [.val (.pair (.int .i64) (.pair (.int .i64) (.unit))) (.bor true false)]) : Option (denL [(.bool, .bor false true)]) := span_In_1_f nf x.1
def span_In_1_C (nf : Nat) : Contract := ⟨[.val (.pair (.int .i64) (.pair (.int .i64) (.unit))) (.bor true false)], [(.bool, .bor false true)], span_In_1_F nf, []⟩
theorem span_In_1_ok : FnOK Try.prog 92 := ⟨Try.f92, codeOf Try.f92, Try.func92, by kernel_rfl, by kernel_rfl⟩
theorem span_In_1_holds (nf : Nat) : Contract.Holds Try.prog 92 (span_In_1_C nf) :=
  fn_holds (Φ := span_In_1_phi nf) (keep := span_In_1_keep) (n := nf) ⟨tabs.1, tabs.2, (ctx_cons span_is_ok (span_is_holds nf) ctx_nil), mixed, bk_ok bkls rfl⟩ (fn := Try.f92) ⟨Try.func92, by kernel_rfl, by kernel_rfl, by kernel_rfl⟩ (fun x => span_In_1_eq nf x.1)

/-! slices.IndexFunc   codemason api.Span codemason api.Span  codemason span.In 1 -/
def slices_IndexFunc__span_In_1_phi (nf : Nat) : Nat → Option Contract := lookC [(92, span_In_1_C nf)]
def slices_IndexFunc__span_In_1_keep : Nat → List Nat := lookK [(0, [0, 1, 7, 8])]
def slices_IndexFunc__span_In_1_b0 (nf : Nat) (s : List (Int × Int × Unit)) (g0 : Int → Option (Int × Unit)) (t8 : Int) : Option (Int × Unit) :=
  bif decide (t8 < (↑s.length : Int)) then
    bif inb t8 s.length then
      Option.bind (span_In_1_f nf (s.getD t8.toNat (0, 0, ()))) fun r =>
      bif r.fst then
        some ((t8, ()))
      else
        g0 (IntKind.i64.wrap (t8 + 1))
    else
      none
  else
    some ((-1, ()))
def slices_IndexFunc__span_In_1_p (nf : Nat) (l0 : List (Int × Int × Unit) → Int → Option (Int × Unit)) (s : List (Int × Int × Unit)) (f : Unit) : Option (Int × Unit) :=
  l0 s 0
def slices_IndexFunc__span_In_1_l0 (nf : Nat) (s : List (Int × Int × Unit)) : Nat → Int → Option (Int × Unit)
  | 0, _ => none
  | fu + 1, t8 => slices_IndexFunc__span_In_1_b0 nf  s  (slices_IndexFunc__span_In_1_l0 nf s  fu) t8
def slices_IndexFunc__span_In_1_f (nf : Nat) (s : List (Int × Int × Unit)) (f : Unit) : Option (Int × Unit) := slices_IndexFunc__span_In_1_p nf (fun p0 v0 => slices_IndexFunc__span_In_1_l0 nf p0 nf v0) s f
noncomputable def slices_IndexFunc__span_In_1_L0 (nf : Nat) : LC (Int × Unit) := theL (findL tab (slices_IndexFunc__span_In_1_phi nf) (fun _ F => iter nf F) slices_IndexFunc__span_In_1_keep 0 0 (codeOf Try.f123) (fin tab [(Ty.int IntKind.i64, Md.bor false true)] (resL ([]) Try.f123)) (fun _ _ => none) (fin tab [(Ty.int IntKind.i64, Md.bor false true)] (resL ([]) Try.f123)))
def slices_IndexFunc__span_In_1_m0 (s : List (Int × Int × Unit)) (t8 : Int) : St := ⟨fresh, [(0, AV.v ((Ty.int IntKind.i64).pair ((Ty.int IntKind.i64).pair Ty.unit)).sl (Md.bor true false) s), (1, AV.clo 92 []), (7, AV.v (Ty.int IntKind.i64) (Md.bor false true) (↑s.length : Int)), (8, AV.v (Ty.int IntKind.i64) (Md.bor false true) t8)]⟩
theorem slices_IndexFunc__span_In_1_h0 (nf : Nat)  (s : List (Int × Int × Unit)) (fu : Nat) (t8 : Int) : iter (fu + 1) (LC.F tab (slices_IndexFunc__span_In_1_phi nf) (fun _ F => iter nf F) slices_IndexFunc__span_In_1_keep 0 (slices_IndexFunc__span_In_1_L0 nf )) (slices_IndexFunc__span_In_1_m0 s t8) = slices_IndexFunc__span_In_1_b0 nf  s  (fun t8 => iter fu (LC.F tab (slices_IndexFunc__span_In_1_phi nf) (fun _ F => iter nf F) slices_IndexFunc__span_In_1_keep 0 (slices_IndexFunc__span_In_1_L0 nf )) (slices_IndexFunc__span_In_1_m0 s t8)) t8 := by kernel_rfl
theorem slices_IndexFunc__span_In_1_e0 (nf : Nat)  (s : List (Int × Int × Unit)) : ∀ (fu : Nat) (t8 : Int), iter fu (LC.F tab (slices_IndexFunc__span_In_1_phi nf) (fun _ F => iter nf F) slices_IndexFunc__span_In_1_keep 0 (slices_IndexFunc__span_In_1_L0 nf )) (slices_IndexFunc__span_In_1_m0 s t8) = slices_IndexFunc__span_In_1_l0 nf s  fu t8 := by
  intro fu
  induction fu with
  | zero => intros; rfl
  | succ fu ih =>
    intro t8
    rw [slices_IndexFunc__span_In_1_h0 nf  s fu t8]
    simp only [ih]
    rfl
theorem slices_IndexFunc__span_In_1_eq (nf : Nat) (s : List (Int × Int × Unit)) (f : Unit) : runF tab (slices_IndexFunc__span_In_1_phi nf) slices_IndexFunc__span_In_1_keep nf [PT.val ((Ty.int IntKind.i64).pair ((Ty.int IntKind.i64).pair Ty.unit)).sl (Md.bor true false), PT.clo 92 []] [(Ty.int IntKind.i64, Md.bor false true)] (resL ([]) Try.f123) (codeOf Try.f123) ⟨s, f, ()⟩ = slices_IndexFunc__span_In_1_f nf s f := by
  have h : runF tab (slices_IndexFunc__span_In_1_phi nf) slices_IndexFunc__span_In_1_keep nf [PT.val ((Ty.int IntKind.i64).pair ((Ty.int IntKind.i64).pair Ty.unit)).sl (Md.bor true false), PT.clo 92 []] [(Ty.int IntKind.i64, Md.bor false true)] (resL ([]) Try.f123) (codeOf Try.f123) ⟨s, f, ()⟩ = slices_IndexFunc__span_In_1_p nf (fun p0 v0 => iter nf (LC.F tab (slices_IndexFunc__span_In_1_phi nf) (fun _ F => iter nf F) slices_IndexFunc__span_In_1_keep 0 (slices_IndexFunc__span_In_1_L0 nf)) (slices_IndexFunc__span_In_1_m0 p0 v0)) s f := by kernel_rfl
  rw [h]
  simp only [slices_IndexFunc__span_In_1_e0]
  rfl
def slices_IndexFunc__span_In_1_F (nf : Nat) (x : denPs [.val (.sl (.pair (.int .i64) (.pair (.int .i64) (.unit)))) (.bor true false), .clo 92 []]) : Option (denL [(.int .i64, .bor false true)]) := slices_IndexFunc__span_In_1_f nf x.1 x.2.1
def slices_IndexFunc__span_In_1_C (nf : Nat) : Contract := ⟨[.val (.sl (.pair (.int .i64) (.pair (.int .i64) (.unit)))) (.bor true false), .clo 92 []], [(.int .i64, .bor false true)], slices_IndexFunc__span_In_1_F nf, []⟩
theorem slices_IndexFunc__span_In_1_ok : FnOK Try.prog 123 := ⟨Try.f123, codeOf Try.f123, Try.func123, by kernel_rfl, by kernel_rfl⟩
theorem slices_IndexFunc__span_In_1_holds (nf : Nat) : Contract.Holds Try.prog 123 (slices_IndexFunc__span_In_1_C nf) :=
  fn_holds (Φ := slices_IndexFunc__span_In_1_phi nf) (keep := slices_IndexFunc__span_In_1_keep) (n := nf) ⟨tabs.1, tabs.2, (ctx_cons span_In_1_ok (span_In_1_holds nf) ctx_nil), mixed, bk_ok bkls rfl⟩ (fn := Try.f123) ⟨Try.func123, by kernel_rfl, by kernel_rfl, by kernel_rfl⟩ (fun x => slices_IndexFunc__span_In_1_eq nf x.1 x.2.1)

/-! slices.ContainsFunc   codemason api.Span codemason api.Span  codemason span.In 1 -/
def slices_ContainsFunc__span_In_1_phi (nf : Nat) : Nat → Option Contract := lookC [(123, slices_IndexFunc__span_In_1_C nf)]
def slices_ContainsFunc__span_In_1_keep : Nat → List Nat := lookK []
def slices_ContainsFunc__span_In_1_p (nf : Nat)  (s : List (Int × Int × Unit)) (f : Unit) : Option (Bool × Unit) :=
  Option.bind (slices_IndexFunc__span_In_1_f nf s (())) fun r =>
  some ((decide (r.fst ≥ 0), ()))
def slices_ContainsFunc__span_In_1_f (nf : Nat) (s : List (Int × Int × Unit)) (f : Unit) : Option (Bool × Unit) := slices_ContainsFunc__span_In_1_p nf  s f
theorem slices_ContainsFunc__span_In_1_eq (nf : Nat) (s : List (Int × Int × Unit)) (f : Unit) : runF tab (slices_ContainsFunc__span_In_1_phi nf) slices_ContainsFunc__span_In_1_keep nf [PT.val ((Ty.int IntKind.i64).pair ((Ty.int IntKind.i64).pair Ty.unit)).sl (Md.bor true false), PT.clo 92 []] [(Ty.bool, Md.bor false true)] (resL ([]) Try.f91) (codeOf Try.f91) ⟨s, f, ()⟩ = slices_ContainsFunc__span_In_1_f nf s f := by
  have h : runF tab (slices_ContainsFunc__span_In_1_phi nf) slices_ContainsFunc__span_In_1_keep nf [PT.val ((Ty.int IntKind.i64).pair ((Ty.int IntKind.i64).pair Ty.unit)).sl (Md.bor true false), PT.clo 92 []] [(Ty.bool, Md.bor false true)] (resL ([]) Try.f91) (codeOf Try.f91) ⟨s, f, ()⟩ = slices_ContainsFunc__span_In_1_p nf  s f := by kernel_rfl
  exact h
def slices_ContainsFunc__span_In_1_F (nf : Nat) (x : denPs [.val (.sl (.pair (.int .i64) (.pair (.int .i64) (.unit)))) (.bor true false), .clo 92 []]) : Option (denL [(.bool, .bor false true)]) := slices_ContainsFunc__span_In_1_f nf x.1 x.2.1
def slices_ContainsFunc__span_In_1_C (nf : Nat) : Contract := ⟨[.val (.sl (.pair (.int .i64) (.pair (.int .i64) (.unit)))) (.bor true false), .clo 92 []], [(.bool, .bor false true)], slices_ContainsFunc__span_In_1_F nf, []⟩
theorem slices_ContainsFunc__span_In_1_ok : FnOK Try.prog 91 := ⟨Try.f91, codeOf Try.f91, Try.func91, by kernel_rfl, by kernel_rfl⟩
theorem slices_ContainsFunc__span_In_1_holds (nf : Nat) : Contract.Holds Try.prog 91 (slices_ContainsFunc__span_In_1_C nf) :=
  fn_holds (Φ := slices_ContainsFunc__span_In_1_phi nf) (keep := slices_ContainsFunc__span_In_1_keep) (n := nf) ⟨tabs.1, tabs.2, (ctx_cons slices_IndexFunc__span_In_1_ok (slices_IndexFunc__span_In_1_holds nf) ctx_nil), mixed, bk_ok bkls rfl⟩ (fn := Try.f91) ⟨Try.func91, by kernel_rfl, by kernel_rfl, by kernel_rfl⟩ (fun x => slices_ContainsFunc__span_In_1_eq nf x.1 x.2.1)

/-! slices.Clone   codemason api.Span codemason api.Span  -/
def slices_Clone_phi (nf : Nat) : Nat → Option Contract := lookC []
def slices_Clone_keep : Nat → List Nat := lookK []
def slices_Clone_p (nf : Nat)  (s : List (Int × Int × Unit)) : Option (List (Int × Int × Unit) × Unit) :=
  bif s.isEmpty then
    both (some (([], ()))) (bif bimp false !s.isEmpty && ((List.length ([] : List Unit)) + s.length).ble lim then
      some (([] ++ s, ()))
    else
      none)
  else
    bif bimp false !s.isEmpty && ((List.length ([] : List Unit)) + s.length).ble lim then
      some (([] ++ s, ()))
    else
      none
def slices_Clone_f (nf : Nat) (s : List (Int × Int × Unit)) : Option (List (Int × Int × Unit) × Unit) := slices_Clone_p nf  s
theorem slices_Clone_eq (nf : Nat) (s : List (Int × Int × Unit)) : runF tab (slices_Clone_phi nf) slices_Clone_keep nf [PT.val ((Ty.int IntKind.i64).pair ((Ty.int IntKind.i64).pair Ty.unit)).sl (Md.bor true false)] [(((Ty.int IntKind.i64).pair ((Ty.int IntKind.i64).pair Ty.unit)).sl, Md.own false (Md.bor false false))] (resL ([]) Try.f124) (codeOf Try.f124) ⟨s, ()⟩ = slices_Clone_f nf s := by
  have h : runF tab (slices_Clone_phi nf) slices_Clone_keep nf [PT.val ((Ty.int IntKind.i64).pair ((Ty.int IntKind.i64).pair Ty.unit)).sl (Md.bor true false)] [(((Ty.int IntKind.i64).pair ((Ty.int IntKind.i64).pair Ty.unit)).sl, Md.own false (Md.bor false false))] (resL ([]) Try.f124) (codeOf Try.f124) ⟨s, ()⟩ = slices_Clone_p nf  s := by kernel_rfl
  exact h
def slices_Clone_F (nf : Nat) (x : denPs [.val (.sl (.pair (.int .i64) (.pair (.int .i64) (.unit)))) (.bor true false)]) : Option (denL [(.sl (.pair (.int .i64) (.pair (.int .i64) (.unit))), .own false (.bor false false))]) := slices_Clone_f nf x.1
def slices_Clone_C (nf : Nat) : Contract := ⟨[.val (.sl (.pair (.int .i64) (.pair (.int .i64) (.unit)))) (.bor true false)], [(.sl (.pair (.int .i64) (.pair (.int .i64) (.unit))), .own false (.bor false false))], slices_Clone_F nf, []⟩
theorem slices_Clone_ok : FnOK Try.prog 124 := ⟨Try.f124, codeOf Try.f124, Try.func124, by kernel_rfl, by kernel_rfl⟩
theorem slices_Clone_holds (nf : Nat) : Contract.Holds Try.prog 124 (slices_Clone_C nf) :=
  fn_holds (Φ := slices_Clone_phi nf) (keep := slices_Clone_keep) (n := nf) ⟨tabs.1, tabs.2, ctx_nil, mixed, bk_ok bkls rfl⟩ (fn := Try.f124) ⟨Try.func124, by kernel_rfl, by kernel_rfl, by kernel_rfl⟩ (fun x => slices_Clone_eq nf x.1)

/-!   codemason span.place .come -/
def span_place_come_tab : Tab := ⟨lookT [(2, .int .i64), (3, .int .i64), (4, .bool), (5, .int .u8), (6, .int .u8), (7, .pair (.int .i64) (.pair (.int .i64) (.pair (.bool) (.pair (.int .u8) (.unit))))), (8, .pair (.int .i64) (.pair (.int .i64) (.pair (.bool) (.pair (.int .u8) (.unit))))), (12, .int .u64), (21, .int .i32), (22, .sl (.pair (.sl (.pair (.int .i64) (.pair (.int .i64) (.pair (.int .i64) (.pair (.int .i64) (.pair (.int .i64) (.unit))))))) (.pair (.int .i64) (.pair (.int .i64) (.pair (.int .i64) (.unit)))))), (23, .int .i64), (26, .sl (.sl (.int .i64))), (31, .sl (.int .i64)), (39, .int .u32), (40, .sl (.int .u32)), (46, .pair (.int .i64) (.pair (.int .i64) (.unit))), (47, .pair (.int .i64) (.pair (.int .i64) (.unit))), (58, .sl (.pair (.int .i64) (.pair (.int .i64) (.unit)))), (59, .sl (.sl (.pair (.int .i64) (.pair (.int .i64) (.unit))))), (62, .pair (.int .i64) (.pair (.int .i64) (.unit))), (63, .pair (.int .i64) (.pair (.int .i64) (.unit))), (81, .sl (.pair (.int .i64) (.pair (.int .i64) (.pair (.int .i64) (.pair (.int .i64) (.pair (.int .i64) (.unit))))))), (82, .pair (.sl (.pair (.int .i64) (.pair (.int .i64) (.pair (.int .i64) (.pair (.int .i64) (.pair (.int .i64) (.unit))))))) (.pair (.int .i64) (.pair (.int .i64) (.pair (.int .i64) (.unit))))), (83, .pair (.sl (.pair (.int .i64) (.pair (.int .i64) (.pair (.int .i64) (.pair (.int .i64) (.pair (.int .i64) (.unit))))))) (.pair (.int .i64) (.pair (.int .i64) (.pair (.int .i64) (.unit))))), (86, .sl (.sl (.bool))), (91, .sl (.bool)), (92, .sl (.int .u8)), (97, .pair (.int .i64) (.pair (.int .i64) (.pair (.int .i64) (.pair (.int .i64) (.pair (.int .i64) (.unit)))))), (98, .pair (.int .i64) (.pair (.int .i64) (.pair (.int .i64) (.pair (.int .i64) (.pair (.int .i64) (.unit)))))), (105, .int .u64), (106, .sl (.pair (.int .i64) (.pair (.int .i64) (.unit)))), (126, .pair (.sl (.sl (.pair (.int .i64) (.pair (.int .i64) (.unit))))) (.pair (.bool) (.unit))), (127, .pair (.sl (.sl (.pair (.int .i64) (.pair (.int .i64) (.unit))))) (.pair (.bool) (.unit))), (139, .pair (.sl (.pair (.sl (.pair (.int .i64) (.pair (.int .i64) (.pair (.int .i64) (.pair (.int .i64) (.pair (.int .i64) (.unit))))))) (.pair (.int .i64) (.pair (.int .i64) (.pair (.int .i64) (.unit)))))) (.unit)), (140, .pair (.sl (.pair (.sl (.pair (.int .i64) (.pair (.int .i64) (.pair (.int .i64) (.pair (.int .i64) (.pair (.int .i64) (.unit))))))) (.pair (.int .i64) (.pair (.int .i64) (.pair (.int .i64) (.unit)))))) (.unit)), (145, .pair (.sl (.pair (.sl (.pair (.int .i64) (.pair (.int .i64) (.pair (.int .i64) (.pair (.int .i64) (.pair (.int .i64) (.unit))))))) (.pair (.int .i64) (.pair (.int .i64) (.pair (.int .i64) (.unit)))))) (.pair (.sl (.sl (.int .i64))) (.pair (.int .u32) (.pair (.sl (.sl (.bool))) (.pair (.int .u32) (.pair (.sl (.int .u32)) (.unit))))))), (146, .pair (.sl (.pair (.sl (.pair (.int .i64) (.pair (.int .i64) (.pair (.int .i64) (.pair (.int .i64) (.pair (.int .i64) (.unit))))))) (.pair (.int .i64) (.pair (.int .i64) (.pair (.int .i64) (.unit)))))) (.pair (.sl (.sl (.int .i64))) (.pair (.int .u32) (.pair (.sl (.sl (.bool))) (.pair (.int .u32) (.pair (.sl (.int .u32)) (.unit))))))), (155, .mp (.int .i64) (.int .i64)), (189, .int .u8), (190, .int .u8), (193, .int .i32), (194, .int .i32)], lookM [(2, .bor false true), (3, .bor false true), (4, .bor false true), (5, .bor false true), (6, .bor false true), (7, .bor false true), (8, .bor false true), (12, .bor false true), (21, .bor false true), (22, .own false (.bor false false)), (23, .bor false true), (26, .own false (.bor false false)), (31, .own false (.bor false false)), (39, .bor false true), (40, .own false (.bor false false)), (46, .bor false true), (47, .bor false true), (58, .own false (.bor false false)), (59, .own false (.own true (.bor false false))), (62, .bor false true), (63, .bor false true), (81, .own false (.bor false false)), (82, .bor true false), (83, .bor true false), (86, .own false (.bor false false)), (91, .own false (.bor false false)), (92, .own false (.bor false false)), (97, .bor false true), (98, .bor false true), (105, .bor false true), (106, .own false (.bor false false)), (126, .bor true false), (127, .pair (.own false (.own true (.bor false false))) (.pair (.bor false true) (.bor false false))), (139, .bor true false), (140, .pair (.own false (.pair (.own true (.bor false true)) (.bor false true))) (.bor false false)), (145, .bor true false), (146, .pair (.bor false false) (.pair (.bor false false) (.pair (.bor false true) (.pair (.own false (.own false (.bor false true))) (.pair (.bor false true) (.pair (.own false (.bor false false)) (.bor false false))))))), (155, .own false (.bor false false)), (189, .bor false true), (190, .bor false true), (193, .bor false true), (194, .bor false true)], hasT [185], hasT [9, 10, 11], fun _ => none, lookB bkl⟩
theorem span_place_come_tabs : TabOK Try.prog span_place_come_tab ∧ EqOK Try.prog span_place_come_tab := tab_ok (by kernel_rfl) (by kernel_rfl)
def span_place_come_phi (nf : Nat) : Nat → Option Contract := lookC [(124, slices_Clone_C nf)]
def span_place_come_keep : Nat → List Nat := lookK [(0, [0, 1, 2, 29, 30, 31])]
def span_place_come_b0 (nf : Nat) (i : Int) (v : List (Int × Int × Unit)) (g0 : List (List (Int × Int × Unit)) × Bool × Unit → Int → Option (Option (List (List (Int × Int × Unit)) × Bool × Unit) × Unit)) (p2 : List (List (Int × Int × Unit)) × Bool × Unit) (t31 : Int) : Option (Option (List (List (Int × Int × Unit)) × Bool × Unit) × Unit) :=
  bif decide (t31 < (↑v.length : Int)) then
    bif inb t31 v.length then
      bif inb i (List.length p2.fst) then
        bif inb t31 (List.length (List.getD p2.fst i.toNat [])) then
          bif !((if (v.getD t31.toNat (0, 0, ())).fst < (List.getD (List.getD p2.fst i.toNat []) t31.toNat (0, 0, ())).fst then (v.getD t31.toNat (0, 0, ())).fst else (List.getD (List.getD p2.fst i.toNat []) t31.toNat (0, 0, ())).fst) == (List.getD (List.getD p2.fst i.toNat []) t31.toNat (0, 0, ())).fst && ((if (v.getD t31.toNat (0, 0, ())).snd.fst > (List.getD (List.getD p2.fst i.toNat []) t31.toNat (0, 0, ())).snd.fst then (v.getD t31.toNat (0, 0, ())).snd.fst else (List.getD (List.getD p2.fst i.toNat []) t31.toNat (0, 0, ())).snd.fst) == (List.getD (List.getD p2.fst i.toNat []) t31.toNat (0, 0, ())).snd.fst && true)) then
            bif inb i (List.length p2.fst) then
              bif inb t31 (List.length (List.getD p2.fst i.toNat [])) then
                g0 ((List.set p2.fst i.toNat (List.set (List.getD p2.fst i.toNat []) t31.toNat (if (v.getD t31.toNat (0, 0, ())).fst < (List.getD (List.getD p2.fst i.toNat []) t31.toNat (0, 0, ())).fst then (v.getD t31.toNat (0, 0, ())).fst else (List.getD (List.getD p2.fst i.toNat []) t31.toNat (0, 0, ())).fst, if (v.getD t31.toNat (0, 0, ())).snd.fst > (List.getD (List.getD p2.fst i.toNat []) t31.toNat (0, 0, ())).snd.fst then (v.getD t31.toNat (0, 0, ())).snd.fst else (List.getD (List.getD p2.fst i.toNat []) t31.toNat (0, 0, ())).snd.fst, ())), true, p2.snd.snd)) (IntKind.i64.wrap (t31 + 1))
              else
                none
            else
              none
          else
            g0 p2 (IntKind.i64.wrap (t31 + 1))
        else
          none
      else
        none
    else
      none
  else
    some ((some p2, ()))
def span_place_come_p (nf : Nat) (l0 : Int → List (Int × Int × Unit) → List (List (Int × Int × Unit)) × Bool × Unit → Int → Option (Option (List (List (Int × Int × Unit)) × Bool × Unit) × Unit)) (p : List (List (Int × Int × Unit)) × Bool × Unit) (i : Int) (v : List (Int × Int × Unit)) : Option (Option (List (List (Int × Int × Unit)) × Bool × Unit) × Unit) :=
  bif inb i (List.length p.fst) then
    bif List.isEmpty (List.getD p.fst i.toNat []) then
      Option.bind (slices_Clone_f nf v) fun r =>
      bif inb i (List.length p.fst) then
        bif !List.isEmpty r.fst then
          some ((some (List.set p.fst i.toNat r.fst, true, p.snd.snd), ()))
        else
          none
      else
        none
    else
      l0 i v p 0
  else
    none
def span_place_come_l0 (nf : Nat) (i : Int) (v : List (Int × Int × Unit)) : Nat → List (List (Int × Int × Unit)) × Bool × Unit → Int → Option (Option (List (List (Int × Int × Unit)) × Bool × Unit) × Unit)
  | 0, _, _ => none
  | fu + 1, p2, t31 => span_place_come_b0 nf  i v  (span_place_come_l0 nf i v  fu) p2 t31
def span_place_come_f (nf : Nat) (p : List (List (Int × Int × Unit)) × Bool × Unit) (i : Int) (v : List (Int × Int × Unit)) : Option (Option (List (List (Int × Int × Unit)) × Bool × Unit) × Unit) := span_place_come_p nf (fun p0 p1 v0 v1 => span_place_come_l0 nf p0 p1 nf v0 v1) p i v
noncomputable def span_place_come_L0 (nf : Nat) : LC (Option (List (List (Int × Int × Unit)) × Bool × Unit) × Unit) := theL (findL span_place_come_tab (span_place_come_phi nf) (fun _ F => iter nf F) span_place_come_keep 0 0 (codeOf Try.f94) (fin span_place_come_tab [((((Ty.int IntKind.i64).pair ((Ty.int IntKind.i64).pair Ty.unit)).sl.sl.pair (Ty.bool.pair Ty.unit)).bx, Md.own false ((Md.own false (Md.own true (Md.bor false false))).pair ((Md.bor false true).pair (Md.bor false false))))] (resL ([0]) Try.f94)) (fun _ _ => none) (fin span_place_come_tab [((((Ty.int IntKind.i64).pair ((Ty.int IntKind.i64).pair Ty.unit)).sl.sl.pair (Ty.bool.pair Ty.unit)).bx, Md.own false ((Md.own false (Md.own true (Md.bor false false))).pair ((Md.bor false true).pair (Md.bor false false))))] (resL ([0]) Try.f94)))
def span_place_come_m0 (i : Int) (v : List (Int × Int × Unit)) (p2 : List (List (Int × Int × Unit)) × Bool × Unit) (t31 : Int) : St := ⟨fresh, [(0, AV.box 0 500000 (((Ty.int IntKind.i64).pair ((Ty.int IntKind.i64).pair Ty.unit)).sl.sl.pair (Ty.bool.pair Ty.unit)) ((Md.own false (Md.own true (Md.bor false false))).pair ((Md.bor false true).pair (Md.bor false false))) p2), (1, AV.v (Ty.int IntKind.i64) (Md.bor false true) i), (2, AV.v ((Ty.int IntKind.i64).pair ((Ty.int IntKind.i64).pair Ty.unit)).sl (Md.bor true false) v), (29, AV.v ((Ty.int IntKind.i64).pair ((Ty.int IntKind.i64).pair Ty.unit)).sl (Md.bor true false) v), (30, AV.v (Ty.int IntKind.i64) (Md.bor false true) (↑v.length : Int)), (31, AV.v (Ty.int IntKind.i64) (Md.bor false true) t31)]⟩
theorem span_place_come_h0 (nf : Nat)  (i : Int) (v : List (Int × Int × Unit)) (fu : Nat) (p2 : List (List (Int × Int × Unit)) × Bool × Unit) (t31 : Int) : iter (fu + 1) (LC.F span_place_come_tab (span_place_come_phi nf) (fun _ F => iter nf F) span_place_come_keep 0 (span_place_come_L0 nf )) (span_place_come_m0 i v p2 t31) = span_place_come_b0 nf  i v  (fun p2 t31 => iter fu (LC.F span_place_come_tab (span_place_come_phi nf) (fun _ F => iter nf F) span_place_come_keep 0 (span_place_come_L0 nf )) (span_place_come_m0 i v p2 t31)) p2 t31 := by kernel_rfl
theorem span_place_come_e0 (nf : Nat)  (i : Int) (v : List (Int × Int × Unit)) : ∀ (fu : Nat) (p2 : List (List (Int × Int × Unit)) × Bool × Unit) (t31 : Int), iter fu (LC.F span_place_come_tab (span_place_come_phi nf) (fun _ F => iter nf F) span_place_come_keep 0 (span_place_come_L0 nf )) (span_place_come_m0 i v p2 t31) = span_place_come_l0 nf i v  fu p2 t31 := by
  intro fu
  induction fu with
  | zero => intros; rfl
  | succ fu ih =>
    intro p2 t31
    rw [span_place_come_h0 nf  i v fu p2 t31]
    simp only [ih]
    rfl
theorem span_place_come_eq (nf : Nat) (p : List (List (Int × Int × Unit)) × Bool × Unit) (i : Int) (v : List (Int × Int × Unit)) : runF span_place_come_tab (span_place_come_phi nf) span_place_come_keep nf [PT.box (((Ty.int IntKind.i64).pair ((Ty.int IntKind.i64).pair Ty.unit)).sl.sl.pair (Ty.bool.pair Ty.unit)) ((Md.own false (Md.own true (Md.bor false false))).pair ((Md.bor false true).pair (Md.bor false false))), PT.val (Ty.int IntKind.i64) (Md.bor true false), PT.val ((Ty.int IntKind.i64).pair ((Ty.int IntKind.i64).pair Ty.unit)).sl (Md.bor true false)] [((((Ty.int IntKind.i64).pair ((Ty.int IntKind.i64).pair Ty.unit)).sl.sl.pair (Ty.bool.pair Ty.unit)).bx, Md.own false ((Md.own false (Md.own true (Md.bor false false))).pair ((Md.bor false true).pair (Md.bor false false))))] (resL ([0]) Try.f94) (codeOf Try.f94) ⟨p, i, v, ()⟩ = span_place_come_f nf p i v := by
  have h : runF span_place_come_tab (span_place_come_phi nf) span_place_come_keep nf [PT.box (((Ty.int IntKind.i64).pair ((Ty.int IntKind.i64).pair Ty.unit)).sl.sl.pair (Ty.bool.pair Ty.unit)) ((Md.own false (Md.own true (Md.bor false false))).pair ((Md.bor false true).pair (Md.bor false false))), PT.val (Ty.int IntKind.i64) (Md.bor true false), PT.val ((Ty.int IntKind.i64).pair ((Ty.int IntKind.i64).pair Ty.unit)).sl (Md.bor true false)] [((((Ty.int IntKind.i64).pair ((Ty.int IntKind.i64).pair Ty.unit)).sl.sl.pair (Ty.bool.pair Ty.unit)).bx, Md.own false ((Md.own false (Md.own true (Md.bor false false))).pair ((Md.bor false true).pair (Md.bor false false))))] (resL ([0]) Try.f94) (codeOf Try.f94) ⟨p, i, v, ()⟩ = span_place_come_p nf (fun p0 p1 v0 v1 => iter nf (LC.F span_place_come_tab (span_place_come_phi nf) (fun _ F => iter nf F) span_place_come_keep 0 (span_place_come_L0 nf)) (span_place_come_m0 p0 p1 v0 v1)) p i v := by kernel_rfl
  rw [h]
  simp only [span_place_come_e0]
  rfl
def span_place_come_F (nf : Nat) (x : denPs [.box (.pair (.sl (.sl (.pair (.int .i64) (.pair (.int .i64) (.unit))))) (.pair (.bool) (.unit))) (.pair (.own false (.own true (.bor false false))) (.pair (.bor false true) (.bor false false))), .val (.int .i64) (.bor true false), .val (.sl (.pair (.int .i64) (.pair (.int .i64) (.unit)))) (.bor true false)]) : Option (denL [(.bx (.pair (.sl (.sl (.pair (.int .i64) (.pair (.int .i64) (.unit))))) (.pair (.bool) (.unit))), .own false (.pair (.own false (.own true (.bor false false))) (.pair (.bor false true) (.bor false false))))]) := span_place_come_f nf x.1 x.2.1 x.2.2.1
def span_place_come_C (nf : Nat) : Contract := ⟨[.box (.pair (.sl (.sl (.pair (.int .i64) (.pair (.int .i64) (.unit))))) (.pair (.bool) (.unit))) (.pair (.own false (.own true (.bor false false))) (.pair (.bor false true) (.bor false false))), .val (.int .i64) (.bor true false), .val (.sl (.pair (.int .i64) (.pair (.int .i64) (.unit)))) (.bor true false)], [(.bx (.pair (.sl (.sl (.pair (.int .i64) (.pair (.int .i64) (.unit))))) (.pair (.bool) (.unit))), .own false (.pair (.own false (.own true (.bor false false))) (.pair (.bor false true) (.bor false false))))], span_place_come_F nf, [0]⟩
theorem span_place_come_ok : FnOK Try.prog 94 := ⟨Try.f94, codeOf Try.f94, Try.func94, by kernel_rfl, by kernel_rfl⟩
theorem span_place_come_holds (nf : Nat) : Contract.Holds Try.prog 94 (span_place_come_C nf) :=
  fn_holds (Φ := span_place_come_phi nf) (keep := span_place_come_keep) (n := nf) ⟨span_place_come_tabs.1, span_place_come_tabs.2, (ctx_cons slices_Clone_ok (slices_Clone_holds nf) ctx_nil), mixed, bk_ok bkls rfl⟩ (fn := Try.f94) ⟨Try.func94, by kernel_rfl, by kernel_rfl, by kernel_rfl⟩ (fun x => span_place_come_eq nf x.1 x.2.1 x.2.2.1)

/-! codemason span.wrap -/
def span_wrap_phi (nf : Nat) : Nat → Option Contract := lookC []
def span_wrap_keep : Nat → List Nat := lookK []
def span_wrap_p (nf : Nat)  (low : Int) (high : Int) : Option ((Int × Int × Unit) × Unit) :=
  bif decide (IntKind.i64.wrap (high - low) ≥ 256) then
    some (((0, 255, ()), ()))
  else
    bif decide (IntKind.i64.wrap (↑(BitVec.ofInt IntKind.i64.bits low &&& BitVec.ofInt IntKind.i64.bits 255).toNat : Int) > IntKind.i64.wrap (↑(BitVec.ofInt IntKind.i64.bits high &&& BitVec.ofInt IntKind.i64.bits 255).toNat : Int)) then
      some (((0, 255, ()), ()))
    else
      some (((IntKind.i64.wrap (↑(BitVec.ofInt IntKind.i64.bits low &&& BitVec.ofInt IntKind.i64.bits 255).toNat : Int), IntKind.i64.wrap (↑(BitVec.ofInt IntKind.i64.bits high &&& BitVec.ofInt IntKind.i64.bits 255).toNat : Int), ()), ()))
def span_wrap_f (nf : Nat) (low : Int) (high : Int) : Option ((Int × Int × Unit) × Unit) := span_wrap_p nf  low high
theorem span_wrap_eq (nf : Nat) (low : Int) (high : Int) : runF tab (span_wrap_phi nf) span_wrap_keep nf [PT.val (Ty.int IntKind.i64) (Md.bor true false), PT.val (Ty.int IntKind.i64) (Md.bor true false)] [((Ty.int IntKind.i64).pair ((Ty.int IntKind.i64).pair Ty.unit), Md.bor false true)] (resL ([]) Try.f138) (codeOf Try.f138) ⟨low, high, ()⟩ = span_wrap_f nf low high := by
  have h : runF tab (span_wrap_phi nf) span_wrap_keep nf [PT.val (Ty.int IntKind.i64) (Md.bor true false), PT.val (Ty.int IntKind.i64) (Md.bor true false)] [((Ty.int IntKind.i64).pair ((Ty.int IntKind.i64).pair Ty.unit), Md.bor false true)] (resL ([]) Try.f138) (codeOf Try.f138) ⟨low, high, ()⟩ = span_wrap_p nf  low high := by kernel_rfl
  exact h
def span_wrap_F (nf : Nat) (x : denPs [.val (.int .i64) (.bor true false), .val (.int .i64) (.bor true false)]) : Option (denL [(.pair (.int .i64) (.pair (.int .i64) (.unit)), .bor false true)]) := span_wrap_f nf x.1 x.2.1
def span_wrap_C (nf : Nat) : Contract := ⟨[.val (.int .i64) (.bor true false), .val (.int .i64) (.bor true false)], [(.pair (.int .i64) (.pair (.int .i64) (.unit)), .bor false true)], span_wrap_F nf, []⟩
theorem span_wrap_ok : FnOK Try.prog 138 := ⟨Try.f138, codeOf Try.f138, Try.func138, by kernel_rfl, by kernel_rfl⟩
theorem span_wrap_holds (nf : Nat) : Contract.Holds Try.prog 138 (span_wrap_C nf) :=
  fn_holds (Φ := span_wrap_phi nf) (keep := span_wrap_keep) (n := nf) ⟨tabs.1, tabs.2, ctx_nil, mixed, bk_ok bkls rfl⟩ (fn := Try.f138) ⟨Try.func138, by kernel_rfl, by kernel_rfl, by kernel_rfl⟩ (fun x => span_wrap_eq nf x.1 x.2.1)

/-! codemason span.times -/
def span_times_phi (nf : Nat) : Nat → Option Contract := lookC [(112, term_Do_C nf)]
def span_times_keep : Nat → List Nat := lookK [(2, [0, 1, 2, 3, 4, 5, 6, 7]), (0, [0, 1, 2, 3, 4, 5, 6])]
def span_times_b0 (nf : Nat) (l2 : Int × Int × Unit → Int × Int × Unit → Int → Int × Int × Unit → Int × Int × Unit → Int × Int × Unit → Int × Int × Unit → Int → Option ((Int × Int × Unit) × Unit)) (a : Int × Int × Unit) (b : Int × Int × Unit) (g0 : Int × Int × Unit → Int × Int × Unit → Int × Int × Unit → Int × Int × Unit → Int → Option ((Int × Int × Unit) × Unit)) (a2 : Int × Int × Unit) (b2 : Int × Int × Unit) (t4 : Int × Int × Unit) (out : Int × Int × Unit) (x : Int) : Option ((Int × Int × Unit) × Unit) :=
  bif decide (x ≤ a2.snd.fst) then
    l2 a b x a2 b2 t4 out b2.fst
  else
    some ((out, ()))
def span_times_b2 (nf : Nat) (a : Int × Int × Unit) (b : Int × Int × Unit) (x : Int) (g0 : Int × Int × Unit → Int × Int × Unit → Int × Int × Unit → Int × Int × Unit → Int → Option ((Int × Int × Unit) × Unit)) (g2 : Int × Int × Unit → Int × Int × Unit → Int × Int × Unit → Int × Int × Unit → Int → Option ((Int × Int × Unit) × Unit)) (a3 : Int × Int × Unit) (b3 : Int × Int × Unit) (t42 : Int × Int × Unit) (out2 : Int × Int × Unit) (y : Int) : Option ((Int × Int × Unit) × Unit) :=
  bif decide (y ≤ b3.snd.fst) then
    Option.bind (term_Do_f nf 5 x y) fun r =>
    bif (if r.fst < out2.fst then r.fst else out2.fst) == 0 then
      bif (if r.fst > out2.snd.fst then r.fst else out2.snd.fst) == 255 then
        some (((if r.fst < out2.fst then r.fst else out2.fst, if r.fst > out2.snd.fst then r.fst else out2.snd.fst, out2.snd.snd), ()))
      else
        g2 a3 b3 t42 ((if r.fst < out2.fst then r.fst else out2.fst, if r.fst > out2.snd.fst then r.fst else out2.snd.fst, out2.snd.snd)) (IntKind.i64.wrap (y + 1))
    else
      g2 a3 b3 t42 ((if r.fst < out2.fst then r.fst else out2.fst, if r.fst > out2.snd.fst then r.fst else out2.snd.fst, out2.snd.snd)) (IntKind.i64.wrap (y + 1))
  else
    g0 a3 b3 t42 out2 (IntKind.i64.wrap (x + 1))
def span_times_p (nf : Nat) (l0 : Int × Int × Unit → Int × Int × Unit → Int × Int × Unit → Int × Int × Unit → Int × Int × Unit → Int × Int × Unit → Int → Option ((Int × Int × Unit) × Unit)) (a : Int × Int × Unit) (b : Int × Int × Unit) : Option ((Int × Int × Unit) × Unit) :=
  l0 a b a b ((0, 0, ())) ((255, 0, ())) a.fst
def span_times_l2 (nf : Nat) (a : Int × Int × Unit) (b : Int × Int × Unit) (x : Int) (g0 : Int × Int × Unit → Int × Int × Unit → Int × Int × Unit → Int × Int × Unit → Int → Option ((Int × Int × Unit) × Unit)) : Nat → Int × Int × Unit → Int × Int × Unit → Int × Int × Unit → Int × Int × Unit → Int → Option ((Int × Int × Unit) × Unit)
  | 0, _, _, _, _, _ => none
  | fu + 1, a3, b3, t42, out2, y => span_times_b2 nf  a b x g0 (span_times_l2 nf a b x g0 fu) a3 b3 t42 out2 y
def span_times_l0 (nf : Nat) (a : Int × Int × Unit) (b : Int × Int × Unit) : Nat → Int × Int × Unit → Int × Int × Unit → Int × Int × Unit → Int × Int × Unit → Int → Option ((Int × Int × Unit) × Unit)
  | 0, _, _, _, _, _ => none
  | fu + 1, a2, b2, t4, out, x => span_times_b0 nf (fun _ _ p2 v0 v1 v2 v3 v4 => span_times_l2 nf a b p2 (fun a2 b2 t4 out x => span_times_l0 nf a b  fu a2 b2 t4 out x) nf v0 v1 v2 v3 v4) a b  (span_times_l0 nf a b  fu) a2 b2 t4 out x
def span_times_f (nf : Nat) (a : Int × Int × Unit) (b : Int × Int × Unit) : Option ((Int × Int × Unit) × Unit) := span_times_p nf (fun p0 p1 v0 v1 v2 v3 v4 => span_times_l0 nf p0 p1 nf v0 v1 v2 v3 v4) a b
noncomputable def span_times_L0 (nf : Nat) : LC ((Int × Int × Unit) × Unit) := theL (findL tab (span_times_phi nf) (fun _ F => iter nf F) span_times_keep 0 0 (codeOf Try.f139) (fin tab [((Ty.int IntKind.i64).pair ((Ty.int IntKind.i64).pair Ty.unit), Md.bor false true)] (resL ([]) Try.f139)) (fun _ _ => none) (fin tab [((Ty.int IntKind.i64).pair ((Ty.int IntKind.i64).pair Ty.unit), Md.bor false true)] (resL ([]) Try.f139)))
def span_times_m0 (a : Int × Int × Unit) (b : Int × Int × Unit) (a2 : Int × Int × Unit) (b2 : Int × Int × Unit) (t4 : Int × Int × Unit) (out : Int × Int × Unit) (x : Int) : St := ⟨fresh, [(0, AV.v ((Ty.int IntKind.i64).pair ((Ty.int IntKind.i64).pair Ty.unit)) (Md.bor true false) a), (1, AV.v ((Ty.int IntKind.i64).pair ((Ty.int IntKind.i64).pair Ty.unit)) (Md.bor true false) b), (2, AV.box 2 500002 ((Ty.int IntKind.i64).pair ((Ty.int IntKind.i64).pair Ty.unit)) (Md.bor true false) a2), (3, AV.box 3 500003 ((Ty.int IntKind.i64).pair ((Ty.int IntKind.i64).pair Ty.unit)) (Md.bor true false) b2), (4, AV.box 4 500004 ((Ty.int IntKind.i64).pair ((Ty.int IntKind.i64).pair Ty.unit)) ((Md.bor false true).pair ((Md.bor false true).pair (Md.bor false true))) t4), (5, AV.box 5 500005 ((Ty.int IntKind.i64).pair ((Ty.int IntKind.i64).pair Ty.unit)) ((Md.bor false true).pair ((Md.bor false true).pair (Md.bor false false))) out), (6, AV.v (Ty.int IntKind.i64) (Md.bor false true) x)]⟩
noncomputable def span_times_L2 (nf : Nat) (G0 : St → Option ((Int × Int × Unit) × Unit)) : LC ((Int × Int × Unit) × Unit) := theL (findL tab (span_times_phi nf) (fun _ F => iter nf F) span_times_keep 2 0 (span_times_L0 nf ).c (fun st => norm (span_times_keep 0) st G0) (span_times_L0 nf ).Kx (span_times_L0 nf ).Kr)
def span_times_m2 (a : Int × Int × Unit) (b : Int × Int × Unit) (x : Int) (a3 : Int × Int × Unit) (b3 : Int × Int × Unit) (t42 : Int × Int × Unit) (out2 : Int × Int × Unit) (y : Int) : St := ⟨fresh, [(0, AV.v ((Ty.int IntKind.i64).pair ((Ty.int IntKind.i64).pair Ty.unit)) (Md.bor true false) a), (1, AV.v ((Ty.int IntKind.i64).pair ((Ty.int IntKind.i64).pair Ty.unit)) (Md.bor true false) b), (2, AV.box 2 500002 ((Ty.int IntKind.i64).pair ((Ty.int IntKind.i64).pair Ty.unit)) (Md.bor true false) a3), (3, AV.box 3 500003 ((Ty.int IntKind.i64).pair ((Ty.int IntKind.i64).pair Ty.unit)) (Md.bor true false) b3), (4, AV.box 4 500004 ((Ty.int IntKind.i64).pair ((Ty.int IntKind.i64).pair Ty.unit)) ((Md.bor false true).pair ((Md.bor false true).pair (Md.bor false true))) t42), (5, AV.box 5 500005 ((Ty.int IntKind.i64).pair ((Ty.int IntKind.i64).pair Ty.unit)) ((Md.bor false true).pair ((Md.bor false true).pair (Md.bor false false))) out2), (6, AV.v (Ty.int IntKind.i64) (Md.bor false true) x), (7, AV.v (Ty.int IntKind.i64) (Md.bor false true) y)]⟩
theorem span_times_h2 (nf : Nat) (G0 : St → Option ((Int × Int × Unit) × Unit)) (a : Int × Int × Unit) (b : Int × Int × Unit) (x : Int) (fu : Nat) (a3 : Int × Int × Unit) (b3 : Int × Int × Unit) (t42 : Int × Int × Unit) (out2 : Int × Int × Unit) (y : Int) : iter (fu + 1) (LC.F tab (span_times_phi nf) (fun _ F => iter nf F) span_times_keep 2 (span_times_L2 nf G0)) (span_times_m2 a b x a3 b3 t42 out2 y) = span_times_b2 nf  a b x (fun a2 b2 t4 out x => G0 (span_times_m0 a b a2 b2 t4 out x)) (fun a3 b3 t42 out2 y => iter fu (LC.F tab (span_times_phi nf) (fun _ F => iter nf F) span_times_keep 2 (span_times_L2 nf G0)) (span_times_m2 a b x a3 b3 t42 out2 y)) a3 b3 t42 out2 y := by kernel_rfl
theorem span_times_e2 (nf : Nat) (G0 : St → Option ((Int × Int × Unit) × Unit)) (a : Int × Int × Unit) (b : Int × Int × Unit) (x : Int) : ∀ (fu : Nat) (a3 : Int × Int × Unit) (b3 : Int × Int × Unit) (t42 : Int × Int × Unit) (out2 : Int × Int × Unit) (y : Int), iter fu (LC.F tab (span_times_phi nf) (fun _ F => iter nf F) span_times_keep 2 (span_times_L2 nf G0)) (span_times_m2 a b x a3 b3 t42 out2 y) = span_times_l2 nf a b x (fun a2 b2 t4 out x => G0 (span_times_m0 a b a2 b2 t4 out x)) fu a3 b3 t42 out2 y := by
  intro fu
  induction fu with
  | zero => intros; rfl
  | succ fu ih =>
    intro a3 b3 t42 out2 y
    rw [span_times_h2 nf G0 a b x fu a3 b3 t42 out2 y]
    simp only [ih]
    rfl
theorem span_times_h0 (nf : Nat)  (a : Int × Int × Unit) (b : Int × Int × Unit) (fu : Nat) (a2 : Int × Int × Unit) (b2 : Int × Int × Unit) (t4 : Int × Int × Unit) (out : Int × Int × Unit) (x : Int) : iter (fu + 1) (LC.F tab (span_times_phi nf) (fun _ F => iter nf F) span_times_keep 0 (span_times_L0 nf )) (span_times_m0 a b a2 b2 t4 out x) = span_times_b0 nf (fun _ _ p2 v0 v1 v2 v3 v4 => iter nf (LC.F tab (span_times_phi nf) (fun _ F => iter nf F) span_times_keep 2 (span_times_L2 nf (iter fu (LC.F tab (span_times_phi nf) (fun _ F => iter nf F) span_times_keep 0 (span_times_L0 nf ))))) (span_times_m2 a b p2 v0 v1 v2 v3 v4)) a b  (fun a2 b2 t4 out x => iter fu (LC.F tab (span_times_phi nf) (fun _ F => iter nf F) span_times_keep 0 (span_times_L0 nf )) (span_times_m0 a b a2 b2 t4 out x)) a2 b2 t4 out x := by kernel_rfl
theorem span_times_e0 (nf : Nat)  (a : Int × Int × Unit) (b : Int × Int × Unit) : ∀ (fu : Nat) (a2 : Int × Int × Unit) (b2 : Int × Int × Unit) (t4 : Int × Int × Unit) (out : Int × Int × Unit) (x : Int), iter fu (LC.F tab (span_times_phi nf) (fun _ F => iter nf F) span_times_keep 0 (span_times_L0 nf )) (span_times_m0 a b a2 b2 t4 out x) = span_times_l0 nf a b  fu a2 b2 t4 out x := by
  intro fu
  induction fu with
  | zero => intros; rfl
  | succ fu ih =>
    intro a2 b2 t4 out x
    rw [span_times_h0 nf  a b fu a2 b2 t4 out x]
    simp only [ih, span_times_e2]
    rfl
theorem span_times_eq (nf : Nat) (a : Int × Int × Unit) (b : Int × Int × Unit) : runF tab (span_times_phi nf) span_times_keep nf [PT.val ((Ty.int IntKind.i64).pair ((Ty.int IntKind.i64).pair Ty.unit)) (Md.bor true false), PT.val ((Ty.int IntKind.i64).pair ((Ty.int IntKind.i64).pair Ty.unit)) (Md.bor true false)] [((Ty.int IntKind.i64).pair ((Ty.int IntKind.i64).pair Ty.unit), Md.bor false true)] (resL ([]) Try.f139) (codeOf Try.f139) ⟨a, b, ()⟩ = span_times_f nf a b := by
  have h : runF tab (span_times_phi nf) span_times_keep nf [PT.val ((Ty.int IntKind.i64).pair ((Ty.int IntKind.i64).pair Ty.unit)) (Md.bor true false), PT.val ((Ty.int IntKind.i64).pair ((Ty.int IntKind.i64).pair Ty.unit)) (Md.bor true false)] [((Ty.int IntKind.i64).pair ((Ty.int IntKind.i64).pair Ty.unit), Md.bor false true)] (resL ([]) Try.f139) (codeOf Try.f139) ⟨a, b, ()⟩ = span_times_p nf (fun p0 p1 v0 v1 v2 v3 v4 => iter nf (LC.F tab (span_times_phi nf) (fun _ F => iter nf F) span_times_keep 0 (span_times_L0 nf)) (span_times_m0 p0 p1 v0 v1 v2 v3 v4)) a b := by kernel_rfl
  rw [h]
  simp only [span_times_e0]
  rfl
def span_times_F (nf : Nat) (x : denPs [.val (.pair (.int .i64) (.pair (.int .i64) (.unit))) (.bor true false), .val (.pair (.int .i64) (.pair (.int .i64) (.unit))) (.bor true false)]) : Option (denL [(.pair (.int .i64) (.pair (.int .i64) (.unit)), .bor false true)]) := span_times_f nf x.1 x.2.1
def span_times_C (nf : Nat) : Contract := ⟨[.val (.pair (.int .i64) (.pair (.int .i64) (.unit))) (.bor true false), .val (.pair (.int .i64) (.pair (.int .i64) (.unit))) (.bor true false)], [(.pair (.int .i64) (.pair (.int .i64) (.unit)), .bor false true)], span_times_F nf, []⟩
theorem span_times_ok : FnOK Try.prog 139 := ⟨Try.f139, codeOf Try.f139, Try.func139, by kernel_rfl, by kernel_rfl⟩
theorem span_times_holds (nf : Nat) : Contract.Holds Try.prog 139 (span_times_C nf) :=
  fn_holds (Φ := span_times_phi nf) (keep := span_times_keep) (n := nf) ⟨tabs.1, tabs.2, (ctx_cons term_Do_ok (term_Do_holds nf) ctx_nil), mixed, bk_ok bkls rfl⟩ (fn := Try.f139) ⟨Try.func139, by kernel_rfl, by kernel_rfl, by kernel_rfl⟩ (fun x => span_times_eq nf x.1 x.2.1)

/-! codemason span.do -/
def span_do_phi (nf : Nat) : Nat → Option Contract := lookC [(138, span_wrap_C nf), (139, span_times_C nf)]
def span_do_keep : Nat → List Nat := lookK []
def span_do_p (nf : Nat)  (op : Int) (a : Int × Int × Unit) (b : Int × Int × Unit) : Option ((Int × Int × Unit) × Unit) :=
  bif op == 3 then
    Option.bind (span_wrap_f nf (IntKind.i64.wrap (a.fst + b.fst)) (IntKind.i64.wrap (a.snd.fst + b.snd.fst))) fun r =>
    some ((r.fst, ()))
  else
    bif op == 4 then
      Option.bind (span_wrap_f nf (IntKind.i64.wrap (a.fst - b.snd.fst)) (IntKind.i64.wrap (a.snd.fst - b.fst))) fun r2 =>
      some ((r2.fst, ()))
    else
      bif op == 5 then
        bif decide (IntKind.i64.wrap (a.snd.fst * b.snd.fst) < 256) then
          some (((IntKind.i64.wrap (a.fst * b.fst), IntKind.i64.wrap (a.snd.fst * b.snd.fst), ()), ()))
        else
          Option.bind (span_times_f nf a b) fun r3 =>
          some ((r3.fst, ()))
      else
        bif decide (a.snd.fst < b.fst) then
          bif decide (a.fst ≥ b.snd.fst) then
            some (((1, 0, ()), ()))
          else
            some (((1, 1, ()), ()))
        else
          bif decide (a.fst ≥ b.snd.fst) then
            some (((0, 0, ()), ()))
          else
            some (((0, 1, ()), ()))
def span_do_f (nf : Nat) (op : Int) (a : Int × Int × Unit) (b : Int × Int × Unit) : Option ((Int × Int × Unit) × Unit) := span_do_p nf  op a b
theorem span_do_eq (nf : Nat) (op : Int) (a : Int × Int × Unit) (b : Int × Int × Unit) : runF tab (span_do_phi nf) span_do_keep nf [PT.val (Ty.int IntKind.i64) (Md.bor true false), PT.val ((Ty.int IntKind.i64).pair ((Ty.int IntKind.i64).pair Ty.unit)) (Md.bor true false), PT.val ((Ty.int IntKind.i64).pair ((Ty.int IntKind.i64).pair Ty.unit)) (Md.bor true false)] [((Ty.int IntKind.i64).pair ((Ty.int IntKind.i64).pair Ty.unit), Md.bor false true)] (resL ([]) Try.f125) (codeOf Try.f125) ⟨op, a, b, ()⟩ = span_do_f nf op a b := by
  have h : runF tab (span_do_phi nf) span_do_keep nf [PT.val (Ty.int IntKind.i64) (Md.bor true false), PT.val ((Ty.int IntKind.i64).pair ((Ty.int IntKind.i64).pair Ty.unit)) (Md.bor true false), PT.val ((Ty.int IntKind.i64).pair ((Ty.int IntKind.i64).pair Ty.unit)) (Md.bor true false)] [((Ty.int IntKind.i64).pair ((Ty.int IntKind.i64).pair Ty.unit), Md.bor false true)] (resL ([]) Try.f125) (codeOf Try.f125) ⟨op, a, b, ()⟩ = span_do_p nf  op a b := by kernel_rfl
  exact h
def span_do_F (nf : Nat) (x : denPs [.val (.int .i64) (.bor true false), .val (.pair (.int .i64) (.pair (.int .i64) (.unit))) (.bor true false), .val (.pair (.int .i64) (.pair (.int .i64) (.unit))) (.bor true false)]) : Option (denL [(.pair (.int .i64) (.pair (.int .i64) (.unit)), .bor false true)]) := span_do_f nf x.1 x.2.1 x.2.2.1
def span_do_C (nf : Nat) : Contract := ⟨[.val (.int .i64) (.bor true false), .val (.pair (.int .i64) (.pair (.int .i64) (.unit))) (.bor true false), .val (.pair (.int .i64) (.pair (.int .i64) (.unit))) (.bor true false)], [(.pair (.int .i64) (.pair (.int .i64) (.unit)), .bor false true)], span_do_F nf, []⟩
theorem span_do_ok : FnOK Try.prog 125 := ⟨Try.f125, codeOf Try.f125, Try.func125, by kernel_rfl, by kernel_rfl⟩
theorem span_do_holds (nf : Nat) : Contract.Holds Try.prog 125 (span_do_C nf) :=
  fn_holds (Φ := span_do_phi nf) (keep := span_do_keep) (n := nf) ⟨tabs.1, tabs.2, (ctx_cons span_wrap_ok (span_wrap_holds nf) (ctx_cons span_times_ok (span_times_holds nf) ctx_nil)), mixed, bk_ok bkls rfl⟩ (fn := Try.f125) ⟨Try.func125, by kernel_rfl, by kernel_rfl, by kernel_rfl⟩ (fun x => span_do_eq nf x.1 x.2.1 x.2.2.1)

/-! codemason span.behind -/
def span_behind_phi (nf : Nat) : Nat → Option Contract := lookC [(124, slices_Clone_C nf), (125, span_do_C nf)]
def span_behind_keep : Nat → List Nat := lookK [(0, [0, 1, 8, 9, 10, 11])]
def span_behind_b0 (nf : Nat) (code' : List (Int × Int × Int × Int × Int × Unit)) (g0 : List (Int × Int × Unit) → Int → Option (List (Int × Int × Unit) × Unit)) (v2 : List (Int × Int × Unit)) (t11 : Int) : Option (List (Int × Int × Unit) × Unit) :=
  bif decide (t11 < (↑code'.length : Int)) then
    bif inb t11 code'.length then
      bif (code'.getD t11.toNat (0, 0, 0, 0, 0, ())).fst == 1 then
        bif inb (code'.getD t11.toNat (0, 0, 0, 0, 0, ())).snd.fst v2.length then
          g0 (v2.set (Int.toNat (code'.getD t11.toNat (0, 0, 0, 0, 0, ())).snd.fst) ((code'.getD t11.toNat (0, 0, 0, 0, 0, ())).snd.snd.snd.snd.fst, (code'.getD t11.toNat (0, 0, 0, 0, 0, ())).snd.snd.snd.snd.fst, ())) (IntKind.i64.wrap (t11 + 1))
        else
          none
      else
        bif (code'.getD t11.toNat (0, 0, 0, 0, 0, ())).fst == 2 then
          bif inb (code'.getD t11.toNat (0, 0, 0, 0, 0, ())).snd.snd.snd.snd.fst v2.length then
            bif inb (code'.getD t11.toNat (0, 0, 0, 0, 0, ())).snd.fst v2.length then
              g0 (v2.set (Int.toNat (code'.getD t11.toNat (0, 0, 0, 0, 0, ())).snd.fst) (v2.getD (Int.toNat (code'.getD t11.toNat (0, 0, 0, 0, 0, ())).snd.snd.snd.snd.fst) (0, 0, ()))) (IntKind.i64.wrap (t11 + 1))
            else
              none
          else
            none
        else
          bif inb (code'.getD t11.toNat (0, 0, 0, 0, 0, ())).snd.snd.fst v2.length then
            bif inb (code'.getD t11.toNat (0, 0, 0, 0, 0, ())).snd.snd.snd.fst v2.length then
              Option.bind (span_do_f nf ((code'.getD t11.toNat (0, 0, 0, 0, 0, ())).fst) (v2.getD (Int.toNat (code'.getD t11.toNat (0, 0, 0, 0, 0, ())).snd.snd.fst) (0, 0, ())) (v2.getD (Int.toNat (code'.getD t11.toNat (0, 0, 0, 0, 0, ())).snd.snd.snd.fst) (0, 0, ()))) fun r2 =>
              bif inb (code'.getD t11.toNat (0, 0, 0, 0, 0, ())).snd.fst v2.length then
                g0 (v2.set (Int.toNat (code'.getD t11.toNat (0, 0, 0, 0, 0, ())).snd.fst) r2.fst) (IntKind.i64.wrap (t11 + 1))
              else
                none
            else
              none
          else
            none
    else
      none
  else
    some ((v2, ()))
def span_behind_p (nf : Nat) (l0 : List (Int × Int × Int × Int × Int × Unit) → List (Int × Int × Unit) → Int → Option (List (Int × Int × Unit) × Unit)) (code' : List (Int × Int × Int × Int × Int × Unit)) (v : List (Int × Int × Unit)) : Option (List (Int × Int × Unit) × Unit) :=
  Option.bind (slices_Clone_f nf v) fun r =>
  l0 code' r.fst 0
def span_behind_l0 (nf : Nat) (code' : List (Int × Int × Int × Int × Int × Unit)) : Nat → List (Int × Int × Unit) → Int → Option (List (Int × Int × Unit) × Unit)
  | 0, _, _ => none
  | fu + 1, v2, t11 => span_behind_b0 nf  code'  (span_behind_l0 nf code'  fu) v2 t11
def span_behind_f (nf : Nat) (code' : List (Int × Int × Int × Int × Int × Unit)) (v : List (Int × Int × Unit)) : Option (List (Int × Int × Unit) × Unit) := span_behind_p nf (fun p0 v0 v1 => span_behind_l0 nf p0 nf v0 v1) code' v
noncomputable def span_behind_L0 (nf : Nat) : LC (List (Int × Int × Unit) × Unit) := theL (findL tab (span_behind_phi nf) (fun _ F => iter nf F) span_behind_keep 0 0 (codeOf Try.f95) (fin tab [(((Ty.int IntKind.i64).pair ((Ty.int IntKind.i64).pair Ty.unit)).sl, Md.own false (Md.bor false false))] (resL ([]) Try.f95)) (fun _ _ => none) (fin tab [(((Ty.int IntKind.i64).pair ((Ty.int IntKind.i64).pair Ty.unit)).sl, Md.own false (Md.bor false false))] (resL ([]) Try.f95)))
def span_behind_m0 (code' : List (Int × Int × Int × Int × Int × Unit)) (v2 : List (Int × Int × Unit)) (t11 : Int) : St := ⟨fresh, [(0, AV.v ((Ty.int IntKind.i64).pair ((Ty.int IntKind.i64).pair ((Ty.int IntKind.i64).pair ((Ty.int IntKind.i64).pair ((Ty.int IntKind.i64).pair Ty.unit))))).sl (Md.bor true false) code'), (1, AV.ow 500001 ((Ty.int IntKind.i64).pair ((Ty.int IntKind.i64).pair Ty.unit)).sl (Md.own false (Md.bor false false)) v2), (8, AV.dead), (9, AV.v ((Ty.int IntKind.i64).pair ((Ty.int IntKind.i64).pair ((Ty.int IntKind.i64).pair ((Ty.int IntKind.i64).pair ((Ty.int IntKind.i64).pair Ty.unit))))).sl (Md.bor true false) code'), (10, AV.v (Ty.int IntKind.i64) (Md.bor false true) (↑code'.length : Int)), (11, AV.v (Ty.int IntKind.i64) (Md.bor false true) t11)]⟩
theorem span_behind_h0 (nf : Nat)  (code' : List (Int × Int × Int × Int × Int × Unit)) (fu : Nat) (v2 : List (Int × Int × Unit)) (t11 : Int) : iter (fu + 1) (LC.F tab (span_behind_phi nf) (fun _ F => iter nf F) span_behind_keep 0 (span_behind_L0 nf )) (span_behind_m0 code' v2 t11) = span_behind_b0 nf  code'  (fun v2 t11 => iter fu (LC.F tab (span_behind_phi nf) (fun _ F => iter nf F) span_behind_keep 0 (span_behind_L0 nf )) (span_behind_m0 code' v2 t11)) v2 t11 := by kernel_rfl
theorem span_behind_e0 (nf : Nat)  (code' : List (Int × Int × Int × Int × Int × Unit)) : ∀ (fu : Nat) (v2 : List (Int × Int × Unit)) (t11 : Int), iter fu (LC.F tab (span_behind_phi nf) (fun _ F => iter nf F) span_behind_keep 0 (span_behind_L0 nf )) (span_behind_m0 code' v2 t11) = span_behind_l0 nf code'  fu v2 t11 := by
  intro fu
  induction fu with
  | zero => intros; rfl
  | succ fu ih =>
    intro v2 t11
    rw [span_behind_h0 nf  code' fu v2 t11]
    simp only [ih]
    rfl
theorem span_behind_eq (nf : Nat) (code' : List (Int × Int × Int × Int × Int × Unit)) (v : List (Int × Int × Unit)) : runF tab (span_behind_phi nf) span_behind_keep nf [PT.val ((Ty.int IntKind.i64).pair ((Ty.int IntKind.i64).pair ((Ty.int IntKind.i64).pair ((Ty.int IntKind.i64).pair ((Ty.int IntKind.i64).pair Ty.unit))))).sl (Md.bor true false), PT.val ((Ty.int IntKind.i64).pair ((Ty.int IntKind.i64).pair Ty.unit)).sl (Md.bor true false)] [(((Ty.int IntKind.i64).pair ((Ty.int IntKind.i64).pair Ty.unit)).sl, Md.own false (Md.bor false false))] (resL ([]) Try.f95) (codeOf Try.f95) ⟨code', v, ()⟩ = span_behind_f nf code' v := by
  have h : runF tab (span_behind_phi nf) span_behind_keep nf [PT.val ((Ty.int IntKind.i64).pair ((Ty.int IntKind.i64).pair ((Ty.int IntKind.i64).pair ((Ty.int IntKind.i64).pair ((Ty.int IntKind.i64).pair Ty.unit))))).sl (Md.bor true false), PT.val ((Ty.int IntKind.i64).pair ((Ty.int IntKind.i64).pair Ty.unit)).sl (Md.bor true false)] [(((Ty.int IntKind.i64).pair ((Ty.int IntKind.i64).pair Ty.unit)).sl, Md.own false (Md.bor false false))] (resL ([]) Try.f95) (codeOf Try.f95) ⟨code', v, ()⟩ = span_behind_p nf (fun p0 v0 v1 => iter nf (LC.F tab (span_behind_phi nf) (fun _ F => iter nf F) span_behind_keep 0 (span_behind_L0 nf)) (span_behind_m0 p0 v0 v1)) code' v := by kernel_rfl
  rw [h]
  simp only [span_behind_e0]
  rfl
def span_behind_F (nf : Nat) (x : denPs [.val (.sl (.pair (.int .i64) (.pair (.int .i64) (.pair (.int .i64) (.pair (.int .i64) (.pair (.int .i64) (.unit))))))) (.bor true false), .val (.sl (.pair (.int .i64) (.pair (.int .i64) (.unit)))) (.bor true false)]) : Option (denL [(.sl (.pair (.int .i64) (.pair (.int .i64) (.unit))), .own false (.bor false false))]) := span_behind_f nf x.1 x.2.1
def span_behind_C (nf : Nat) : Contract := ⟨[.val (.sl (.pair (.int .i64) (.pair (.int .i64) (.pair (.int .i64) (.pair (.int .i64) (.pair (.int .i64) (.unit))))))) (.bor true false), .val (.sl (.pair (.int .i64) (.pair (.int .i64) (.unit)))) (.bor true false)], [(.sl (.pair (.int .i64) (.pair (.int .i64) (.unit))), .own false (.bor false false))], span_behind_F nf, []⟩
theorem span_behind_ok : FnOK Try.prog 95 := ⟨Try.f95, codeOf Try.f95, Try.func95, by kernel_rfl, by kernel_rfl⟩
theorem span_behind_holds (nf : Nat) : Contract.Holds Try.prog 95 (span_behind_C nf) :=
  fn_holds (Φ := span_behind_phi nf) (keep := span_behind_keep) (n := nf) ⟨tabs.1, tabs.2, (ctx_cons slices_Clone_ok (slices_Clone_holds nf) (ctx_cons span_do_ok (span_do_holds nf) ctx_nil)), mixed, bk_ok bkls rfl⟩ (fn := Try.f95) ⟨Try.func95, by kernel_rfl, by kernel_rfl, by kernel_rfl⟩ (fun x => span_behind_eq nf x.1 x.2.1)

/-! codemason span.In -/
def span_In_tab : Tab := ⟨lookT [(2, .int .i64), (3, .int .i64), (4, .bool), (5, .int .u8), (6, .int .u8), (7, .pair (.int .i64) (.pair (.int .i64) (.pair (.bool) (.pair (.int .u8) (.unit))))), (8, .pair (.int .i64) (.pair (.int .i64) (.pair (.bool) (.pair (.int .u8) (.unit))))), (12, .int .u64), (21, .int .i32), (22, .sl (.pair (.sl (.pair (.int .i64) (.pair (.int .i64) (.pair (.int .i64) (.pair (.int .i64) (.pair (.int .i64) (.unit))))))) (.pair (.int .i64) (.pair (.int .i64) (.pair (.int .i64) (.unit)))))), (23, .int .i64), (26, .sl (.sl (.int .i64))), (31, .sl (.int .i64)), (39, .int .u32), (40, .sl (.int .u32)), (46, .pair (.int .i64) (.pair (.int .i64) (.unit))), (47, .pair (.int .i64) (.pair (.int .i64) (.unit))), (58, .sl (.pair (.int .i64) (.pair (.int .i64) (.unit)))), (59, .sl (.sl (.pair (.int .i64) (.pair (.int .i64) (.unit))))), (62, .pair (.int .i64) (.pair (.int .i64) (.unit))), (63, .pair (.int .i64) (.pair (.int .i64) (.unit))), (81, .sl (.pair (.int .i64) (.pair (.int .i64) (.pair (.int .i64) (.pair (.int .i64) (.pair (.int .i64) (.unit))))))), (82, .pair (.sl (.pair (.int .i64) (.pair (.int .i64) (.pair (.int .i64) (.pair (.int .i64) (.pair (.int .i64) (.unit))))))) (.pair (.int .i64) (.pair (.int .i64) (.pair (.int .i64) (.unit))))), (83, .pair (.sl (.pair (.int .i64) (.pair (.int .i64) (.pair (.int .i64) (.pair (.int .i64) (.pair (.int .i64) (.unit))))))) (.pair (.int .i64) (.pair (.int .i64) (.pair (.int .i64) (.unit))))), (86, .sl (.sl (.bool))), (91, .sl (.bool)), (92, .sl (.int .u8)), (97, .pair (.int .i64) (.pair (.int .i64) (.pair (.int .i64) (.pair (.int .i64) (.pair (.int .i64) (.unit)))))), (98, .pair (.int .i64) (.pair (.int .i64) (.pair (.int .i64) (.pair (.int .i64) (.pair (.int .i64) (.unit)))))), (105, .int .u64), (106, .sl (.pair (.int .i64) (.pair (.int .i64) (.unit)))), (126, .pair (.sl (.sl (.pair (.int .i64) (.pair (.int .i64) (.unit))))) (.pair (.bool) (.unit))), (127, .pair (.sl (.sl (.pair (.int .i64) (.pair (.int .i64) (.unit))))) (.pair (.bool) (.unit))), (139, .pair (.sl (.pair (.sl (.pair (.int .i64) (.pair (.int .i64) (.pair (.int .i64) (.pair (.int .i64) (.pair (.int .i64) (.unit))))))) (.pair (.int .i64) (.pair (.int .i64) (.pair (.int .i64) (.unit)))))) (.unit)), (140, .pair (.sl (.pair (.sl (.pair (.int .i64) (.pair (.int .i64) (.pair (.int .i64) (.pair (.int .i64) (.pair (.int .i64) (.unit))))))) (.pair (.int .i64) (.pair (.int .i64) (.pair (.int .i64) (.unit)))))) (.unit)), (145, .pair (.sl (.pair (.sl (.pair (.int .i64) (.pair (.int .i64) (.pair (.int .i64) (.pair (.int .i64) (.pair (.int .i64) (.unit))))))) (.pair (.int .i64) (.pair (.int .i64) (.pair (.int .i64) (.unit)))))) (.pair (.sl (.sl (.int .i64))) (.pair (.int .u32) (.pair (.sl (.sl (.bool))) (.pair (.int .u32) (.pair (.sl (.int .u32)) (.unit))))))), (146, .pair (.sl (.pair (.sl (.pair (.int .i64) (.pair (.int .i64) (.pair (.int .i64) (.pair (.int .i64) (.pair (.int .i64) (.unit))))))) (.pair (.int .i64) (.pair (.int .i64) (.pair (.int .i64) (.unit)))))) (.pair (.sl (.sl (.int .i64))) (.pair (.int .u32) (.pair (.sl (.sl (.bool))) (.pair (.int .u32) (.pair (.sl (.int .u32)) (.unit))))))), (155, .mp (.int .i64) (.int .i64)), (189, .int .u8), (190, .int .u8), (193, .int .i32), (194, .int .i32)], lookM [(2, .bor false true), (3, .bor false true), (4, .bor false true), (5, .bor false true), (6, .bor false true), (7, .bor false true), (8, .bor false true), (12, .bor false true), (21, .bor false true), (22, .own false (.bor false false)), (23, .bor false true), (26, .own false (.bor false false)), (31, .own false (.bor false false)), (39, .bor false true), (40, .own false (.bor false false)), (46, .bor false true), (47, .bor false true), (58, .own false (.bor false false)), (59, .own false (.own true (.bor false false))), (62, .bor false true), (63, .bor false true), (81, .own false (.bor false false)), (82, .bor true false), (83, .bor true false), (86, .own false (.bor false false)), (91, .own false (.bor false false)), (92, .own false (.bor false false)), (97, .bor false true), (98, .bor false true), (105, .bor false true), (106, .own false (.bor false false)), (126, .bor true false), (127, .pair (.own false (.own true (.bor false false))) (.pair (.bor false true) (.bor false false))), (139, .bor true false), (140, .pair (.own false (.pair (.own true (.bor false true)) (.bor false true))) (.bor false false)), (145, .bor true false), (146, .pair (.bor false false) (.pair (.bor false false) (.pair (.bor false true) (.pair (.own false (.own false (.bor false true))) (.pair (.bor false true) (.pair (.own false (.bor false false)) (.bor false false))))))), (155, .own false (.bor false false)), (189, .bor false true), (190, .bor false true), (193, .bor false true), (194, .bor false true)], hasT [185], hasT [9, 10, 11], fun _ => none, lookB bkl⟩
theorem span_In_tabs : TabOK Try.prog span_In_tab ∧ EqOK Try.prog span_In_tab := tab_ok (by kernel_rfl) (by kernel_rfl)
def span_In_phi (nf : Nat) : Nat → Option Contract := lookC [(19, block_Check_C nf), (91, slices_ContainsFunc__span_In_1_C nf), (94, span_place_come_C nf), (95, span_behind_C nf)]
def span_In_keep : Nat → List Nat := lookK [(2, [1, 9, 29, 30, 41, 42, 43]), (0, [1, 9, 29, 30])]
def span_In_b0 (nf : Nat) (l2 : List (List (Int × Int × Int × Int × Int × Unit) × Int × Int × Int × Unit) → List (List (Int × Int × Unit)) × Bool × Unit → Int → Option (List (List (Int × Int × Unit)) × Int × Unit)) (prog : List (List (Int × Int × Int × Int × Int × Unit) × Int × Int × Int × Unit)) (g0 : List (List (Int × Int × Unit)) × Bool × Unit → Option (List (List (Int × Int × Unit)) × Int × Unit)) (t30 : List (List (Int × Int × Unit)) × Bool × Unit) : Option (List (List (Int × Int × Unit)) × Int × Unit) :=
  bif t30.snd.fst then
    l2 prog ((t30.fst, false, t30.snd.snd)) 0
  else
    some ((t30.fst, 0, ()))
def span_In_b2 (nf : Nat) (prog : List (List (Int × Int × Int × Int × Int × Unit) × Int × Int × Int × Unit)) (g0 : List (List (Int × Int × Unit)) × Bool × Unit → Option (List (List (Int × Int × Unit)) × Int × Unit)) (g2 : List (List (Int × Int × Unit)) × Bool × Unit → Int → Option (List (List (Int × Int × Unit)) × Int × Unit)) (t302 : List (List (Int × Int × Unit)) × Bool × Unit) (t43 : Int) : Option (List (List (Int × Int × Unit)) × Int × Unit) :=
  bif decide (t43 < (↑prog.length : Int)) then
    bif inb t43 prog.length then
      bif inb t43 (List.length t302.fst) then
        bif List.isEmpty (List.getD t302.fst t43.toNat []) then
          g2 t302 (IntKind.i64.wrap (t43 + 1))
        else
          bif inb t43 (List.length t302.fst) then
            Option.bind (span_behind_f nf ((prog.getD t43.toNat ([], 0, 0, 0, ())).fst) (List.getD t302.fst t43.toNat [])) fun r5 =>
            bif decide ((prog.getD t43.toNat ([], 0, 0, 0, ())).snd.fst < 0) then
              bif decide ((prog.getD t43.toNat ([], 0, 0, 0, ())).snd.snd.fst ≥ 0) then
                Option.bind (span_place_come_f nf t302 ((prog.getD t43.toNat ([], 0, 0, 0, ())).snd.snd.fst) r5.fst) fun r6 =>
                Option.bind r6.fst fun r7 =>
                g2 r7 (IntKind.i64.wrap (t43 + 1))
              else
                g2 t302 (IntKind.i64.wrap (t43 + 1))
            else
              bif inb (prog.getD t43.toNat ([], 0, 0, 0, ())).snd.fst (List.length r5.fst) then
                bif decide ((List.getD r5.fst (Int.toNat (prog.getD t43.toNat ([], 0, 0, 0, ())).snd.fst) (0, 0, ())).snd.fst > 0) then
                  bif inb (prog.getD t43.toNat ([], 0, 0, 0, ())).snd.fst (List.length r5.fst) then
                    Option.bind (span_place_come_f nf t302 ((prog.getD t43.toNat ([], 0, 0, 0, ())).snd.snd.fst) (List.set r5.fst (Int.toNat (prog.getD t43.toNat ([], 0, 0, 0, ())).snd.fst) (if 1 > (List.getD r5.fst (Int.toNat (prog.getD t43.toNat ([], 0, 0, 0, ())).snd.fst) (0, 0, ())).fst then 1 else (List.getD r5.fst (Int.toNat (prog.getD t43.toNat ([], 0, 0, 0, ())).snd.fst) (0, 0, ())).fst, (List.getD r5.fst (Int.toNat (prog.getD t43.toNat ([], 0, 0, 0, ())).snd.fst) (0, 0, ())).snd.fst, ()))) fun r8 =>
                    Option.bind r8.fst fun r9 =>
                    bif (List.getD r5.fst (Int.toNat (prog.getD t43.toNat ([], 0, 0, 0, ())).snd.fst) (0, 0, ())).fst == 0 then
                      bif inb (prog.getD t43.toNat ([], 0, 0, 0, ())).snd.fst (List.set r5.fst (Int.toNat (prog.getD t43.toNat ([], 0, 0, 0, ())).snd.fst) (if 1 > (List.getD r5.fst (Int.toNat (prog.getD t43.toNat ([], 0, 0, 0, ())).snd.fst) (0, 0, ())).fst then 1 else (List.getD r5.fst (Int.toNat (prog.getD t43.toNat ([], 0, 0, 0, ())).snd.fst) (0, 0, ())).fst, (List.getD r5.fst (Int.toNat (prog.getD t43.toNat ([], 0, 0, 0, ())).snd.fst) (0, 0, ())).snd.fst, ())).length then
                        Option.bind (span_place_come_f nf r9 ((prog.getD t43.toNat ([], 0, 0, 0, ())).snd.snd.snd.fst) ((List.set r5.fst (Int.toNat (prog.getD t43.toNat ([], 0, 0, 0, ())).snd.fst) (if 1 > (List.getD r5.fst (Int.toNat (prog.getD t43.toNat ([], 0, 0, 0, ())).snd.fst) (0, 0, ())).fst then 1 else (List.getD r5.fst (Int.toNat (prog.getD t43.toNat ([], 0, 0, 0, ())).snd.fst) (0, 0, ())).fst, (List.getD r5.fst (Int.toNat (prog.getD t43.toNat ([], 0, 0, 0, ())).snd.fst) (0, 0, ())).snd.fst, ())).set (Int.toNat (prog.getD t43.toNat ([], 0, 0, 0, ())).snd.fst) (0, 0, ()))) fun r10 =>
                        Option.bind r10.fst fun r11 =>
                        g2 r11 (IntKind.i64.wrap (t43 + 1))
                      else
                        none
                    else
                      g2 r9 (IntKind.i64.wrap (t43 + 1))
                  else
                    none
                else
                  bif (List.getD r5.fst (Int.toNat (prog.getD t43.toNat ([], 0, 0, 0, ())).snd.fst) (0, 0, ())).fst == 0 then
                    bif inb (prog.getD t43.toNat ([], 0, 0, 0, ())).snd.fst (List.length r5.fst) then
                      Option.bind (span_place_come_f nf t302 ((prog.getD t43.toNat ([], 0, 0, 0, ())).snd.snd.snd.fst) (List.set r5.fst (Int.toNat (prog.getD t43.toNat ([], 0, 0, 0, ())).snd.fst) (0, 0, ()))) fun r12 =>
                      Option.bind r12.fst fun r13 =>
                      g2 r13 (IntKind.i64.wrap (t43 + 1))
                    else
                      none
                  else
                    g2 t302 (IntKind.i64.wrap (t43 + 1))
              else
                none
          else
            none
      else
        none
    else
      none
  else
    g0 t302
def span_In_p (nf : Nat) (l0 : List (List (Int × Int × Int × Int × Int × Unit) × Int × Int × Int × Unit) → List (List (Int × Int × Unit)) × Bool × Unit → Option (List (List (Int × Int × Unit)) × Int × Unit)) (vars : Int) (prog : List (List (Int × Int × Int × Int × Int × Unit) × Int × Int × Int × Unit)) (have' : List (Int × Int × Unit)) : Option (List (List (Int × Int × Unit)) × Int × Unit) :=
  Option.bind (block_Check_f nf vars prog) fun r =>
  bif r.fst != 0 then
    some (([], r.fst, ()))
  else
    bif (↑have'.length : Int) != vars then
      some (([], 3, ()))
    else
      Option.bind (slices_ContainsFunc__span_In_1_f nf have' (())) fun r2 =>
      bif r2.fst then
        some (([], 4, ()))
      else
        bif decide (0 ≤ (↑prog.length : Int)) && decide ((↑prog.length : Int) ≤ (↑prog.length : Int)) && decide ((↑prog.length : Int) ≤ (↑lim : Int)) then
          Option.bind (span_place_come_f nf ((List.replicate (↑prog.length : Int).toNat [], false, ())) 0 have') fun r3 =>
          Option.bind r3.fst fun r4 =>
          l0 prog r4
        else
          none
def span_In_l2 (nf : Nat) (prog : List (List (Int × Int × Int × Int × Int × Unit) × Int × Int × Int × Unit)) (g0 : List (List (Int × Int × Unit)) × Bool × Unit → Option (List (List (Int × Int × Unit)) × Int × Unit)) : Nat → List (List (Int × Int × Unit)) × Bool × Unit → Int → Option (List (List (Int × Int × Unit)) × Int × Unit)
  | 0, _, _ => none
  | fu + 1, t302, t43 => span_In_b2 nf  prog g0 (span_In_l2 nf prog g0 fu) t302 t43
def span_In_l0 (nf : Nat) (prog : List (List (Int × Int × Int × Int × Int × Unit) × Int × Int × Int × Unit)) : Nat → List (List (Int × Int × Unit)) × Bool × Unit → Option (List (List (Int × Int × Unit)) × Int × Unit)
  | 0, _ => none
  | fu + 1, t30 => span_In_b0 nf (fun _ v0 v1 => span_In_l2 nf prog (fun t30 => span_In_l0 nf prog  fu t30) nf v0 v1) prog  (span_In_l0 nf prog  fu) t30
def span_In_f (nf : Nat) (vars : Int) (prog : List (List (Int × Int × Int × Int × Int × Unit) × Int × Int × Int × Unit)) (have' : List (Int × Int × Unit)) : Option (List (List (Int × Int × Unit)) × Int × Unit) := span_In_p nf (fun p0 v0 => span_In_l0 nf p0 nf v0) vars prog have'
noncomputable def span_In_L0 (nf : Nat) : LC (List (List (Int × Int × Unit)) × Int × Unit) := theL (findL span_In_tab (span_In_phi nf) (fun _ F => iter nf F) span_In_keep 0 0 (codeOf Try.f41) (fin span_In_tab [(((Ty.int IntKind.i64).pair ((Ty.int IntKind.i64).pair Ty.unit)).sl.sl, Md.own false (Md.own true (Md.bor false false))), (Ty.int IntKind.i64, Md.bor false true)] (resL ([]) Try.f41)) (fun _ _ => none) (fin span_In_tab [(((Ty.int IntKind.i64).pair ((Ty.int IntKind.i64).pair Ty.unit)).sl.sl, Md.own false (Md.own true (Md.bor false false))), (Ty.int IntKind.i64, Md.bor false true)] (resL ([]) Try.f41)))
def span_In_m0 (prog : List (List (Int × Int × Int × Int × Int × Unit) × Int × Int × Int × Unit)) (t30 : List (List (Int × Int × Unit)) × Bool × Unit) : St := ⟨fresh, [(1, AV.v (((Ty.int IntKind.i64).pair ((Ty.int IntKind.i64).pair ((Ty.int IntKind.i64).pair ((Ty.int IntKind.i64).pair ((Ty.int IntKind.i64).pair Ty.unit))))).sl.pair ((Ty.int IntKind.i64).pair ((Ty.int IntKind.i64).pair ((Ty.int IntKind.i64).pair Ty.unit)))).sl (Md.bor true false) prog), (9, AV.pl 30 30 [Stp.dr]), (29, AV.dead), (30, AV.box 30 500030 (((Ty.int IntKind.i64).pair ((Ty.int IntKind.i64).pair Ty.unit)).sl.sl.pair (Ty.bool.pair Ty.unit)) ((Md.own false (Md.own true (Md.bor false false))).pair ((Md.bor false true).pair (Md.bor false false))) t30)]⟩
noncomputable def span_In_L2 (nf : Nat) (G0 : St → Option (List (List (Int × Int × Unit)) × Int × Unit)) : LC (List (List (Int × Int × Unit)) × Int × Unit) := theL (findL span_In_tab (span_In_phi nf) (fun _ F => iter nf F) span_In_keep 2 0 (span_In_L0 nf ).c (fun st => norm (span_In_keep 0) st G0) (span_In_L0 nf ).Kx (span_In_L0 nf ).Kr)
def span_In_m2 (prog : List (List (Int × Int × Int × Int × Int × Unit) × Int × Int × Int × Unit)) (t302 : List (List (Int × Int × Unit)) × Bool × Unit) (t43 : Int) : St := ⟨fresh, [(1, AV.v (((Ty.int IntKind.i64).pair ((Ty.int IntKind.i64).pair ((Ty.int IntKind.i64).pair ((Ty.int IntKind.i64).pair ((Ty.int IntKind.i64).pair Ty.unit))))).sl.pair ((Ty.int IntKind.i64).pair ((Ty.int IntKind.i64).pair ((Ty.int IntKind.i64).pair Ty.unit)))).sl (Md.bor true false) prog), (9, AV.pl 30 30 [Stp.dr]), (29, AV.dead), (30, AV.box 30 500030 (((Ty.int IntKind.i64).pair ((Ty.int IntKind.i64).pair Ty.unit)).sl.sl.pair (Ty.bool.pair Ty.unit)) ((Md.own false (Md.own true (Md.bor false false))).pair ((Md.bor false true).pair (Md.bor false false))) t302), (41, AV.v (((Ty.int IntKind.i64).pair ((Ty.int IntKind.i64).pair ((Ty.int IntKind.i64).pair ((Ty.int IntKind.i64).pair ((Ty.int IntKind.i64).pair Ty.unit))))).sl.pair ((Ty.int IntKind.i64).pair ((Ty.int IntKind.i64).pair ((Ty.int IntKind.i64).pair Ty.unit)))).sl (Md.bor true false) prog), (42, AV.v (Ty.int IntKind.i64) (Md.bor false true) (↑prog.length : Int)), (43, AV.v (Ty.int IntKind.i64) (Md.bor false true) t43)]⟩
theorem span_In_h2 (nf : Nat) (G0 : St → Option (List (List (Int × Int × Unit)) × Int × Unit)) (prog : List (List (Int × Int × Int × Int × Int × Unit) × Int × Int × Int × Unit)) (fu : Nat) (t302 : List (List (Int × Int × Unit)) × Bool × Unit) (t43 : Int) : iter (fu + 1) (LC.F span_In_tab (span_In_phi nf) (fun _ F => iter nf F) span_In_keep 2 (span_In_L2 nf G0)) (span_In_m2 prog t302 t43) = span_In_b2 nf  prog (fun t30 => G0 (span_In_m0 prog t30)) (fun t302 t43 => iter fu (LC.F span_In_tab (span_In_phi nf) (fun _ F => iter nf F) span_In_keep 2 (span_In_L2 nf G0)) (span_In_m2 prog t302 t43)) t302 t43 := by kernel_rfl
theorem span_In_e2 (nf : Nat) (G0 : St → Option (List (List (Int × Int × Unit)) × Int × Unit)) (prog : List (List (Int × Int × Int × Int × Int × Unit) × Int × Int × Int × Unit)) : ∀ (fu : Nat) (t302 : List (List (Int × Int × Unit)) × Bool × Unit) (t43 : Int), iter fu (LC.F span_In_tab (span_In_phi nf) (fun _ F => iter nf F) span_In_keep 2 (span_In_L2 nf G0)) (span_In_m2 prog t302 t43) = span_In_l2 nf prog (fun t30 => G0 (span_In_m0 prog t30)) fu t302 t43 := by
  intro fu
  induction fu with
  | zero => intros; rfl
  | succ fu ih =>
    intro t302 t43
    rw [span_In_h2 nf G0 prog fu t302 t43]
    simp only [ih]
    rfl
theorem span_In_h0 (nf : Nat)  (prog : List (List (Int × Int × Int × Int × Int × Unit) × Int × Int × Int × Unit)) (fu : Nat) (t30 : List (List (Int × Int × Unit)) × Bool × Unit) : iter (fu + 1) (LC.F span_In_tab (span_In_phi nf) (fun _ F => iter nf F) span_In_keep 0 (span_In_L0 nf )) (span_In_m0 prog t30) = span_In_b0 nf (fun _ v0 v1 => iter nf (LC.F span_In_tab (span_In_phi nf) (fun _ F => iter nf F) span_In_keep 2 (span_In_L2 nf (iter fu (LC.F span_In_tab (span_In_phi nf) (fun _ F => iter nf F) span_In_keep 0 (span_In_L0 nf ))))) (span_In_m2 prog v0 v1)) prog  (fun t30 => iter fu (LC.F span_In_tab (span_In_phi nf) (fun _ F => iter nf F) span_In_keep 0 (span_In_L0 nf )) (span_In_m0 prog t30)) t30 := by kernel_rfl
theorem span_In_e0 (nf : Nat)  (prog : List (List (Int × Int × Int × Int × Int × Unit) × Int × Int × Int × Unit)) : ∀ (fu : Nat) (t30 : List (List (Int × Int × Unit)) × Bool × Unit), iter fu (LC.F span_In_tab (span_In_phi nf) (fun _ F => iter nf F) span_In_keep 0 (span_In_L0 nf )) (span_In_m0 prog t30) = span_In_l0 nf prog  fu t30 := by
  intro fu
  induction fu with
  | zero => intros; rfl
  | succ fu ih =>
    intro t30
    rw [span_In_h0 nf  prog fu t30]
    simp only [ih, span_In_e2]
    rfl
theorem span_In_eq (nf : Nat) (vars : Int) (prog : List (List (Int × Int × Int × Int × Int × Unit) × Int × Int × Int × Unit)) (have' : List (Int × Int × Unit)) : runF span_In_tab (span_In_phi nf) span_In_keep nf [PT.val (Ty.int IntKind.i64) (Md.bor true false), PT.val (((Ty.int IntKind.i64).pair ((Ty.int IntKind.i64).pair ((Ty.int IntKind.i64).pair ((Ty.int IntKind.i64).pair ((Ty.int IntKind.i64).pair Ty.unit))))).sl.pair ((Ty.int IntKind.i64).pair ((Ty.int IntKind.i64).pair ((Ty.int IntKind.i64).pair Ty.unit)))).sl (Md.bor true false), PT.val ((Ty.int IntKind.i64).pair ((Ty.int IntKind.i64).pair Ty.unit)).sl (Md.bor true false)] [(((Ty.int IntKind.i64).pair ((Ty.int IntKind.i64).pair Ty.unit)).sl.sl, Md.own false (Md.own true (Md.bor false false))), (Ty.int IntKind.i64, Md.bor false true)] (resL ([]) Try.f41) (codeOf Try.f41) ⟨vars, prog, have', ()⟩ = span_In_f nf vars prog have' := by
  have h : runF span_In_tab (span_In_phi nf) span_In_keep nf [PT.val (Ty.int IntKind.i64) (Md.bor true false), PT.val (((Ty.int IntKind.i64).pair ((Ty.int IntKind.i64).pair ((Ty.int IntKind.i64).pair ((Ty.int IntKind.i64).pair ((Ty.int IntKind.i64).pair Ty.unit))))).sl.pair ((Ty.int IntKind.i64).pair ((Ty.int IntKind.i64).pair ((Ty.int IntKind.i64).pair Ty.unit)))).sl (Md.bor true false), PT.val ((Ty.int IntKind.i64).pair ((Ty.int IntKind.i64).pair Ty.unit)).sl (Md.bor true false)] [(((Ty.int IntKind.i64).pair ((Ty.int IntKind.i64).pair Ty.unit)).sl.sl, Md.own false (Md.own true (Md.bor false false))), (Ty.int IntKind.i64, Md.bor false true)] (resL ([]) Try.f41) (codeOf Try.f41) ⟨vars, prog, have', ()⟩ = span_In_p nf (fun p0 v0 => iter nf (LC.F span_In_tab (span_In_phi nf) (fun _ F => iter nf F) span_In_keep 0 (span_In_L0 nf)) (span_In_m0 p0 v0)) vars prog have' := by kernel_rfl
  rw [h]
  simp only [span_In_e0]
  rfl
def span_In_F (nf : Nat) (x : denPs [.val (.int .i64) (.bor true false), .val (.sl (.pair (.sl (.pair (.int .i64) (.pair (.int .i64) (.pair (.int .i64) (.pair (.int .i64) (.pair (.int .i64) (.unit))))))) (.pair (.int .i64) (.pair (.int .i64) (.pair (.int .i64) (.unit)))))) (.bor true false), .val (.sl (.pair (.int .i64) (.pair (.int .i64) (.unit)))) (.bor true false)]) : Option (denL [(.sl (.sl (.pair (.int .i64) (.pair (.int .i64) (.unit)))), .own false (.own true (.bor false false))), (.int .i64, .bor false true)]) := span_In_f nf x.1 x.2.1 x.2.2.1
def span_In_C (nf : Nat) : Contract := ⟨[.val (.int .i64) (.bor true false), .val (.sl (.pair (.sl (.pair (.int .i64) (.pair (.int .i64) (.pair (.int .i64) (.pair (.int .i64) (.pair (.int .i64) (.unit))))))) (.pair (.int .i64) (.pair (.int .i64) (.pair (.int .i64) (.unit)))))) (.bor true false), .val (.sl (.pair (.int .i64) (.pair (.int .i64) (.unit)))) (.bor true false)], [(.sl (.sl (.pair (.int .i64) (.pair (.int .i64) (.unit)))), .own false (.own true (.bor false false))), (.int .i64, .bor false true)], span_In_F nf, []⟩
theorem span_In_ok : FnOK Try.prog 41 := ⟨Try.f41, codeOf Try.f41, Try.func41, by kernel_rfl, by kernel_rfl⟩
theorem span_In_holds (nf : Nat) : Contract.Holds Try.prog 41 (span_In_C nf) :=
  fn_holds (Φ := span_In_phi nf) (keep := span_In_keep) (n := nf) ⟨span_In_tabs.1, span_In_tabs.2, (ctx_cons block_Check_ok (block_Check_holds nf) (ctx_cons slices_ContainsFunc__span_In_1_ok (slices_ContainsFunc__span_In_1_holds nf) (ctx_cons span_place_come_ok (span_place_come_holds nf) (ctx_cons span_behind_ok (span_behind_holds nf) ctx_nil)))), mixed, bk_ok bkls rfl⟩ (fn := Try.f41) ⟨Try.func41, by kernel_rfl, by kernel_rfl, by kernel_rfl⟩ (fun x => span_In_eq nf x.1 x.2.1 x.2.2.1)

/-! codemason codemasonref.IsSpan -/
def ref_IsSpan_phi (nf : Nat) : Nat → Option Contract := lookC [(96, ref_Value_C nf)]
def ref_IsSpan_keep : Nat → List Nat := lookK []
def ref_IsSpan_p (nf : Nat)  (s : Int × Int × Unit) : Option (Bool × Unit) :=
  Option.bind (ref_Value_f nf s.fst) fun r =>
  bif r.fst then
    Option.bind (ref_Value_f nf s.snd.fst) fun r2 =>
    bif r2.fst then
      some ((decide (s.fst ≤ s.snd.fst), ()))
    else
      some ((false, ()))
  else
    some ((false, ()))
def ref_IsSpan_f (nf : Nat) (s : Int × Int × Unit) : Option (Bool × Unit) := ref_IsSpan_p nf  s
theorem ref_IsSpan_eq (nf : Nat) (s : Int × Int × Unit) : runF tab (ref_IsSpan_phi nf) ref_IsSpan_keep nf [PT.val ((Ty.int IntKind.i64).pair ((Ty.int IntKind.i64).pair Ty.unit)) (Md.bor true false)] [(Ty.bool, Md.bor false true)] (resL ([]) Try.f42) (codeOf Try.f42) ⟨s, ()⟩ = ref_IsSpan_f nf s := by
  have h : runF tab (ref_IsSpan_phi nf) ref_IsSpan_keep nf [PT.val ((Ty.int IntKind.i64).pair ((Ty.int IntKind.i64).pair Ty.unit)) (Md.bor true false)] [(Ty.bool, Md.bor false true)] (resL ([]) Try.f42) (codeOf Try.f42) ⟨s, ()⟩ = ref_IsSpan_p nf  s := by kernel_rfl
  exact h
def ref_IsSpan_F (nf : Nat) (x : denPs [.val (.pair (.int .i64) (.pair (.int .i64) (.unit))) (.bor true false)]) : Option (denL [(.bool, .bor false true)]) := ref_IsSpan_f nf x.1
def ref_IsSpan_C (nf : Nat) : Contract := ⟨[.val (.pair (.int .i64) (.pair (.int .i64) (.unit))) (.bor true false)], [(.bool, .bor false true)], ref_IsSpan_F nf, []⟩
theorem ref_IsSpan_ok : FnOK Try.prog 42 := ⟨Try.f42, codeOf Try.f42, Try.func42, by kernel_rfl, by kernel_rfl⟩
theorem ref_IsSpan_holds (nf : Nat) : Contract.Holds Try.prog 42 (ref_IsSpan_C nf) :=
  fn_holds (Φ := ref_IsSpan_phi nf) (keep := ref_IsSpan_keep) (n := nf) ⟨tabs.1, tabs.2, (ctx_cons ref_Value_ok (ref_Value_holds nf) ctx_nil), mixed, bk_ok bkls rfl⟩ (fn := Try.f42) ⟨Try.func42, by kernel_rfl, by kernel_rfl, by kernel_rfl⟩ (fun x => ref_IsSpan_eq nf x.1)

/-! codemason codemasonref.SpanLists -/
def ref_SpanLists_phi (nf : Nat) : Nat → Option Contract := lookC []
def ref_SpanLists_keep : Nat → List Nat := lookK [(0, [0, 1, 5])]
def ref_SpanLists_b0 (nf : Nat) (a : List (Int × Int × Unit)) (b : List (Int × Int × Unit)) (g0 : Int → Option (Bool × Unit)) (i : Int) : Option (Bool × Unit) :=
  bif decide (i < (↑a.length : Int)) then
    bif inb i a.length then
      bif inb i b.length then
        bif !((a.getD i.toNat (0, 0, ())).fst == (b.getD i.toNat (0, 0, ())).fst && ((a.getD i.toNat (0, 0, ())).snd.fst == (b.getD i.toNat (0, 0, ())).snd.fst && true)) then
          some ((false, ()))
        else
          g0 (IntKind.i64.wrap (i + 1))
      else
        none
    else
      none
  else
    some ((true, ()))
def ref_SpanLists_p (nf : Nat) (l0 : List (Int × Int × Unit) → List (Int × Int × Unit) → Int → Option (Bool × Unit)) (a : List (Int × Int × Unit)) (b : List (Int × Int × Unit)) : Option (Bool × Unit) :=
  bif (↑a.length : Int) != (↑b.length : Int) then
    some ((false, ()))
  else
    l0 a b 0
def ref_SpanLists_l0 (nf : Nat) (a : List (Int × Int × Unit)) (b : List (Int × Int × Unit)) : Nat → Int → Option (Bool × Unit)
  | 0, _ => none
  | fu + 1, i => ref_SpanLists_b0 nf  a b  (ref_SpanLists_l0 nf a b  fu) i
def ref_SpanLists_f (nf : Nat) (a : List (Int × Int × Unit)) (b : List (Int × Int × Unit)) : Option (Bool × Unit) := ref_SpanLists_p nf (fun p0 p1 v0 => ref_SpanLists_l0 nf p0 p1 nf v0) a b
noncomputable def ref_SpanLists_L0 (nf : Nat) : LC (Bool × Unit) := theL (findL tab (ref_SpanLists_phi nf) (fun _ F => iter nf F) ref_SpanLists_keep 0 0 (codeOf Try.f44) (fin tab [(Ty.bool, Md.bor false true)] (resL ([]) Try.f44)) (fun _ _ => none) (fin tab [(Ty.bool, Md.bor false true)] (resL ([]) Try.f44)))
def ref_SpanLists_m0 (a : List (Int × Int × Unit)) (b : List (Int × Int × Unit)) (i : Int) : St := ⟨fresh, [(0, AV.v ((Ty.int IntKind.i64).pair ((Ty.int IntKind.i64).pair Ty.unit)).sl (Md.bor true false) a), (1, AV.v ((Ty.int IntKind.i64).pair ((Ty.int IntKind.i64).pair Ty.unit)).sl (Md.bor true false) b), (5, AV.v (Ty.int IntKind.i64) (Md.bor false true) i)]⟩
theorem ref_SpanLists_h0 (nf : Nat)  (a : List (Int × Int × Unit)) (b : List (Int × Int × Unit)) (fu : Nat) (i : Int) : iter (fu + 1) (LC.F tab (ref_SpanLists_phi nf) (fun _ F => iter nf F) ref_SpanLists_keep 0 (ref_SpanLists_L0 nf )) (ref_SpanLists_m0 a b i) = ref_SpanLists_b0 nf  a b  (fun i => iter fu (LC.F tab (ref_SpanLists_phi nf) (fun _ F => iter nf F) ref_SpanLists_keep 0 (ref_SpanLists_L0 nf )) (ref_SpanLists_m0 a b i)) i := by kernel_rfl
theorem ref_SpanLists_e0 (nf : Nat)  (a : List (Int × Int × Unit)) (b : List (Int × Int × Unit)) : ∀ (fu : Nat) (i : Int), iter fu (LC.F tab (ref_SpanLists_phi nf) (fun _ F => iter nf F) ref_SpanLists_keep 0 (ref_SpanLists_L0 nf )) (ref_SpanLists_m0 a b i) = ref_SpanLists_l0 nf a b  fu i := by
  intro fu
  induction fu with
  | zero => intros; rfl
  | succ fu ih =>
    intro i
    rw [ref_SpanLists_h0 nf  a b fu i]
    simp only [ih]
    rfl
theorem ref_SpanLists_eq (nf : Nat) (a : List (Int × Int × Unit)) (b : List (Int × Int × Unit)) : runF tab (ref_SpanLists_phi nf) ref_SpanLists_keep nf [PT.val ((Ty.int IntKind.i64).pair ((Ty.int IntKind.i64).pair Ty.unit)).sl (Md.bor true false), PT.val ((Ty.int IntKind.i64).pair ((Ty.int IntKind.i64).pair Ty.unit)).sl (Md.bor true false)] [(Ty.bool, Md.bor false true)] (resL ([]) Try.f44) (codeOf Try.f44) ⟨a, b, ()⟩ = ref_SpanLists_f nf a b := by
  have h : runF tab (ref_SpanLists_phi nf) ref_SpanLists_keep nf [PT.val ((Ty.int IntKind.i64).pair ((Ty.int IntKind.i64).pair Ty.unit)).sl (Md.bor true false), PT.val ((Ty.int IntKind.i64).pair ((Ty.int IntKind.i64).pair Ty.unit)).sl (Md.bor true false)] [(Ty.bool, Md.bor false true)] (resL ([]) Try.f44) (codeOf Try.f44) ⟨a, b, ()⟩ = ref_SpanLists_p nf (fun p0 p1 v0 => iter nf (LC.F tab (ref_SpanLists_phi nf) (fun _ F => iter nf F) ref_SpanLists_keep 0 (ref_SpanLists_L0 nf)) (ref_SpanLists_m0 p0 p1 v0)) a b := by kernel_rfl
  rw [h]
  simp only [ref_SpanLists_e0]
  rfl
def ref_SpanLists_F (nf : Nat) (x : denPs [.val (.sl (.pair (.int .i64) (.pair (.int .i64) (.unit)))) (.bor true false), .val (.sl (.pair (.int .i64) (.pair (.int .i64) (.unit)))) (.bor true false)]) : Option (denL [(.bool, .bor false true)]) := ref_SpanLists_f nf x.1 x.2.1
def ref_SpanLists_C (nf : Nat) : Contract := ⟨[.val (.sl (.pair (.int .i64) (.pair (.int .i64) (.unit)))) (.bor true false), .val (.sl (.pair (.int .i64) (.pair (.int .i64) (.unit)))) (.bor true false)], [(.bool, .bor false true)], ref_SpanLists_F nf, []⟩
theorem ref_SpanLists_ok : FnOK Try.prog 44 := ⟨Try.f44, codeOf Try.f44, Try.func44, by kernel_rfl, by kernel_rfl⟩
theorem ref_SpanLists_holds (nf : Nat) : Contract.Holds Try.prog 44 (ref_SpanLists_C nf) :=
  fn_holds (Φ := ref_SpanLists_phi nf) (keep := ref_SpanLists_keep) (n := nf) ⟨tabs.1, tabs.2, ctx_nil, mixed, bk_ok bkls rfl⟩ (fn := Try.f44) ⟨Try.func44, by kernel_rfl, by kernel_rfl, by kernel_rfl⟩ (fun x => ref_SpanLists_eq nf x.1 x.2.1)

/-! codemason codemasonref.spanPut -/
def ref_spanPut_phi (nf : Nat) : Nat → Option Contract := lookC []
def ref_spanPut_keep : Nat → List Nat := lookK [(0, [1, 5, 6, 14])]
def ref_spanPut_b0 (nf : Nat) (v : List (Int × Int × Unit)) (g0 : List (Int × Int × Unit) → Int → Option (List (Int × Int × Unit) × Unit)) (out : List (Int × Int × Unit)) (k' : Int) : Option (List (Int × Int × Unit) × Unit) :=
  bif decide (k' < (↑v.length : Int)) then
    bif inb k' v.length then
      bif inb k' out.length then
        bif decide ((v.getD k'.toNat (0, 0, ())).fst < (out.getD k'.toNat (0, 0, ())).fst) then
          bif inb k' v.length then
            bif inb k' out.length then
              bif inb k' v.length then
                bif inb k' (out.set k'.toNat ((v.getD k'.toNat (0, 0, ())).fst, (out.getD k'.toNat (0, 0, ())).snd)).length then
                  bif decide ((v.getD k'.toNat (0, 0, ())).snd.fst > ((out.set k'.toNat ((v.getD k'.toNat (0, 0, ())).fst, (out.getD k'.toNat (0, 0, ())).snd)).getD k'.toNat (0, 0, ())).snd.fst) then
                    bif inb k' v.length then
                      bif inb k' (out.set k'.toNat ((v.getD k'.toNat (0, 0, ())).fst, (out.getD k'.toNat (0, 0, ())).snd)).length then
                        g0 ((out.set k'.toNat ((v.getD k'.toNat (0, 0, ())).fst, (out.getD k'.toNat (0, 0, ())).snd)).set k'.toNat (((out.set k'.toNat ((v.getD k'.toNat (0, 0, ())).fst, (out.getD k'.toNat (0, 0, ())).snd)).getD k'.toNat (0, 0, ())).fst, (v.getD k'.toNat (0, 0, ())).snd.fst, ((out.set k'.toNat ((v.getD k'.toNat (0, 0, ())).fst, (out.getD k'.toNat (0, 0, ())).snd)).getD k'.toNat (0, 0, ())).snd.snd)) (IntKind.i64.wrap (k' + 1))
                      else
                        none
                    else
                      none
                  else
                    g0 (out.set k'.toNat ((v.getD k'.toNat (0, 0, ())).fst, (out.getD k'.toNat (0, 0, ())).snd)) (IntKind.i64.wrap (k' + 1))
                else
                  none
              else
                none
            else
              none
          else
            none
        else
          bif inb k' v.length then
            bif inb k' out.length then
              bif decide ((v.getD k'.toNat (0, 0, ())).snd.fst > (out.getD k'.toNat (0, 0, ())).snd.fst) then
                bif inb k' v.length then
                  bif inb k' out.length then
                    g0 (out.set k'.toNat ((out.getD k'.toNat (0, 0, ())).fst, (v.getD k'.toNat (0, 0, ())).snd.fst, (out.getD k'.toNat (0, 0, ())).snd.snd)) (IntKind.i64.wrap (k' + 1))
                  else
                    none
                else
                  none
              else
                g0 out (IntKind.i64.wrap (k' + 1))
            else
              none
          else
            none
      else
        none
    else
      none
  else
    some ((out, ()))
def ref_spanPut_p (nf : Nat) (l0 : List (Int × Int × Unit) → List (Int × Int × Unit) → Int → Option (List (Int × Int × Unit) × Unit)) (l' : List (Int × Int × Unit)) (v : List (Int × Int × Unit)) : Option (List (Int × Int × Unit) × Unit) :=
  bif l'.isEmpty then
    bif bimp false !v.isEmpty && ((List.length ([] : List Unit)) + v.length).ble lim then
      some (([] ++ v, ()))
    else
      none
  else
    bif bimp false !l'.isEmpty && ((List.length ([] : List Unit)) + l'.length).ble lim then
      l0 v ([] ++ l') 0
    else
      none
def ref_spanPut_l0 (nf : Nat) (v : List (Int × Int × Unit)) : Nat → List (Int × Int × Unit) → Int → Option (List (Int × Int × Unit) × Unit)
  | 0, _, _ => none
  | fu + 1, out, k' => ref_spanPut_b0 nf  v  (ref_spanPut_l0 nf v  fu) out k'
def ref_spanPut_f (nf : Nat) (l' : List (Int × Int × Unit)) (v : List (Int × Int × Unit)) : Option (List (Int × Int × Unit) × Unit) := ref_spanPut_p nf (fun p0 v0 v1 => ref_spanPut_l0 nf p0 nf v0 v1) l' v
noncomputable def ref_spanPut_L0 (nf : Nat) : LC (List (Int × Int × Unit) × Unit) := theL (findL tab (ref_spanPut_phi nf) (fun _ F => iter nf F) ref_spanPut_keep 0 0 (codeOf Try.f126) (fin tab [(((Ty.int IntKind.i64).pair ((Ty.int IntKind.i64).pair Ty.unit)).sl, Md.own false (Md.bor false false))] (resL ([]) Try.f126)) (fun _ _ => none) (fin tab [(((Ty.int IntKind.i64).pair ((Ty.int IntKind.i64).pair Ty.unit)).sl, Md.own false (Md.bor false false))] (resL ([]) Try.f126)))
def ref_spanPut_m0 (v : List (Int × Int × Unit)) (out : List (Int × Int × Unit)) (k' : Int) : St := ⟨fresh, [(1, AV.v ((Ty.int IntKind.i64).pair ((Ty.int IntKind.i64).pair Ty.unit)).sl (Md.bor true false) v), (5, AV.ow 500005 ((Ty.int IntKind.i64).pair ((Ty.int IntKind.i64).pair Ty.unit)).sl (Md.own false (Md.bor false false)) out), (6, AV.v (Ty.int IntKind.i64) (Md.bor false true) k'), (14, AV.dead)]⟩
theorem ref_spanPut_h0 (nf : Nat)  (v : List (Int × Int × Unit)) (fu : Nat) (out : List (Int × Int × Unit)) (k' : Int) : iter (fu + 1) (LC.F tab (ref_spanPut_phi nf) (fun _ F => iter nf F) ref_spanPut_keep 0 (ref_spanPut_L0 nf )) (ref_spanPut_m0 v out k') = ref_spanPut_b0 nf  v  (fun out k' => iter fu (LC.F tab (ref_spanPut_phi nf) (fun _ F => iter nf F) ref_spanPut_keep 0 (ref_spanPut_L0 nf )) (ref_spanPut_m0 v out k')) out k' := by kernel_rfl
theorem ref_spanPut_e0 (nf : Nat)  (v : List (Int × Int × Unit)) : ∀ (fu : Nat) (out : List (Int × Int × Unit)) (k' : Int), iter fu (LC.F tab (ref_spanPut_phi nf) (fun _ F => iter nf F) ref_spanPut_keep 0 (ref_spanPut_L0 nf )) (ref_spanPut_m0 v out k') = ref_spanPut_l0 nf v  fu out k' := by
  intro fu
  induction fu with
  | zero => intros; rfl
  | succ fu ih =>
    intro out k'
    rw [ref_spanPut_h0 nf  v fu out k']
    simp only [ih]
    rfl
theorem ref_spanPut_eq (nf : Nat) (l' : List (Int × Int × Unit)) (v : List (Int × Int × Unit)) : runF tab (ref_spanPut_phi nf) ref_spanPut_keep nf [PT.val ((Ty.int IntKind.i64).pair ((Ty.int IntKind.i64).pair Ty.unit)).sl (Md.bor true true), PT.val ((Ty.int IntKind.i64).pair ((Ty.int IntKind.i64).pair Ty.unit)).sl (Md.bor true false)] [(((Ty.int IntKind.i64).pair ((Ty.int IntKind.i64).pair Ty.unit)).sl, Md.own false (Md.bor false false))] (resL ([]) Try.f126) (codeOf Try.f126) ⟨l', v, ()⟩ = ref_spanPut_f nf l' v := by
  have h : runF tab (ref_spanPut_phi nf) ref_spanPut_keep nf [PT.val ((Ty.int IntKind.i64).pair ((Ty.int IntKind.i64).pair Ty.unit)).sl (Md.bor true true), PT.val ((Ty.int IntKind.i64).pair ((Ty.int IntKind.i64).pair Ty.unit)).sl (Md.bor true false)] [(((Ty.int IntKind.i64).pair ((Ty.int IntKind.i64).pair Ty.unit)).sl, Md.own false (Md.bor false false))] (resL ([]) Try.f126) (codeOf Try.f126) ⟨l', v, ()⟩ = ref_spanPut_p nf (fun p0 v0 v1 => iter nf (LC.F tab (ref_spanPut_phi nf) (fun _ F => iter nf F) ref_spanPut_keep 0 (ref_spanPut_L0 nf)) (ref_spanPut_m0 p0 v0 v1)) l' v := by kernel_rfl
  rw [h]
  simp only [ref_spanPut_e0]
  rfl
def ref_spanPut_F (nf : Nat) (x : denPs [.val (.sl (.pair (.int .i64) (.pair (.int .i64) (.unit)))) (.bor true true), .val (.sl (.pair (.int .i64) (.pair (.int .i64) (.unit)))) (.bor true false)]) : Option (denL [(.sl (.pair (.int .i64) (.pair (.int .i64) (.unit))), .own false (.bor false false))]) := ref_spanPut_f nf x.1 x.2.1
def ref_spanPut_C (nf : Nat) : Contract := ⟨[.val (.sl (.pair (.int .i64) (.pair (.int .i64) (.unit)))) (.bor true true), .val (.sl (.pair (.int .i64) (.pair (.int .i64) (.unit)))) (.bor true false)], [(.sl (.pair (.int .i64) (.pair (.int .i64) (.unit))), .own false (.bor false false))], ref_spanPut_F nf, []⟩
theorem ref_spanPut_ok : FnOK Try.prog 126 := ⟨Try.f126, codeOf Try.f126, Try.func126, by kernel_rfl, by kernel_rfl⟩
theorem ref_spanPut_holds (nf : Nat) : Contract.Holds Try.prog 126 (ref_spanPut_C nf) :=
  fn_holds (Φ := ref_spanPut_phi nf) (keep := ref_spanPut_keep) (n := nf) ⟨tabs.1, tabs.2, ctx_nil, mixed, bk_ok bkls rfl⟩ (fn := Try.f126) ⟨Try.func126, by kernel_rfl, by kernel_rfl, by kernel_rfl⟩ (fun x => ref_spanPut_eq nf x.1 x.2.1)

/-! codemason codemasonref.SpanDo -/
def ref_SpanDo_phi (nf : Nat) : Nat → Option Contract := lookC [(114, ref_Op_C nf)]
def ref_SpanDo_keep : Nat → List Nat := lookK [(2, [0, 1, 2, 4, 5, 6, 7, 8, 9]), (0, [0, 1, 2, 4, 5, 6, 7, 8])]
def ref_SpanDo_b0 (nf : Nat) (l2 : Int → Int × Int × Unit → Int × Int × Unit → Int → Int × Int × Unit → Int × Int × Unit → Int × Int × Unit → Int × Int × Unit → Int → Option ((Int × Int × Unit) × Unit)) (op : Int) (a : Int × Int × Unit) (b : Int × Int × Unit) (g0 : Int × Int × Unit → Int × Int × Unit → Int × Int × Unit → Int × Int × Unit → Int → Option ((Int × Int × Unit) × Unit)) (a2 : Int × Int × Unit) (b2 : Int × Int × Unit) (t6 : Int × Int × Unit) (out : Int × Int × Unit) (x : Int) : Option ((Int × Int × Unit) × Unit) :=
  bif decide (x ≤ a2.snd.fst) then
    l2 op a b x a2 b2 t6 out b2.fst
  else
    some ((out, ()))
def ref_SpanDo_b2 (nf : Nat) (op : Int) (a : Int × Int × Unit) (b : Int × Int × Unit) (x : Int) (g0 : Int × Int × Unit → Int × Int × Unit → Int × Int × Unit → Int × Int × Unit → Int → Option ((Int × Int × Unit) × Unit)) (g2 : Int × Int × Unit → Int × Int × Unit → Int × Int × Unit → Int × Int × Unit → Int → Option ((Int × Int × Unit) × Unit)) (a3 : Int × Int × Unit) (b3 : Int × Int × Unit) (t62 : Int × Int × Unit) (out2 : Int × Int × Unit) (y : Int) : Option ((Int × Int × Unit) × Unit) :=
  bif decide (y ≤ b3.snd.fst) then
    Option.bind (ref_Op_f nf op x y) fun r =>
    bif decide (r.fst < out2.fst) then
      bif decide (r.fst > out2.snd.fst) then
        bif r.fst == 0 then
          bif r.fst == 255 then
            some (((r.fst, r.fst, out2.snd.snd), ()))
          else
            g2 a3 b3 t62 ((r.fst, r.fst, out2.snd.snd)) (IntKind.i64.wrap (y + 1))
        else
          g2 a3 b3 t62 ((r.fst, r.fst, out2.snd.snd)) (IntKind.i64.wrap (y + 1))
      else
        bif r.fst == 0 then
          bif out2.snd.fst == 255 then
            some (((r.fst, out2.snd), ()))
          else
            g2 a3 b3 t62 ((r.fst, out2.snd)) (IntKind.i64.wrap (y + 1))
        else
          g2 a3 b3 t62 ((r.fst, out2.snd)) (IntKind.i64.wrap (y + 1))
    else
      bif decide (r.fst > out2.snd.fst) then
        bif out2.fst == 0 then
          bif r.fst == 255 then
            some (((out2.fst, r.fst, out2.snd.snd), ()))
          else
            g2 a3 b3 t62 ((out2.fst, r.fst, out2.snd.snd)) (IntKind.i64.wrap (y + 1))
        else
          g2 a3 b3 t62 ((out2.fst, r.fst, out2.snd.snd)) (IntKind.i64.wrap (y + 1))
      else
        bif out2.fst == 0 then
          bif out2.snd.fst == 255 then
            some ((out2, ()))
          else
            g2 a3 b3 t62 out2 (IntKind.i64.wrap (y + 1))
        else
          g2 a3 b3 t62 out2 (IntKind.i64.wrap (y + 1))
  else
    g0 a3 b3 t62 out2 (IntKind.i64.wrap (x + 1))
def ref_SpanDo_p (nf : Nat) (l0 : Int → Int × Int × Unit → Int × Int × Unit → Int × Int × Unit → Int × Int × Unit → Int × Int × Unit → Int × Int × Unit → Int → Option ((Int × Int × Unit) × Unit)) (op : Int) (a : Int × Int × Unit) (b : Int × Int × Unit) : Option ((Int × Int × Unit) × Unit) :=
  l0 op a b a b ((0, 0, ())) ((255, 0, ())) a.fst
def ref_SpanDo_l2 (nf : Nat) (op : Int) (a : Int × Int × Unit) (b : Int × Int × Unit) (x : Int) (g0 : Int × Int × Unit → Int × Int × Unit → Int × Int × Unit → Int × Int × Unit → Int → Option ((Int × Int × Unit) × Unit)) : Nat → Int × Int × Unit → Int × Int × Unit → Int × Int × Unit → Int × Int × Unit → Int → Option ((Int × Int × Unit) × Unit)
  | 0, _, _, _, _, _ => none
  | fu + 1, a3, b3, t62, out2, y => ref_SpanDo_b2 nf  op a b x g0 (ref_SpanDo_l2 nf op a b x g0 fu) a3 b3 t62 out2 y
def ref_SpanDo_l0 (nf : Nat) (op : Int) (a : Int × Int × Unit) (b : Int × Int × Unit) : Nat → Int × Int × Unit → Int × Int × Unit → Int × Int × Unit → Int × Int × Unit → Int → Option ((Int × Int × Unit) × Unit)
  | 0, _, _, _, _, _ => none
  | fu + 1, a2, b2, t6, out, x => ref_SpanDo_b0 nf (fun _ _ _ p3 v0 v1 v2 v3 v4 => ref_SpanDo_l2 nf op a b p3 (fun a2 b2 t6 out x => ref_SpanDo_l0 nf op a b  fu a2 b2 t6 out x) nf v0 v1 v2 v3 v4) op a b  (ref_SpanDo_l0 nf op a b  fu) a2 b2 t6 out x
def ref_SpanDo_f (nf : Nat) (op : Int) (a : Int × Int × Unit) (b : Int × Int × Unit) : Option ((Int × Int × Unit) × Unit) := ref_SpanDo_p nf (fun p0 p1 p2 v0 v1 v2 v3 v4 => ref_SpanDo_l0 nf p0 p1 p2 nf v0 v1 v2 v3 v4) op a b
noncomputable def ref_SpanDo_L0 (nf : Nat) : LC ((Int × Int × Unit) × Unit) := theL (findL tab (ref_SpanDo_phi nf) (fun _ F => iter nf F) ref_SpanDo_keep 0 0 (codeOf Try.f140) (fin tab [((Ty.int IntKind.i64).pair ((Ty.int IntKind.i64).pair Ty.unit), Md.bor false true)] (resL ([]) Try.f140)) (fun _ _ => none) (fin tab [((Ty.int IntKind.i64).pair ((Ty.int IntKind.i64).pair Ty.unit), Md.bor false true)] (resL ([]) Try.f140)))
def ref_SpanDo_m0 (op : Int) (a : Int × Int × Unit) (b : Int × Int × Unit) (a2 : Int × Int × Unit) (b2 : Int × Int × Unit) (t6 : Int × Int × Unit) (out : Int × Int × Unit) (x : Int) : St := ⟨fresh, [(0, AV.v (Ty.int IntKind.i64) (Md.bor false true) op), (1, AV.v ((Ty.int IntKind.i64).pair ((Ty.int IntKind.i64).pair Ty.unit)) (Md.bor true false) a), (2, AV.v ((Ty.int IntKind.i64).pair ((Ty.int IntKind.i64).pair Ty.unit)) (Md.bor true false) b), (4, AV.box 4 500004 ((Ty.int IntKind.i64).pair ((Ty.int IntKind.i64).pair Ty.unit)) (Md.bor true false) a2), (5, AV.box 5 500005 ((Ty.int IntKind.i64).pair ((Ty.int IntKind.i64).pair Ty.unit)) (Md.bor true false) b2), (6, AV.box 6 500006 ((Ty.int IntKind.i64).pair ((Ty.int IntKind.i64).pair Ty.unit)) ((Md.bor false true).pair ((Md.bor false true).pair (Md.bor false true))) t6), (7, AV.box 7 500007 ((Ty.int IntKind.i64).pair ((Ty.int IntKind.i64).pair Ty.unit)) ((Md.bor false true).pair ((Md.bor false true).pair (Md.bor false false))) out), (8, AV.v (Ty.int IntKind.i64) (Md.bor false true) x)]⟩
noncomputable def ref_SpanDo_L2 (nf : Nat) (G0 : St → Option ((Int × Int × Unit) × Unit)) : LC ((Int × Int × Unit) × Unit) := theL (findL tab (ref_SpanDo_phi nf) (fun _ F => iter nf F) ref_SpanDo_keep 2 0 (ref_SpanDo_L0 nf ).c (fun st => norm (ref_SpanDo_keep 0) st G0) (ref_SpanDo_L0 nf ).Kx (ref_SpanDo_L0 nf ).Kr)
def ref_SpanDo_m2 (op : Int) (a : Int × Int × Unit) (b : Int × Int × Unit) (x : Int) (a3 : Int × Int × Unit) (b3 : Int × Int × Unit) (t62 : Int × Int × Unit) (out2 : Int × Int × Unit) (y : Int) : St := ⟨fresh, [(0, AV.v (Ty.int IntKind.i64) (Md.bor false true) op), (1, AV.v ((Ty.int IntKind.i64).pair ((Ty.int IntKind.i64).pair Ty.unit)) (Md.bor true false) a), (2, AV.v ((Ty.int IntKind.i64).pair ((Ty.int IntKind.i64).pair Ty.unit)) (Md.bor true false) b), (4, AV.box 4 500004 ((Ty.int IntKind.i64).pair ((Ty.int IntKind.i64).pair Ty.unit)) (Md.bor true false) a3), (5, AV.box 5 500005 ((Ty.int IntKind.i64).pair ((Ty.int IntKind.i64).pair Ty.unit)) (Md.bor true false) b3), (6, AV.box 6 500006 ((Ty.int IntKind.i64).pair ((Ty.int IntKind.i64).pair Ty.unit)) ((Md.bor false true).pair ((Md.bor false true).pair (Md.bor false true))) t62), (7, AV.box 7 500007 ((Ty.int IntKind.i64).pair ((Ty.int IntKind.i64).pair Ty.unit)) ((Md.bor false true).pair ((Md.bor false true).pair (Md.bor false false))) out2), (8, AV.v (Ty.int IntKind.i64) (Md.bor false true) x), (9, AV.v (Ty.int IntKind.i64) (Md.bor false true) y)]⟩
theorem ref_SpanDo_h2 (nf : Nat) (G0 : St → Option ((Int × Int × Unit) × Unit)) (op : Int) (a : Int × Int × Unit) (b : Int × Int × Unit) (x : Int) (fu : Nat) (a3 : Int × Int × Unit) (b3 : Int × Int × Unit) (t62 : Int × Int × Unit) (out2 : Int × Int × Unit) (y : Int) : iter (fu + 1) (LC.F tab (ref_SpanDo_phi nf) (fun _ F => iter nf F) ref_SpanDo_keep 2 (ref_SpanDo_L2 nf G0)) (ref_SpanDo_m2 op a b x a3 b3 t62 out2 y) = ref_SpanDo_b2 nf  op a b x (fun a2 b2 t6 out x => G0 (ref_SpanDo_m0 op a b a2 b2 t6 out x)) (fun a3 b3 t62 out2 y => iter fu (LC.F tab (ref_SpanDo_phi nf) (fun _ F => iter nf F) ref_SpanDo_keep 2 (ref_SpanDo_L2 nf G0)) (ref_SpanDo_m2 op a b x a3 b3 t62 out2 y)) a3 b3 t62 out2 y := by kernel_rfl
theorem ref_SpanDo_e2 (nf : Nat) (G0 : St → Option ((Int × Int × Unit) × Unit)) (op : Int) (a : Int × Int × Unit) (b : Int × Int × Unit) (x : Int) : ∀ (fu : Nat) (a3 : Int × Int × Unit) (b3 : Int × Int × Unit) (t62 : Int × Int × Unit) (out2 : Int × Int × Unit) (y : Int), iter fu (LC.F tab (ref_SpanDo_phi nf) (fun _ F => iter nf F) ref_SpanDo_keep 2 (ref_SpanDo_L2 nf G0)) (ref_SpanDo_m2 op a b x a3 b3 t62 out2 y) = ref_SpanDo_l2 nf op a b x (fun a2 b2 t6 out x => G0 (ref_SpanDo_m0 op a b a2 b2 t6 out x)) fu a3 b3 t62 out2 y := by
  intro fu
  induction fu with
  | zero => intros; rfl
  | succ fu ih =>
    intro a3 b3 t62 out2 y
    rw [ref_SpanDo_h2 nf G0 op a b x fu a3 b3 t62 out2 y]
    simp only [ih]
    rfl
theorem ref_SpanDo_h0 (nf : Nat)  (op : Int) (a : Int × Int × Unit) (b : Int × Int × Unit) (fu : Nat) (a2 : Int × Int × Unit) (b2 : Int × Int × Unit) (t6 : Int × Int × Unit) (out : Int × Int × Unit) (x : Int) : iter (fu + 1) (LC.F tab (ref_SpanDo_phi nf) (fun _ F => iter nf F) ref_SpanDo_keep 0 (ref_SpanDo_L0 nf )) (ref_SpanDo_m0 op a b a2 b2 t6 out x) = ref_SpanDo_b0 nf (fun _ _ _ p3 v0 v1 v2 v3 v4 => iter nf (LC.F tab (ref_SpanDo_phi nf) (fun _ F => iter nf F) ref_SpanDo_keep 2 (ref_SpanDo_L2 nf (iter fu (LC.F tab (ref_SpanDo_phi nf) (fun _ F => iter nf F) ref_SpanDo_keep 0 (ref_SpanDo_L0 nf ))))) (ref_SpanDo_m2 op a b p3 v0 v1 v2 v3 v4)) op a b  (fun a2 b2 t6 out x => iter fu (LC.F tab (ref_SpanDo_phi nf) (fun _ F => iter nf F) ref_SpanDo_keep 0 (ref_SpanDo_L0 nf )) (ref_SpanDo_m0 op a b a2 b2 t6 out x)) a2 b2 t6 out x := by kernel_rfl
theorem ref_SpanDo_e0 (nf : Nat)  (op : Int) (a : Int × Int × Unit) (b : Int × Int × Unit) : ∀ (fu : Nat) (a2 : Int × Int × Unit) (b2 : Int × Int × Unit) (t6 : Int × Int × Unit) (out : Int × Int × Unit) (x : Int), iter fu (LC.F tab (ref_SpanDo_phi nf) (fun _ F => iter nf F) ref_SpanDo_keep 0 (ref_SpanDo_L0 nf )) (ref_SpanDo_m0 op a b a2 b2 t6 out x) = ref_SpanDo_l0 nf op a b  fu a2 b2 t6 out x := by
  intro fu
  induction fu with
  | zero => intros; rfl
  | succ fu ih =>
    intro a2 b2 t6 out x
    rw [ref_SpanDo_h0 nf  op a b fu a2 b2 t6 out x]
    simp only [ih, ref_SpanDo_e2]
    rfl
theorem ref_SpanDo_eq (nf : Nat) (op : Int) (a : Int × Int × Unit) (b : Int × Int × Unit) : runF tab (ref_SpanDo_phi nf) ref_SpanDo_keep nf [PT.val (Ty.int IntKind.i64) (Md.bor true false), PT.val ((Ty.int IntKind.i64).pair ((Ty.int IntKind.i64).pair Ty.unit)) (Md.bor true false), PT.val ((Ty.int IntKind.i64).pair ((Ty.int IntKind.i64).pair Ty.unit)) (Md.bor true false)] [((Ty.int IntKind.i64).pair ((Ty.int IntKind.i64).pair Ty.unit), Md.bor false true)] (resL ([]) Try.f140) (codeOf Try.f140) ⟨op, a, b, ()⟩ = ref_SpanDo_f nf op a b := by
  have h : runF tab (ref_SpanDo_phi nf) ref_SpanDo_keep nf [PT.val (Ty.int IntKind.i64) (Md.bor true false), PT.val ((Ty.int IntKind.i64).pair ((Ty.int IntKind.i64).pair Ty.unit)) (Md.bor true false), PT.val ((Ty.int IntKind.i64).pair ((Ty.int IntKind.i64).pair Ty.unit)) (Md.bor true false)] [((Ty.int IntKind.i64).pair ((Ty.int IntKind.i64).pair Ty.unit), Md.bor false true)] (resL ([]) Try.f140) (codeOf Try.f140) ⟨op, a, b, ()⟩ = ref_SpanDo_p nf (fun p0 p1 p2 v0 v1 v2 v3 v4 => iter nf (LC.F tab (ref_SpanDo_phi nf) (fun _ F => iter nf F) ref_SpanDo_keep 0 (ref_SpanDo_L0 nf)) (ref_SpanDo_m0 p0 p1 p2 v0 v1 v2 v3 v4)) op a b := by kernel_rfl
  rw [h]
  simp only [ref_SpanDo_e0]
  rfl
def ref_SpanDo_F (nf : Nat) (x : denPs [.val (.int .i64) (.bor true false), .val (.pair (.int .i64) (.pair (.int .i64) (.unit))) (.bor true false), .val (.pair (.int .i64) (.pair (.int .i64) (.unit))) (.bor true false)]) : Option (denL [(.pair (.int .i64) (.pair (.int .i64) (.unit)), .bor false true)]) := ref_SpanDo_f nf x.1 x.2.1 x.2.2.1
def ref_SpanDo_C (nf : Nat) : Contract := ⟨[.val (.int .i64) (.bor true false), .val (.pair (.int .i64) (.pair (.int .i64) (.unit))) (.bor true false), .val (.pair (.int .i64) (.pair (.int .i64) (.unit))) (.bor true false)], [(.pair (.int .i64) (.pair (.int .i64) (.unit)), .bor false true)], ref_SpanDo_F nf, []⟩
theorem ref_SpanDo_ok : FnOK Try.prog 140 := ⟨Try.f140, codeOf Try.f140, Try.func140, by kernel_rfl, by kernel_rfl⟩
theorem ref_SpanDo_holds (nf : Nat) : Contract.Holds Try.prog 140 (ref_SpanDo_C nf) :=
  fn_holds (Φ := ref_SpanDo_phi nf) (keep := ref_SpanDo_keep) (n := nf) ⟨tabs.1, tabs.2, (ctx_cons ref_Op_ok (ref_Op_holds nf) ctx_nil), mixed, bk_ok bkls rfl⟩ (fn := Try.f140) ⟨Try.func140, by kernel_rfl, by kernel_rfl, by kernel_rfl⟩ (fun x => ref_SpanDo_eq nf x.1 x.2.1 x.2.2.1)

/-! codemason codemasonref.SpanSteps -/
def ref_SpanSteps_phi (nf : Nat) : Nat → Option Contract := lookC [(140, ref_SpanDo_C nf)]
def ref_SpanSteps_keep : Nat → List Nat := lookK [(0, [0, 1, 10, 11, 12, 13])]
def ref_SpanSteps_b0 (nf : Nat) (code' : List (Int × Int × Int × Int × Int × Unit)) (g0 : List (Int × Int × Unit) → Int → Option (List (Int × Int × Unit) × Unit)) (v2 : List (Int × Int × Unit)) (t13 : Int) : Option (List (Int × Int × Unit) × Unit) :=
  bif decide (t13 < (↑code'.length : Int)) then
    bif inb t13 code'.length then
      bif (code'.getD t13.toNat (0, 0, 0, 0, 0, ())).fst == 2 then
        bif inb (code'.getD t13.toNat (0, 0, 0, 0, 0, ())).snd.snd.snd.snd.fst v2.length then
          bif decide ((code'.getD t13.toNat (0, 0, 0, 0, 0, ())).fst ≥ 3) then
            bif inb (code'.getD t13.toNat (0, 0, 0, 0, 0, ())).snd.snd.fst v2.length then
              bif inb (code'.getD t13.toNat (0, 0, 0, 0, 0, ())).snd.snd.snd.fst v2.length then
                Option.bind (ref_SpanDo_f nf ((code'.getD t13.toNat (0, 0, 0, 0, 0, ())).fst) (v2.getD (Int.toNat (code'.getD t13.toNat (0, 0, 0, 0, 0, ())).snd.snd.fst) (0, 0, ())) (v2.getD (Int.toNat (code'.getD t13.toNat (0, 0, 0, 0, 0, ())).snd.snd.snd.fst) (0, 0, ()))) fun r =>
                bif inb (code'.getD t13.toNat (0, 0, 0, 0, 0, ())).snd.fst v2.length then
                  g0 (v2.set (Int.toNat (code'.getD t13.toNat (0, 0, 0, 0, 0, ())).snd.fst) r.fst) (IntKind.i64.wrap (t13 + 1))
                else
                  none
              else
                none
            else
              none
          else
            bif inb (code'.getD t13.toNat (0, 0, 0, 0, 0, ())).snd.fst v2.length then
              g0 (v2.set (Int.toNat (code'.getD t13.toNat (0, 0, 0, 0, 0, ())).snd.fst) (v2.getD (Int.toNat (code'.getD t13.toNat (0, 0, 0, 0, 0, ())).snd.snd.snd.snd.fst) (0, 0, ()))) (IntKind.i64.wrap (t13 + 1))
            else
              none
        else
          none
      else
        bif decide ((code'.getD t13.toNat (0, 0, 0, 0, 0, ())).fst ≥ 3) then
          bif inb (code'.getD t13.toNat (0, 0, 0, 0, 0, ())).snd.snd.fst v2.length then
            bif inb (code'.getD t13.toNat (0, 0, 0, 0, 0, ())).snd.snd.snd.fst v2.length then
              Option.bind (ref_SpanDo_f nf ((code'.getD t13.toNat (0, 0, 0, 0, 0, ())).fst) (v2.getD (Int.toNat (code'.getD t13.toNat (0, 0, 0, 0, 0, ())).snd.snd.fst) (0, 0, ())) (v2.getD (Int.toNat (code'.getD t13.toNat (0, 0, 0, 0, 0, ())).snd.snd.snd.fst) (0, 0, ()))) fun r2 =>
              bif inb (code'.getD t13.toNat (0, 0, 0, 0, 0, ())).snd.fst v2.length then
                g0 (v2.set (Int.toNat (code'.getD t13.toNat (0, 0, 0, 0, 0, ())).snd.fst) r2.fst) (IntKind.i64.wrap (t13 + 1))
              else
                none
            else
              none
          else
            none
        else
          bif inb (code'.getD t13.toNat (0, 0, 0, 0, 0, ())).snd.fst v2.length then
            g0 (v2.set (Int.toNat (code'.getD t13.toNat (0, 0, 0, 0, 0, ())).snd.fst) ((code'.getD t13.toNat (0, 0, 0, 0, 0, ())).snd.snd.snd.snd.fst, (code'.getD t13.toNat (0, 0, 0, 0, 0, ())).snd.snd.snd.snd.fst, ())) (IntKind.i64.wrap (t13 + 1))
          else
            none
    else
      none
  else
    some ((v2, ()))
def ref_SpanSteps_p (nf : Nat) (l0 : List (Int × Int × Int × Int × Int × Unit) → List (Int × Int × Unit) → Int → Option (List (Int × Int × Unit) × Unit)) (code' : List (Int × Int × Int × Int × Int × Unit)) (v : List (Int × Int × Unit)) : Option (List (Int × Int × Unit) × Unit) :=
  bif bimp false !v.isEmpty && ((List.length ([] : List Unit)) + v.length).ble lim then
    l0 code' ([] ++ v) 0
  else
    none
def ref_SpanSteps_l0 (nf : Nat) (code' : List (Int × Int × Int × Int × Int × Unit)) : Nat → List (Int × Int × Unit) → Int → Option (List (Int × Int × Unit) × Unit)
  | 0, _, _ => none
  | fu + 1, v2, t13 => ref_SpanSteps_b0 nf  code'  (ref_SpanSteps_l0 nf code'  fu) v2 t13
def ref_SpanSteps_f (nf : Nat) (code' : List (Int × Int × Int × Int × Int × Unit)) (v : List (Int × Int × Unit)) : Option (List (Int × Int × Unit) × Unit) := ref_SpanSteps_p nf (fun p0 v0 v1 => ref_SpanSteps_l0 nf p0 nf v0 v1) code' v
noncomputable def ref_SpanSteps_L0 (nf : Nat) : LC (List (Int × Int × Unit) × Unit) := theL (findL tab (ref_SpanSteps_phi nf) (fun _ F => iter nf F) ref_SpanSteps_keep 0 0 (codeOf Try.f127) (fin tab [(((Ty.int IntKind.i64).pair ((Ty.int IntKind.i64).pair Ty.unit)).sl, Md.own false (Md.bor false false))] (resL ([]) Try.f127)) (fun _ _ => none) (fin tab [(((Ty.int IntKind.i64).pair ((Ty.int IntKind.i64).pair Ty.unit)).sl, Md.own false (Md.bor false false))] (resL ([]) Try.f127)))
def ref_SpanSteps_m0 (code' : List (Int × Int × Int × Int × Int × Unit)) (v2 : List (Int × Int × Unit)) (t13 : Int) : St := ⟨fresh, [(0, AV.v ((Ty.int IntKind.i64).pair ((Ty.int IntKind.i64).pair ((Ty.int IntKind.i64).pair ((Ty.int IntKind.i64).pair ((Ty.int IntKind.i64).pair Ty.unit))))).sl (Md.bor true false) code'), (1, AV.ow 500001 ((Ty.int IntKind.i64).pair ((Ty.int IntKind.i64).pair Ty.unit)).sl (Md.own false (Md.bor false false)) v2), (10, AV.dead), (11, AV.v ((Ty.int IntKind.i64).pair ((Ty.int IntKind.i64).pair ((Ty.int IntKind.i64).pair ((Ty.int IntKind.i64).pair ((Ty.int IntKind.i64).pair Ty.unit))))).sl (Md.bor true false) code'), (12, AV.v (Ty.int IntKind.i64) (Md.bor false true) (↑code'.length : Int)), (13, AV.v (Ty.int IntKind.i64) (Md.bor false true) t13)]⟩
theorem ref_SpanSteps_h0 (nf : Nat)  (code' : List (Int × Int × Int × Int × Int × Unit)) (fu : Nat) (v2 : List (Int × Int × Unit)) (t13 : Int) : iter (fu + 1) (LC.F tab (ref_SpanSteps_phi nf) (fun _ F => iter nf F) ref_SpanSteps_keep 0 (ref_SpanSteps_L0 nf )) (ref_SpanSteps_m0 code' v2 t13) = ref_SpanSteps_b0 nf  code'  (fun v2 t13 => iter fu (LC.F tab (ref_SpanSteps_phi nf) (fun _ F => iter nf F) ref_SpanSteps_keep 0 (ref_SpanSteps_L0 nf )) (ref_SpanSteps_m0 code' v2 t13)) v2 t13 := by kernel_rfl
theorem ref_SpanSteps_e0 (nf : Nat)  (code' : List (Int × Int × Int × Int × Int × Unit)) : ∀ (fu : Nat) (v2 : List (Int × Int × Unit)) (t13 : Int), iter fu (LC.F tab (ref_SpanSteps_phi nf) (fun _ F => iter nf F) ref_SpanSteps_keep 0 (ref_SpanSteps_L0 nf )) (ref_SpanSteps_m0 code' v2 t13) = ref_SpanSteps_l0 nf code'  fu v2 t13 := by
  intro fu
  induction fu with
  | zero => intros; rfl
  | succ fu ih =>
    intro v2 t13
    rw [ref_SpanSteps_h0 nf  code' fu v2 t13]
    simp only [ih]
    rfl
theorem ref_SpanSteps_eq (nf : Nat) (code' : List (Int × Int × Int × Int × Int × Unit)) (v : List (Int × Int × Unit)) : runF tab (ref_SpanSteps_phi nf) ref_SpanSteps_keep nf [PT.val ((Ty.int IntKind.i64).pair ((Ty.int IntKind.i64).pair ((Ty.int IntKind.i64).pair ((Ty.int IntKind.i64).pair ((Ty.int IntKind.i64).pair Ty.unit))))).sl (Md.bor true false), PT.val ((Ty.int IntKind.i64).pair ((Ty.int IntKind.i64).pair Ty.unit)).sl (Md.bor true false)] [(((Ty.int IntKind.i64).pair ((Ty.int IntKind.i64).pair Ty.unit)).sl, Md.own false (Md.bor false false))] (resL ([]) Try.f127) (codeOf Try.f127) ⟨code', v, ()⟩ = ref_SpanSteps_f nf code' v := by
  have h : runF tab (ref_SpanSteps_phi nf) ref_SpanSteps_keep nf [PT.val ((Ty.int IntKind.i64).pair ((Ty.int IntKind.i64).pair ((Ty.int IntKind.i64).pair ((Ty.int IntKind.i64).pair ((Ty.int IntKind.i64).pair Ty.unit))))).sl (Md.bor true false), PT.val ((Ty.int IntKind.i64).pair ((Ty.int IntKind.i64).pair Ty.unit)).sl (Md.bor true false)] [(((Ty.int IntKind.i64).pair ((Ty.int IntKind.i64).pair Ty.unit)).sl, Md.own false (Md.bor false false))] (resL ([]) Try.f127) (codeOf Try.f127) ⟨code', v, ()⟩ = ref_SpanSteps_p nf (fun p0 v0 v1 => iter nf (LC.F tab (ref_SpanSteps_phi nf) (fun _ F => iter nf F) ref_SpanSteps_keep 0 (ref_SpanSteps_L0 nf)) (ref_SpanSteps_m0 p0 v0 v1)) code' v := by kernel_rfl
  rw [h]
  simp only [ref_SpanSteps_e0]
  rfl
def ref_SpanSteps_F (nf : Nat) (x : denPs [.val (.sl (.pair (.int .i64) (.pair (.int .i64) (.pair (.int .i64) (.pair (.int .i64) (.pair (.int .i64) (.unit))))))) (.bor true false), .val (.sl (.pair (.int .i64) (.pair (.int .i64) (.unit)))) (.bor true false)]) : Option (denL [(.sl (.pair (.int .i64) (.pair (.int .i64) (.unit))), .own false (.bor false false))]) := ref_SpanSteps_f nf x.1 x.2.1
def ref_SpanSteps_C (nf : Nat) : Contract := ⟨[.val (.sl (.pair (.int .i64) (.pair (.int .i64) (.pair (.int .i64) (.pair (.int .i64) (.pair (.int .i64) (.unit))))))) (.bor true false), .val (.sl (.pair (.int .i64) (.pair (.int .i64) (.unit)))) (.bor true false)], [(.sl (.pair (.int .i64) (.pair (.int .i64) (.unit))), .own false (.bor false false))], ref_SpanSteps_F nf, []⟩
theorem ref_SpanSteps_ok : FnOK Try.prog 127 := ⟨Try.f127, codeOf Try.f127, Try.func127, by kernel_rfl, by kernel_rfl⟩
theorem ref_SpanSteps_holds (nf : Nat) : Contract.Holds Try.prog 127 (ref_SpanSteps_C nf) :=
  fn_holds (Φ := ref_SpanSteps_phi nf) (keep := ref_SpanSteps_keep) (n := nf) ⟨tabs.1, tabs.2, (ctx_cons ref_SpanDo_ok (ref_SpanDo_holds nf) ctx_nil), mixed, bk_ok bkls rfl⟩ (fn := Try.f127) ⟨Try.func127, by kernel_rfl, by kernel_rfl, by kernel_rfl⟩ (fun x => ref_SpanSteps_eq nf x.1 x.2.1)

/-! codemason codemasonref.SpanStep -/
def ref_SpanStep_tab : Tab := ⟨lookT [(2, .int .i64), (3, .int .i64), (4, .bool), (5, .int .u8), (6, .int .u8), (7, .pair (.int .i64) (.pair (.int .i64) (.pair (.bool) (.pair (.int .u8) (.unit))))), (8, .pair (.int .i64) (.pair (.int .i64) (.pair (.bool) (.pair (.int .u8) (.unit))))), (12, .int .u64), (21, .int .i32), (22, .sl (.pair (.sl (.pair (.int .i64) (.pair (.int .i64) (.pair (.int .i64) (.pair (.int .i64) (.pair (.int .i64) (.unit))))))) (.pair (.int .i64) (.pair (.int .i64) (.pair (.int .i64) (.unit)))))), (23, .int .i64), (26, .sl (.sl (.int .i64))), (31, .sl (.int .i64)), (39, .int .u32), (40, .sl (.int .u32)), (46, .pair (.int .i64) (.pair (.int .i64) (.unit))), (47, .pair (.int .i64) (.pair (.int .i64) (.unit))), (58, .sl (.pair (.int .i64) (.pair (.int .i64) (.unit)))), (59, .sl (.sl (.pair (.int .i64) (.pair (.int .i64) (.unit))))), (62, .pair (.int .i64) (.pair (.int .i64) (.unit))), (63, .pair (.int .i64) (.pair (.int .i64) (.unit))), (81, .sl (.pair (.int .i64) (.pair (.int .i64) (.pair (.int .i64) (.pair (.int .i64) (.pair (.int .i64) (.unit))))))), (82, .pair (.sl (.pair (.int .i64) (.pair (.int .i64) (.pair (.int .i64) (.pair (.int .i64) (.pair (.int .i64) (.unit))))))) (.pair (.int .i64) (.pair (.int .i64) (.pair (.int .i64) (.unit))))), (83, .pair (.sl (.pair (.int .i64) (.pair (.int .i64) (.pair (.int .i64) (.pair (.int .i64) (.pair (.int .i64) (.unit))))))) (.pair (.int .i64) (.pair (.int .i64) (.pair (.int .i64) (.unit))))), (86, .sl (.sl (.bool))), (91, .sl (.bool)), (92, .sl (.int .u8)), (97, .pair (.int .i64) (.pair (.int .i64) (.pair (.int .i64) (.pair (.int .i64) (.pair (.int .i64) (.unit)))))), (98, .pair (.int .i64) (.pair (.int .i64) (.pair (.int .i64) (.pair (.int .i64) (.pair (.int .i64) (.unit)))))), (105, .int .u64), (106, .sl (.pair (.int .i64) (.pair (.int .i64) (.unit)))), (126, .pair (.sl (.sl (.pair (.int .i64) (.pair (.int .i64) (.unit))))) (.pair (.bool) (.unit))), (127, .pair (.sl (.sl (.pair (.int .i64) (.pair (.int .i64) (.unit))))) (.pair (.bool) (.unit))), (139, .pair (.sl (.pair (.sl (.pair (.int .i64) (.pair (.int .i64) (.pair (.int .i64) (.pair (.int .i64) (.pair (.int .i64) (.unit))))))) (.pair (.int .i64) (.pair (.int .i64) (.pair (.int .i64) (.unit)))))) (.unit)), (140, .pair (.sl (.pair (.sl (.pair (.int .i64) (.pair (.int .i64) (.pair (.int .i64) (.pair (.int .i64) (.pair (.int .i64) (.unit))))))) (.pair (.int .i64) (.pair (.int .i64) (.pair (.int .i64) (.unit)))))) (.unit)), (145, .pair (.sl (.pair (.sl (.pair (.int .i64) (.pair (.int .i64) (.pair (.int .i64) (.pair (.int .i64) (.pair (.int .i64) (.unit))))))) (.pair (.int .i64) (.pair (.int .i64) (.pair (.int .i64) (.unit)))))) (.pair (.sl (.sl (.int .i64))) (.pair (.int .u32) (.pair (.sl (.sl (.bool))) (.pair (.int .u32) (.pair (.sl (.int .u32)) (.unit))))))), (146, .pair (.sl (.pair (.sl (.pair (.int .i64) (.pair (.int .i64) (.pair (.int .i64) (.pair (.int .i64) (.pair (.int .i64) (.unit))))))) (.pair (.int .i64) (.pair (.int .i64) (.pair (.int .i64) (.unit)))))) (.pair (.sl (.sl (.int .i64))) (.pair (.int .u32) (.pair (.sl (.sl (.bool))) (.pair (.int .u32) (.pair (.sl (.int .u32)) (.unit))))))), (155, .mp (.int .i64) (.int .i64)), (189, .int .u8), (190, .int .u8), (193, .int .i32), (194, .int .i32)], lookM [(2, .bor false true), (3, .bor false true), (4, .bor false true), (5, .bor false true), (6, .bor false true), (7, .bor false true), (8, .bor false true), (12, .bor false true), (21, .bor false true), (22, .own false (.bor false false)), (23, .bor false true), (26, .own false (.bor false false)), (31, .own false (.bor false false)), (39, .bor false true), (40, .own false (.bor false false)), (46, .bor false true), (47, .bor false true), (58, .own false (.bor false false)), (59, .own false (.own true (.bor false false))), (62, .bor false true), (63, .bor false true), (81, .own false (.bor false false)), (82, .bor true false), (83, .bor true false), (86, .own false (.bor false false)), (91, .own false (.bor false false)), (92, .own false (.bor false false)), (97, .bor false true), (98, .bor false true), (105, .bor false true), (106, .own false (.bor false false)), (126, .bor true false), (127, .pair (.own false (.own true (.bor false false))) (.pair (.bor false true) (.bor false false))), (139, .bor true false), (140, .pair (.own false (.pair (.own true (.bor false true)) (.bor false true))) (.bor false false)), (145, .bor true false), (146, .pair (.bor false false) (.pair (.bor false false) (.pair (.bor false true) (.pair (.own false (.own false (.bor false true))) (.pair (.bor false true) (.pair (.own false (.bor false false)) (.bor false false))))))), (155, .own false (.bor false false)), (189, .bor false true), (190, .bor false true), (193, .bor false true), (194, .bor false true)], hasT [185], hasT [9, 10, 11], fun _ => none, lookB bkl⟩
theorem ref_SpanStep_tabs : TabOK Try.prog ref_SpanStep_tab ∧ EqOK Try.prog ref_SpanStep_tab := tab_ok (by kernel_rfl) (by kernel_rfl)
def ref_SpanStep_phi (nf : Nat) : Nat → Option Contract := lookC [(126, ref_spanPut_C nf), (127, ref_SpanSteps_C nf)]
def ref_SpanStep_keep : Nat → List Nat := lookK [(0, [0, 2, 7, 14, 19, 20, 21])]
def ref_SpanStep_b0 (nf : Nat) (p : List (List (Int × Int × Int × Int × Int × Unit) × Int × Int × Int × Unit)) (g0 : List (List (Int × Int × Unit)) → List (List (Int × Int × Unit)) → Int → Option (List (List (Int × Int × Unit)) × List (List (Int × Int × Unit)) × Unit)) (in'2 : List (List (Int × Int × Unit))) (next : List (List (Int × Int × Unit))) (t21 : Int) : Option (List (List (Int × Int × Unit)) × List (List (Int × Int × Unit)) × Unit) :=
  bif decide (t21 < (↑p.length : Int)) then
    bif inb t21 p.length then
      bif inb t21 in'2.length then
        bif List.isEmpty (in'2.getD t21.toNat []) then
          g0 in'2 next (IntKind.i64.wrap (t21 + 1))
        else
          bif inb t21 in'2.length then
            Option.bind (ref_SpanSteps_f nf ((p.getD t21.toNat ([], 0, 0, 0, ())).fst) (in'2.getD t21.toNat [])) fun r2 =>
            bif (p.getD t21.toNat ([], 0, 0, 0, ())).snd.fst == (-1) then
              bif (p.getD t21.toNat ([], 0, 0, 0, ())).snd.snd.fst != (-1) then
                bif inb (p.getD t21.toNat ([], 0, 0, 0, ())).snd.snd.fst next.length then
                  Option.bind (ref_spanPut_f nf (next.getD (Int.toNat (p.getD t21.toNat ([], 0, 0, 0, ())).snd.snd.fst) []) r2.fst) fun r3 =>
                  bif inb (p.getD t21.toNat ([], 0, 0, 0, ())).snd.snd.fst next.length then
                    bif !List.isEmpty r3.fst then
                      g0 in'2 (next.set (Int.toNat (p.getD t21.toNat ([], 0, 0, 0, ())).snd.snd.fst) r3.fst) (IntKind.i64.wrap (t21 + 1))
                    else
                      none
                  else
                    none
                else
                  none
              else
                g0 in'2 next (IntKind.i64.wrap (t21 + 1))
            else
              bif inb (p.getD t21.toNat ([], 0, 0, 0, ())).snd.fst (List.length r2.fst) then
                bif decide ((List.getD r2.fst (Int.toNat (p.getD t21.toNat ([], 0, 0, 0, ())).snd.fst) (0, 0, ())).snd.fst > 0) then
                  bif (List.getD r2.fst (Int.toNat (p.getD t21.toNat ([], 0, 0, 0, ())).snd.fst) (0, 0, ())).fst == 0 then
                    bif inb (p.getD t21.toNat ([], 0, 0, 0, ())).snd.fst (List.length r2.fst) then
                      bif inb (p.getD t21.toNat ([], 0, 0, 0, ())).snd.snd.fst next.length then
                        Option.bind (ref_spanPut_f nf (next.getD (Int.toNat (p.getD t21.toNat ([], 0, 0, 0, ())).snd.snd.fst) []) (List.set r2.fst (Int.toNat (p.getD t21.toNat ([], 0, 0, 0, ())).snd.fst) (1, (List.getD r2.fst (Int.toNat (p.getD t21.toNat ([], 0, 0, 0, ())).snd.fst) (0, 0, ())).snd))) fun r4 =>
                        bif inb (p.getD t21.toNat ([], 0, 0, 0, ())).snd.snd.fst next.length then
                          bif !List.isEmpty r4.fst then
                            bif (List.getD r2.fst (Int.toNat (p.getD t21.toNat ([], 0, 0, 0, ())).snd.fst) (0, 0, ())).fst == 0 then
                              bif inb (p.getD t21.toNat ([], 0, 0, 0, ())).snd.fst (List.set r2.fst (Int.toNat (p.getD t21.toNat ([], 0, 0, 0, ())).snd.fst) (1, (List.getD r2.fst (Int.toNat (p.getD t21.toNat ([], 0, 0, 0, ())).snd.fst) (0, 0, ())).snd)).length then
                                bif inb (p.getD t21.toNat ([], 0, 0, 0, ())).snd.snd.snd.fst (next.set (Int.toNat (p.getD t21.toNat ([], 0, 0, 0, ())).snd.snd.fst) r4.fst).length then
                                  Option.bind (ref_spanPut_f nf ((next.set (Int.toNat (p.getD t21.toNat ([], 0, 0, 0, ())).snd.snd.fst) r4.fst).getD (Int.toNat (p.getD t21.toNat ([], 0, 0, 0, ())).snd.snd.snd.fst) []) ((List.set r2.fst (Int.toNat (p.getD t21.toNat ([], 0, 0, 0, ())).snd.fst) (1, (List.getD r2.fst (Int.toNat (p.getD t21.toNat ([], 0, 0, 0, ())).snd.fst) (0, 0, ())).snd)).set (Int.toNat (p.getD t21.toNat ([], 0, 0, 0, ())).snd.fst) (0, 0, ()))) fun r5 =>
                                  bif inb (p.getD t21.toNat ([], 0, 0, 0, ())).snd.snd.snd.fst (next.set (Int.toNat (p.getD t21.toNat ([], 0, 0, 0, ())).snd.snd.fst) r4.fst).length then
                                    bif !List.isEmpty r5.fst then
                                      g0 in'2 ((next.set (Int.toNat (p.getD t21.toNat ([], 0, 0, 0, ())).snd.snd.fst) r4.fst).set (Int.toNat (p.getD t21.toNat ([], 0, 0, 0, ())).snd.snd.snd.fst) r5.fst) (IntKind.i64.wrap (t21 + 1))
                                    else
                                      none
                                  else
                                    none
                                else
                                  none
                              else
                                none
                            else
                              g0 in'2 (next.set (Int.toNat (p.getD t21.toNat ([], 0, 0, 0, ())).snd.snd.fst) r4.fst) (IntKind.i64.wrap (t21 + 1))
                          else
                            none
                        else
                          none
                      else
                        none
                    else
                      none
                  else
                    bif inb (p.getD t21.toNat ([], 0, 0, 0, ())).snd.snd.fst next.length then
                      Option.bind (ref_spanPut_f nf (next.getD (Int.toNat (p.getD t21.toNat ([], 0, 0, 0, ())).snd.snd.fst) []) r2.fst) fun r6 =>
                      bif inb (p.getD t21.toNat ([], 0, 0, 0, ())).snd.snd.fst next.length then
                        bif !List.isEmpty r6.fst then
                          bif (List.getD r2.fst (Int.toNat (p.getD t21.toNat ([], 0, 0, 0, ())).snd.fst) (0, 0, ())).fst == 0 then
                            bif inb (p.getD t21.toNat ([], 0, 0, 0, ())).snd.fst (List.length r2.fst) then
                              bif inb (p.getD t21.toNat ([], 0, 0, 0, ())).snd.snd.snd.fst (next.set (Int.toNat (p.getD t21.toNat ([], 0, 0, 0, ())).snd.snd.fst) r6.fst).length then
                                Option.bind (ref_spanPut_f nf ((next.set (Int.toNat (p.getD t21.toNat ([], 0, 0, 0, ())).snd.snd.fst) r6.fst).getD (Int.toNat (p.getD t21.toNat ([], 0, 0, 0, ())).snd.snd.snd.fst) []) (List.set r2.fst (Int.toNat (p.getD t21.toNat ([], 0, 0, 0, ())).snd.fst) (0, 0, ()))) fun r7 =>
                                bif inb (p.getD t21.toNat ([], 0, 0, 0, ())).snd.snd.snd.fst (next.set (Int.toNat (p.getD t21.toNat ([], 0, 0, 0, ())).snd.snd.fst) r6.fst).length then
                                  bif !List.isEmpty r7.fst then
                                    g0 in'2 ((next.set (Int.toNat (p.getD t21.toNat ([], 0, 0, 0, ())).snd.snd.fst) r6.fst).set (Int.toNat (p.getD t21.toNat ([], 0, 0, 0, ())).snd.snd.snd.fst) r7.fst) (IntKind.i64.wrap (t21 + 1))
                                  else
                                    none
                                else
                                  none
                              else
                                none
                            else
                              none
                          else
                            g0 in'2 (next.set (Int.toNat (p.getD t21.toNat ([], 0, 0, 0, ())).snd.snd.fst) r6.fst) (IntKind.i64.wrap (t21 + 1))
                        else
                          none
                      else
                        none
                    else
                      none
                else
                  bif (List.getD r2.fst (Int.toNat (p.getD t21.toNat ([], 0, 0, 0, ())).snd.fst) (0, 0, ())).fst == 0 then
                    bif inb (p.getD t21.toNat ([], 0, 0, 0, ())).snd.fst (List.length r2.fst) then
                      bif inb (p.getD t21.toNat ([], 0, 0, 0, ())).snd.snd.snd.fst next.length then
                        Option.bind (ref_spanPut_f nf (next.getD (Int.toNat (p.getD t21.toNat ([], 0, 0, 0, ())).snd.snd.snd.fst) []) (List.set r2.fst (Int.toNat (p.getD t21.toNat ([], 0, 0, 0, ())).snd.fst) (0, 0, ()))) fun r8 =>
                        bif inb (p.getD t21.toNat ([], 0, 0, 0, ())).snd.snd.snd.fst next.length then
                          bif !List.isEmpty r8.fst then
                            g0 in'2 (next.set (Int.toNat (p.getD t21.toNat ([], 0, 0, 0, ())).snd.snd.snd.fst) r8.fst) (IntKind.i64.wrap (t21 + 1))
                          else
                            none
                        else
                          none
                      else
                        none
                    else
                      none
                  else
                    g0 in'2 next (IntKind.i64.wrap (t21 + 1))
              else
                none
          else
            none
      else
        none
    else
      none
  else
    some ((in'2, next, ()))
def ref_SpanStep_p (nf : Nat) (l0 : List (List (Int × Int × Int × Int × Int × Unit) × Int × Int × Int × Unit) → List (List (Int × Int × Unit)) → List (List (Int × Int × Unit)) → Int → Option (List (List (Int × Int × Unit)) × List (List (Int × Int × Unit)) × Unit)) (p : List (List (Int × Int × Int × Int × Int × Unit) × Int × Int × Int × Unit)) (have' : List (Int × Int × Unit)) (in' : List (List (Int × Int × Unit))) : Option (List (List (Int × Int × Unit)) × List (List (Int × Int × Unit)) × Unit) :=
  bif decide (0 ≤ (↑p.length : Int)) && decide ((↑p.length : Int) ≤ (↑p.length : Int)) && decide ((↑p.length : Int) ≤ (↑lim : Int)) then
    Option.bind (ref_spanPut_f nf ([]) have') fun r =>
    bif inb 0 (List.replicate (↑p.length : Int).toNat ([] : List (Int × Int × Unit))).length then
      bif !List.isEmpty r.fst then
        l0 p in' ((List.replicate (↑p.length : Int).toNat []).set 0 r.fst) 0
      else
        none
    else
      none
  else
    none
def ref_SpanStep_l0 (nf : Nat) (p : List (List (Int × Int × Int × Int × Int × Unit) × Int × Int × Int × Unit)) : Nat → List (List (Int × Int × Unit)) → List (List (Int × Int × Unit)) → Int → Option (List (List (Int × Int × Unit)) × List (List (Int × Int × Unit)) × Unit)
  | 0, _, _, _ => none
  | fu + 1, in'2, next, t21 => ref_SpanStep_b0 nf  p  (ref_SpanStep_l0 nf p  fu) in'2 next t21
def ref_SpanStep_f (nf : Nat) (p : List (List (Int × Int × Int × Int × Int × Unit) × Int × Int × Int × Unit)) (have' : List (Int × Int × Unit)) (in' : List (List (Int × Int × Unit))) : Option (List (List (Int × Int × Unit)) × List (List (Int × Int × Unit)) × Unit) := ref_SpanStep_p nf (fun p0 v0 v1 v2 => ref_SpanStep_l0 nf p0 nf v0 v1 v2) p have' in'
noncomputable def ref_SpanStep_L0 (nf : Nat) : LC (List (List (Int × Int × Unit)) × List (List (Int × Int × Unit)) × Unit) := theL (findL ref_SpanStep_tab (ref_SpanStep_phi nf) (fun _ F => iter nf F) ref_SpanStep_keep 0 0 (codeOf Try.f97) (fin ref_SpanStep_tab [(((Ty.int IntKind.i64).pair ((Ty.int IntKind.i64).pair Ty.unit)).sl.sl, Md.own false (Md.own true (Md.bor false false))), (((Ty.int IntKind.i64).pair ((Ty.int IntKind.i64).pair Ty.unit)).sl.sl, Md.own false (Md.own true (Md.bor false false)))] (resL ([2]) Try.f97)) (fun _ _ => none) (fin ref_SpanStep_tab [(((Ty.int IntKind.i64).pair ((Ty.int IntKind.i64).pair Ty.unit)).sl.sl, Md.own false (Md.own true (Md.bor false false))), (((Ty.int IntKind.i64).pair ((Ty.int IntKind.i64).pair Ty.unit)).sl.sl, Md.own false (Md.own true (Md.bor false false)))] (resL ([2]) Try.f97)))
def ref_SpanStep_m0 (p : List (List (Int × Int × Int × Int × Int × Unit) × Int × Int × Int × Unit)) (in'2 : List (List (Int × Int × Unit))) (next : List (List (Int × Int × Unit))) (t21 : Int) : St := ⟨fresh, [(0, AV.v (((Ty.int IntKind.i64).pair ((Ty.int IntKind.i64).pair ((Ty.int IntKind.i64).pair ((Ty.int IntKind.i64).pair ((Ty.int IntKind.i64).pair Ty.unit))))).sl.pair ((Ty.int IntKind.i64).pair ((Ty.int IntKind.i64).pair ((Ty.int IntKind.i64).pair Ty.unit)))).sl (Md.bor true false) p), (2, AV.ow 500002 ((Ty.int IntKind.i64).pair ((Ty.int IntKind.i64).pair Ty.unit)).sl.sl (Md.own false (Md.own true (Md.bor false false))) in'2), (7, AV.ow 500007 ((Ty.int IntKind.i64).pair ((Ty.int IntKind.i64).pair Ty.unit)).sl.sl (Md.own false (Md.own true (Md.bor false false))) next), (14, AV.dead), (19, AV.v (((Ty.int IntKind.i64).pair ((Ty.int IntKind.i64).pair ((Ty.int IntKind.i64).pair ((Ty.int IntKind.i64).pair ((Ty.int IntKind.i64).pair Ty.unit))))).sl.pair ((Ty.int IntKind.i64).pair ((Ty.int IntKind.i64).pair ((Ty.int IntKind.i64).pair Ty.unit)))).sl (Md.bor true false) p), (20, AV.v (Ty.int IntKind.i64) (Md.bor false true) (↑p.length : Int)), (21, AV.v (Ty.int IntKind.i64) (Md.bor false true) t21)]⟩
theorem ref_SpanStep_h0 (nf : Nat)  (p : List (List (Int × Int × Int × Int × Int × Unit) × Int × Int × Int × Unit)) (fu : Nat) (in'2 : List (List (Int × Int × Unit))) (next : List (List (Int × Int × Unit))) (t21 : Int) : iter (fu + 1) (LC.F ref_SpanStep_tab (ref_SpanStep_phi nf) (fun _ F => iter nf F) ref_SpanStep_keep 0 (ref_SpanStep_L0 nf )) (ref_SpanStep_m0 p in'2 next t21) = ref_SpanStep_b0 nf  p  (fun in'2 next t21 => iter fu (LC.F ref_SpanStep_tab (ref_SpanStep_phi nf) (fun _ F => iter nf F) ref_SpanStep_keep 0 (ref_SpanStep_L0 nf )) (ref_SpanStep_m0 p in'2 next t21)) in'2 next t21 := by kernel_rfl
theorem ref_SpanStep_e0 (nf : Nat)  (p : List (List (Int × Int × Int × Int × Int × Unit) × Int × Int × Int × Unit)) : ∀ (fu : Nat) (in'2 : List (List (Int × Int × Unit))) (next : List (List (Int × Int × Unit))) (t21 : Int), iter fu (LC.F ref_SpanStep_tab (ref_SpanStep_phi nf) (fun _ F => iter nf F) ref_SpanStep_keep 0 (ref_SpanStep_L0 nf )) (ref_SpanStep_m0 p in'2 next t21) = ref_SpanStep_l0 nf p  fu in'2 next t21 := by
  intro fu
  induction fu with
  | zero => intros; rfl
  | succ fu ih =>
    intro in'2 next t21
    rw [ref_SpanStep_h0 nf  p fu in'2 next t21]
    simp only [ih]
    rfl
theorem ref_SpanStep_eq (nf : Nat) (p : List (List (Int × Int × Int × Int × Int × Unit) × Int × Int × Int × Unit)) (have' : List (Int × Int × Unit)) (in' : List (List (Int × Int × Unit))) : runF ref_SpanStep_tab (ref_SpanStep_phi nf) ref_SpanStep_keep nf [PT.val (((Ty.int IntKind.i64).pair ((Ty.int IntKind.i64).pair ((Ty.int IntKind.i64).pair ((Ty.int IntKind.i64).pair ((Ty.int IntKind.i64).pair Ty.unit))))).sl.pair ((Ty.int IntKind.i64).pair ((Ty.int IntKind.i64).pair ((Ty.int IntKind.i64).pair Ty.unit)))).sl (Md.bor true false), PT.val ((Ty.int IntKind.i64).pair ((Ty.int IntKind.i64).pair Ty.unit)).sl (Md.bor true false), PT.val ((Ty.int IntKind.i64).pair ((Ty.int IntKind.i64).pair Ty.unit)).sl.sl (Md.own false (Md.own true (Md.bor false false)))] [(((Ty.int IntKind.i64).pair ((Ty.int IntKind.i64).pair Ty.unit)).sl.sl, Md.own false (Md.own true (Md.bor false false))), (((Ty.int IntKind.i64).pair ((Ty.int IntKind.i64).pair Ty.unit)).sl.sl, Md.own false (Md.own true (Md.bor false false)))] (resL ([2]) Try.f97) (codeOf Try.f97) ⟨p, have', in', ()⟩ = ref_SpanStep_f nf p have' in' := by
  have h : runF ref_SpanStep_tab (ref_SpanStep_phi nf) ref_SpanStep_keep nf [PT.val (((Ty.int IntKind.i64).pair ((Ty.int IntKind.i64).pair ((Ty.int IntKind.i64).pair ((Ty.int IntKind.i64).pair ((Ty.int IntKind.i64).pair Ty.unit))))).sl.pair ((Ty.int IntKind.i64).pair ((Ty.int IntKind.i64).pair ((Ty.int IntKind.i64).pair Ty.unit)))).sl (Md.bor true false), PT.val ((Ty.int IntKind.i64).pair ((Ty.int IntKind.i64).pair Ty.unit)).sl (Md.bor true false), PT.val ((Ty.int IntKind.i64).pair ((Ty.int IntKind.i64).pair Ty.unit)).sl.sl (Md.own false (Md.own true (Md.bor false false)))] [(((Ty.int IntKind.i64).pair ((Ty.int IntKind.i64).pair Ty.unit)).sl.sl, Md.own false (Md.own true (Md.bor false false))), (((Ty.int IntKind.i64).pair ((Ty.int IntKind.i64).pair Ty.unit)).sl.sl, Md.own false (Md.own true (Md.bor false false)))] (resL ([2]) Try.f97) (codeOf Try.f97) ⟨p, have', in', ()⟩ = ref_SpanStep_p nf (fun p0 v0 v1 v2 => iter nf (LC.F ref_SpanStep_tab (ref_SpanStep_phi nf) (fun _ F => iter nf F) ref_SpanStep_keep 0 (ref_SpanStep_L0 nf)) (ref_SpanStep_m0 p0 v0 v1 v2)) p have' in' := by kernel_rfl
  rw [h]
  simp only [ref_SpanStep_e0]
  rfl
def ref_SpanStep_F (nf : Nat) (x : denPs [.val (.sl (.pair (.sl (.pair (.int .i64) (.pair (.int .i64) (.pair (.int .i64) (.pair (.int .i64) (.pair (.int .i64) (.unit))))))) (.pair (.int .i64) (.pair (.int .i64) (.pair (.int .i64) (.unit)))))) (.bor true false), .val (.sl (.pair (.int .i64) (.pair (.int .i64) (.unit)))) (.bor true false), .val (.sl (.sl (.pair (.int .i64) (.pair (.int .i64) (.unit))))) (.own false (.own true (.bor false false)))]) : Option (denL [(.sl (.sl (.pair (.int .i64) (.pair (.int .i64) (.unit)))), .own false (.own true (.bor false false))), (.sl (.sl (.pair (.int .i64) (.pair (.int .i64) (.unit)))), .own false (.own true (.bor false false)))]) := ref_SpanStep_f nf x.1 x.2.1 x.2.2.1
def ref_SpanStep_C (nf : Nat) : Contract := ⟨[.val (.sl (.pair (.sl (.pair (.int .i64) (.pair (.int .i64) (.pair (.int .i64) (.pair (.int .i64) (.pair (.int .i64) (.unit))))))) (.pair (.int .i64) (.pair (.int .i64) (.pair (.int .i64) (.unit)))))) (.bor true false), .val (.sl (.pair (.int .i64) (.pair (.int .i64) (.unit)))) (.bor true false), .val (.sl (.sl (.pair (.int .i64) (.pair (.int .i64) (.unit))))) (.own false (.own true (.bor false false)))], [(.sl (.sl (.pair (.int .i64) (.pair (.int .i64) (.unit)))), .own false (.own true (.bor false false))), (.sl (.sl (.pair (.int .i64) (.pair (.int .i64) (.unit)))), .own false (.own true (.bor false false)))], ref_SpanStep_F nf, [2]⟩
theorem ref_SpanStep_ok : FnOK Try.prog 97 := ⟨Try.f97, codeOf Try.f97, Try.func97, by kernel_rfl, by kernel_rfl⟩
theorem ref_SpanStep_holds (nf : Nat) : Contract.Holds Try.prog 97 (ref_SpanStep_C nf) :=
  fn_holds (Φ := ref_SpanStep_phi nf) (keep := ref_SpanStep_keep) (n := nf) ⟨ref_SpanStep_tabs.1, ref_SpanStep_tabs.2, (ctx_cons ref_spanPut_ok (ref_spanPut_holds nf) (ctx_cons ref_SpanSteps_ok (ref_SpanSteps_holds nf) ctx_nil)), mixed, bk_ok bkls rfl⟩ (fn := Try.f97) ⟨Try.func97, by kernel_rfl, by kernel_rfl, by kernel_rfl⟩ (fun x => ref_SpanStep_eq nf x.1 x.2.1 x.2.2.1)

/-! codemason codemasonref.Spans -/
def ref_Spans_tab : Tab := ⟨lookT [(2, .int .i64), (3, .int .i64), (4, .bool), (5, .int .u8), (6, .int .u8), (7, .pair (.int .i64) (.pair (.int .i64) (.pair (.bool) (.pair (.int .u8) (.unit))))), (8, .pair (.int .i64) (.pair (.int .i64) (.pair (.bool) (.pair (.int .u8) (.unit))))), (12, .int .u64), (21, .int .i32), (22, .sl (.pair (.sl (.pair (.int .i64) (.pair (.int .i64) (.pair (.int .i64) (.pair (.int .i64) (.pair (.int .i64) (.unit))))))) (.pair (.int .i64) (.pair (.int .i64) (.pair (.int .i64) (.unit)))))), (23, .int .i64), (26, .sl (.sl (.int .i64))), (31, .sl (.int .i64)), (39, .int .u32), (40, .sl (.int .u32)), (46, .pair (.int .i64) (.pair (.int .i64) (.unit))), (47, .pair (.int .i64) (.pair (.int .i64) (.unit))), (58, .sl (.pair (.int .i64) (.pair (.int .i64) (.unit)))), (59, .sl (.sl (.pair (.int .i64) (.pair (.int .i64) (.unit))))), (62, .pair (.int .i64) (.pair (.int .i64) (.unit))), (63, .pair (.int .i64) (.pair (.int .i64) (.unit))), (81, .sl (.pair (.int .i64) (.pair (.int .i64) (.pair (.int .i64) (.pair (.int .i64) (.pair (.int .i64) (.unit))))))), (82, .pair (.sl (.pair (.int .i64) (.pair (.int .i64) (.pair (.int .i64) (.pair (.int .i64) (.pair (.int .i64) (.unit))))))) (.pair (.int .i64) (.pair (.int .i64) (.pair (.int .i64) (.unit))))), (83, .pair (.sl (.pair (.int .i64) (.pair (.int .i64) (.pair (.int .i64) (.pair (.int .i64) (.pair (.int .i64) (.unit))))))) (.pair (.int .i64) (.pair (.int .i64) (.pair (.int .i64) (.unit))))), (86, .sl (.sl (.bool))), (91, .sl (.bool)), (92, .sl (.int .u8)), (97, .pair (.int .i64) (.pair (.int .i64) (.pair (.int .i64) (.pair (.int .i64) (.pair (.int .i64) (.unit)))))), (98, .pair (.int .i64) (.pair (.int .i64) (.pair (.int .i64) (.pair (.int .i64) (.pair (.int .i64) (.unit)))))), (105, .int .u64), (106, .sl (.pair (.int .i64) (.pair (.int .i64) (.unit)))), (126, .pair (.sl (.sl (.pair (.int .i64) (.pair (.int .i64) (.unit))))) (.pair (.bool) (.unit))), (127, .pair (.sl (.sl (.pair (.int .i64) (.pair (.int .i64) (.unit))))) (.pair (.bool) (.unit))), (139, .pair (.sl (.pair (.sl (.pair (.int .i64) (.pair (.int .i64) (.pair (.int .i64) (.pair (.int .i64) (.pair (.int .i64) (.unit))))))) (.pair (.int .i64) (.pair (.int .i64) (.pair (.int .i64) (.unit)))))) (.unit)), (140, .pair (.sl (.pair (.sl (.pair (.int .i64) (.pair (.int .i64) (.pair (.int .i64) (.pair (.int .i64) (.pair (.int .i64) (.unit))))))) (.pair (.int .i64) (.pair (.int .i64) (.pair (.int .i64) (.unit)))))) (.unit)), (145, .pair (.sl (.pair (.sl (.pair (.int .i64) (.pair (.int .i64) (.pair (.int .i64) (.pair (.int .i64) (.pair (.int .i64) (.unit))))))) (.pair (.int .i64) (.pair (.int .i64) (.pair (.int .i64) (.unit)))))) (.pair (.sl (.sl (.int .i64))) (.pair (.int .u32) (.pair (.sl (.sl (.bool))) (.pair (.int .u32) (.pair (.sl (.int .u32)) (.unit))))))), (146, .pair (.sl (.pair (.sl (.pair (.int .i64) (.pair (.int .i64) (.pair (.int .i64) (.pair (.int .i64) (.pair (.int .i64) (.unit))))))) (.pair (.int .i64) (.pair (.int .i64) (.pair (.int .i64) (.unit)))))) (.pair (.sl (.sl (.int .i64))) (.pair (.int .u32) (.pair (.sl (.sl (.bool))) (.pair (.int .u32) (.pair (.sl (.int .u32)) (.unit))))))), (155, .mp (.int .i64) (.int .i64)), (189, .int .u8), (190, .int .u8), (193, .int .i32), (194, .int .i32)], lookM [(2, .bor false true), (3, .bor false true), (4, .bor false true), (5, .bor false true), (6, .bor false true), (7, .bor false true), (8, .bor false true), (12, .bor false true), (21, .bor false true), (22, .own false (.bor false false)), (23, .bor false true), (26, .own false (.bor false false)), (31, .own false (.bor false false)), (39, .bor false true), (40, .own false (.bor false false)), (46, .bor false true), (47, .bor false true), (58, .own false (.bor false false)), (59, .own false (.own true (.bor false false))), (62, .bor false true), (63, .bor false true), (81, .own false (.bor false false)), (82, .bor true false), (83, .bor true false), (86, .own false (.bor false false)), (91, .own false (.bor false false)), (92, .own false (.bor false false)), (97, .bor false true), (98, .bor false true), (105, .bor false true), (106, .own false (.bor false false)), (126, .bor true false), (127, .pair (.own false (.own true (.bor false false))) (.pair (.bor false true) (.bor false false))), (139, .bor true false), (140, .pair (.own false (.pair (.own true (.bor false true)) (.bor false true))) (.bor false false)), (145, .bor true false), (146, .pair (.bor false false) (.pair (.bor false false) (.pair (.bor false true) (.pair (.own false (.own false (.bor false true))) (.pair (.bor false true) (.pair (.own false (.bor false false)) (.bor false false))))))), (155, .own false (.bor false false)), (189, .bor false true), (190, .bor false true), (193, .bor false true), (194, .bor false true)], hasT [185], hasT [9, 10, 11], fun _ => none, lookB bkl⟩
theorem ref_Spans_tabs : TabOK Try.prog ref_Spans_tab ∧ EqOK Try.prog ref_Spans_tab := tab_ok (by kernel_rfl) (by kernel_rfl)
def ref_Spans_phi (nf : Nat) : Nat → Option Contract := lookC [(44, ref_SpanLists_C nf), (97, ref_SpanStep_C nf)]
def ref_Spans_keep : Nat → List Nat := lookK [(2, [0, 1, 5, 6, 7, 8, 11, 15, 36]), (0, [0, 1, 5, 6, 11, 15, 36])]
def ref_Spans_b0 (nf : Nat) (l2 : List (List (Int × Int × Int × Int × Int × Unit) × Int × Int × Int × Unit) → List (Int × Int × Unit) → List (List (Int × Int × Unit)) → List (List (Int × Int × Unit)) → Bool → Int → Option (List (List (Int × Int × Unit)) × Unit)) (p : List (List (Int × Int × Int × Int × Int × Unit) × Int × Int × Int × Unit)) (have' : List (Int × Int × Unit)) (g0 : List (List (Int × Int × Unit)) → Option (List (List (Int × Int × Unit)) × Unit)) (in' : List (List (Int × Int × Unit))) : Option (List (List (Int × Int × Unit)) × Unit) :=
  Option.bind (ref_SpanStep_f nf p have' in') fun r =>
  l2 p have' r.fst r.snd.fst true 0
def ref_Spans_b2 (nf : Nat) (p : List (List (Int × Int × Int × Int × Int × Unit) × Int × Int × Int × Unit)) (have' : List (Int × Int × Unit)) (g0 : List (List (Int × Int × Unit)) → Option (List (List (Int × Int × Unit)) × Unit)) (g2 : List (List (Int × Int × Unit)) → List (List (Int × Int × Unit)) → Bool → Int → Option (List (List (Int × Int × Unit)) × Unit)) (in'2 : List (List (Int × Int × Unit))) (next : List (List (Int × Int × Unit))) (same : Bool) (i : Int) : Option (List (List (Int × Int × Unit)) × Unit) :=
  bif decide (i < (↑p.length : Int)) then
    bif same then
      bif inb i in'2.length then
        bif inb i next.length then
          Option.bind (ref_SpanLists_f nf (in'2.getD i.toNat []) (next.getD i.toNat [])) fun r2 =>
          g2 in'2 next r2.fst (IntKind.i64.wrap (i + 1))
        else
          none
      else
        none
    else
      g2 in'2 next false (IntKind.i64.wrap (i + 1))
  else
    bif same then
      some ((in'2, ()))
    else
      g0 next
def ref_Spans_p (nf : Nat) (l0 : List (List (Int × Int × Int × Int × Int × Unit) × Int × Int × Int × Unit) → List (Int × Int × Unit) → List (List (Int × Int × Unit)) → Option (List (List (Int × Int × Unit)) × Unit)) (p : List (List (Int × Int × Int × Int × Int × Unit) × Int × Int × Int × Unit)) (have' : List (Int × Int × Unit)) : Option (List (List (Int × Int × Unit)) × Unit) :=
  bif decide (0 ≤ (↑p.length : Int)) && decide ((↑p.length : Int) ≤ (↑p.length : Int)) && decide ((↑p.length : Int) ≤ (↑lim : Int)) then
    l0 p have' (List.replicate (↑p.length : Int).toNat [])
  else
    none
def ref_Spans_l2 (nf : Nat) (p : List (List (Int × Int × Int × Int × Int × Unit) × Int × Int × Int × Unit)) (have' : List (Int × Int × Unit)) (g0 : List (List (Int × Int × Unit)) → Option (List (List (Int × Int × Unit)) × Unit)) : Nat → List (List (Int × Int × Unit)) → List (List (Int × Int × Unit)) → Bool → Int → Option (List (List (Int × Int × Unit)) × Unit)
  | 0, _, _, _, _ => none
  | fu + 1, in'2, next, same, i => ref_Spans_b2 nf  p have' g0 (ref_Spans_l2 nf p have' g0 fu) in'2 next same i
def ref_Spans_l0 (nf : Nat) (p : List (List (Int × Int × Int × Int × Int × Unit) × Int × Int × Int × Unit)) (have' : List (Int × Int × Unit)) : Nat → List (List (Int × Int × Unit)) → Option (List (List (Int × Int × Unit)) × Unit)
  | 0, _ => none
  | fu + 1, in' => ref_Spans_b0 nf (fun _ _ v0 v1 v2 v3 => ref_Spans_l2 nf p have' (fun in' => ref_Spans_l0 nf p have'  fu in') nf v0 v1 v2 v3) p have'  (ref_Spans_l0 nf p have'  fu) in'
def ref_Spans_f (nf : Nat) (p : List (List (Int × Int × Int × Int × Int × Unit) × Int × Int × Int × Unit)) (have' : List (Int × Int × Unit)) : Option (List (List (Int × Int × Unit)) × Unit) := ref_Spans_p nf (fun p0 p1 v0 => ref_Spans_l0 nf p0 p1 nf v0) p have'
noncomputable def ref_Spans_L0 (nf : Nat) : LC (List (List (Int × Int × Unit)) × Unit) := theL (findL ref_Spans_tab (ref_Spans_phi nf) (fun _ F => iter nf F) ref_Spans_keep 0 0 (codeOf Try.f43) (fin ref_Spans_tab [(((Ty.int IntKind.i64).pair ((Ty.int IntKind.i64).pair Ty.unit)).sl.sl, Md.own false (Md.own true (Md.bor false false)))] (resL ([]) Try.f43)) (fun _ _ => none) (fin ref_Spans_tab [(((Ty.int IntKind.i64).pair ((Ty.int IntKind.i64).pair Ty.unit)).sl.sl, Md.own false (Md.own true (Md.bor false false)))] (resL ([]) Try.f43)))
def ref_Spans_m0 (p : List (List (Int × Int × Int × Int × Int × Unit) × Int × Int × Int × Unit)) (have' : List (Int × Int × Unit)) (in' : List (List (Int × Int × Unit))) : St := ⟨fresh, [(0, AV.v (((Ty.int IntKind.i64).pair ((Ty.int IntKind.i64).pair ((Ty.int IntKind.i64).pair ((Ty.int IntKind.i64).pair ((Ty.int IntKind.i64).pair Ty.unit))))).sl.pair ((Ty.int IntKind.i64).pair ((Ty.int IntKind.i64).pair ((Ty.int IntKind.i64).pair Ty.unit)))).sl (Md.bor true false) p), (1, AV.v ((Ty.int IntKind.i64).pair ((Ty.int IntKind.i64).pair Ty.unit)).sl (Md.bor true false) have'), (5, AV.ow 500005 ((Ty.int IntKind.i64).pair ((Ty.int IntKind.i64).pair Ty.unit)).sl.sl (Md.own false (Md.own true (Md.bor false false))) in'), (6, AV.dead), (11, AV.dead), (15, AV.dead), (36, AV.dead)]⟩
noncomputable def ref_Spans_L2 (nf : Nat) (G0 : St → Option (List (List (Int × Int × Unit)) × Unit)) : LC (List (List (Int × Int × Unit)) × Unit) := theL (findL ref_Spans_tab (ref_Spans_phi nf) (fun _ F => iter nf F) ref_Spans_keep 2 0 (ref_Spans_L0 nf ).c (fun st => norm (ref_Spans_keep 0) st G0) (ref_Spans_L0 nf ).Kx (ref_Spans_L0 nf ).Kr)
def ref_Spans_m2 (p : List (List (Int × Int × Int × Int × Int × Unit) × Int × Int × Int × Unit)) (have' : List (Int × Int × Unit)) (in'2 : List (List (Int × Int × Unit))) (next : List (List (Int × Int × Unit))) (same : Bool) (i : Int) : St := ⟨fresh, [(0, AV.v (((Ty.int IntKind.i64).pair ((Ty.int IntKind.i64).pair ((Ty.int IntKind.i64).pair ((Ty.int IntKind.i64).pair ((Ty.int IntKind.i64).pair Ty.unit))))).sl.pair ((Ty.int IntKind.i64).pair ((Ty.int IntKind.i64).pair ((Ty.int IntKind.i64).pair Ty.unit)))).sl (Md.bor true false) p), (1, AV.v ((Ty.int IntKind.i64).pair ((Ty.int IntKind.i64).pair Ty.unit)).sl (Md.bor true false) have'), (5, AV.ow 500005 ((Ty.int IntKind.i64).pair ((Ty.int IntKind.i64).pair Ty.unit)).sl.sl (Md.own false (Md.own true (Md.bor false false))) in'2), (6, AV.ow 500006 ((Ty.int IntKind.i64).pair ((Ty.int IntKind.i64).pair Ty.unit)).sl.sl (Md.own false (Md.own true (Md.bor false false))) next), (7, AV.v Ty.bool (Md.bor false true) same), (8, AV.v (Ty.int IntKind.i64) (Md.bor false true) i), (11, AV.dead), (15, AV.dead), (36, AV.dead)]⟩
theorem ref_Spans_h2 (nf : Nat) (G0 : St → Option (List (List (Int × Int × Unit)) × Unit)) (p : List (List (Int × Int × Int × Int × Int × Unit) × Int × Int × Int × Unit)) (have' : List (Int × Int × Unit)) (fu : Nat) (in'2 : List (List (Int × Int × Unit))) (next : List (List (Int × Int × Unit))) (same : Bool) (i : Int) : iter (fu + 1) (LC.F ref_Spans_tab (ref_Spans_phi nf) (fun _ F => iter nf F) ref_Spans_keep 2 (ref_Spans_L2 nf G0)) (ref_Spans_m2 p have' in'2 next same i) = ref_Spans_b2 nf  p have' (fun in' => G0 (ref_Spans_m0 p have' in')) (fun in'2 next same i => iter fu (LC.F ref_Spans_tab (ref_Spans_phi nf) (fun _ F => iter nf F) ref_Spans_keep 2 (ref_Spans_L2 nf G0)) (ref_Spans_m2 p have' in'2 next same i)) in'2 next same i := by kernel_rfl
theorem ref_Spans_e2 (nf : Nat) (G0 : St → Option (List (List (Int × Int × Unit)) × Unit)) (p : List (List (Int × Int × Int × Int × Int × Unit) × Int × Int × Int × Unit)) (have' : List (Int × Int × Unit)) : ∀ (fu : Nat) (in'2 : List (List (Int × Int × Unit))) (next : List (List (Int × Int × Unit))) (same : Bool) (i : Int), iter fu (LC.F ref_Spans_tab (ref_Spans_phi nf) (fun _ F => iter nf F) ref_Spans_keep 2 (ref_Spans_L2 nf G0)) (ref_Spans_m2 p have' in'2 next same i) = ref_Spans_l2 nf p have' (fun in' => G0 (ref_Spans_m0 p have' in')) fu in'2 next same i := by
  intro fu
  induction fu with
  | zero => intros; rfl
  | succ fu ih =>
    intro in'2 next same i
    rw [ref_Spans_h2 nf G0 p have' fu in'2 next same i]
    simp only [ih]
    rfl
theorem ref_Spans_h0 (nf : Nat)  (p : List (List (Int × Int × Int × Int × Int × Unit) × Int × Int × Int × Unit)) (have' : List (Int × Int × Unit)) (fu : Nat) (in' : List (List (Int × Int × Unit))) : iter (fu + 1) (LC.F ref_Spans_tab (ref_Spans_phi nf) (fun _ F => iter nf F) ref_Spans_keep 0 (ref_Spans_L0 nf )) (ref_Spans_m0 p have' in') = ref_Spans_b0 nf (fun _ _ v0 v1 v2 v3 => iter nf (LC.F ref_Spans_tab (ref_Spans_phi nf) (fun _ F => iter nf F) ref_Spans_keep 2 (ref_Spans_L2 nf (iter fu (LC.F ref_Spans_tab (ref_Spans_phi nf) (fun _ F => iter nf F) ref_Spans_keep 0 (ref_Spans_L0 nf ))))) (ref_Spans_m2 p have' v0 v1 v2 v3)) p have'  (fun in' => iter fu (LC.F ref_Spans_tab (ref_Spans_phi nf) (fun _ F => iter nf F) ref_Spans_keep 0 (ref_Spans_L0 nf )) (ref_Spans_m0 p have' in')) in' := by kernel_rfl
theorem ref_Spans_e0 (nf : Nat)  (p : List (List (Int × Int × Int × Int × Int × Unit) × Int × Int × Int × Unit)) (have' : List (Int × Int × Unit)) : ∀ (fu : Nat) (in' : List (List (Int × Int × Unit))), iter fu (LC.F ref_Spans_tab (ref_Spans_phi nf) (fun _ F => iter nf F) ref_Spans_keep 0 (ref_Spans_L0 nf )) (ref_Spans_m0 p have' in') = ref_Spans_l0 nf p have'  fu in' := by
  intro fu
  induction fu with
  | zero => intros; rfl
  | succ fu ih =>
    intro in'
    rw [ref_Spans_h0 nf  p have' fu in']
    simp only [ih, ref_Spans_e2]
    rfl
theorem ref_Spans_eq (nf : Nat) (p : List (List (Int × Int × Int × Int × Int × Unit) × Int × Int × Int × Unit)) (have' : List (Int × Int × Unit)) : runF ref_Spans_tab (ref_Spans_phi nf) ref_Spans_keep nf [PT.val (((Ty.int IntKind.i64).pair ((Ty.int IntKind.i64).pair ((Ty.int IntKind.i64).pair ((Ty.int IntKind.i64).pair ((Ty.int IntKind.i64).pair Ty.unit))))).sl.pair ((Ty.int IntKind.i64).pair ((Ty.int IntKind.i64).pair ((Ty.int IntKind.i64).pair Ty.unit)))).sl (Md.bor true false), PT.val ((Ty.int IntKind.i64).pair ((Ty.int IntKind.i64).pair Ty.unit)).sl (Md.bor true false)] [(((Ty.int IntKind.i64).pair ((Ty.int IntKind.i64).pair Ty.unit)).sl.sl, Md.own false (Md.own true (Md.bor false false)))] (resL ([]) Try.f43) (codeOf Try.f43) ⟨p, have', ()⟩ = ref_Spans_f nf p have' := by
  have h : runF ref_Spans_tab (ref_Spans_phi nf) ref_Spans_keep nf [PT.val (((Ty.int IntKind.i64).pair ((Ty.int IntKind.i64).pair ((Ty.int IntKind.i64).pair ((Ty.int IntKind.i64).pair ((Ty.int IntKind.i64).pair Ty.unit))))).sl.pair ((Ty.int IntKind.i64).pair ((Ty.int IntKind.i64).pair ((Ty.int IntKind.i64).pair Ty.unit)))).sl (Md.bor true false), PT.val ((Ty.int IntKind.i64).pair ((Ty.int IntKind.i64).pair Ty.unit)).sl (Md.bor true false)] [(((Ty.int IntKind.i64).pair ((Ty.int IntKind.i64).pair Ty.unit)).sl.sl, Md.own false (Md.own true (Md.bor false false)))] (resL ([]) Try.f43) (codeOf Try.f43) ⟨p, have', ()⟩ = ref_Spans_p nf (fun p0 p1 v0 => iter nf (LC.F ref_Spans_tab (ref_Spans_phi nf) (fun _ F => iter nf F) ref_Spans_keep 0 (ref_Spans_L0 nf)) (ref_Spans_m0 p0 p1 v0)) p have' := by kernel_rfl
  rw [h]
  simp only [ref_Spans_e0]
  rfl
def ref_Spans_F (nf : Nat) (x : denPs [.val (.sl (.pair (.sl (.pair (.int .i64) (.pair (.int .i64) (.pair (.int .i64) (.pair (.int .i64) (.pair (.int .i64) (.unit))))))) (.pair (.int .i64) (.pair (.int .i64) (.pair (.int .i64) (.unit)))))) (.bor true false), .val (.sl (.pair (.int .i64) (.pair (.int .i64) (.unit)))) (.bor true false)]) : Option (denL [(.sl (.sl (.pair (.int .i64) (.pair (.int .i64) (.unit)))), .own false (.own true (.bor false false)))]) := ref_Spans_f nf x.1 x.2.1
def ref_Spans_C (nf : Nat) : Contract := ⟨[.val (.sl (.pair (.sl (.pair (.int .i64) (.pair (.int .i64) (.pair (.int .i64) (.pair (.int .i64) (.pair (.int .i64) (.unit))))))) (.pair (.int .i64) (.pair (.int .i64) (.pair (.int .i64) (.unit)))))) (.bor true false), .val (.sl (.pair (.int .i64) (.pair (.int .i64) (.unit)))) (.bor true false)], [(.sl (.sl (.pair (.int .i64) (.pair (.int .i64) (.unit)))), .own false (.own true (.bor false false)))], ref_Spans_F nf, []⟩
theorem ref_Spans_ok : FnOK Try.prog 43 := ⟨Try.f43, codeOf Try.f43, Try.func43, by kernel_rfl, by kernel_rfl⟩
theorem ref_Spans_holds (nf : Nat) : Contract.Holds Try.prog 43 (ref_Spans_C nf) :=
  fn_holds (Φ := ref_Spans_phi nf) (keep := ref_Spans_keep) (n := nf) ⟨ref_Spans_tabs.1, ref_Spans_tabs.2, (ctx_cons ref_SpanLists_ok (ref_SpanLists_holds nf) (ctx_cons ref_SpanStep_ok (ref_SpanStep_holds nf) ctx_nil)), mixed, bk_ok bkls rfl⟩ (fn := Try.f43) ⟨Try.func43, by kernel_rfl, by kernel_rfl, by kernel_rfl⟩ (fun x => ref_Spans_eq nf x.1 x.2.1)

/-! codemason codemasonlaw.SpanTells -/
def law_SpanTells_tab : Tab := ⟨lookT [(2, .int .i64), (3, .int .i64), (4, .bool), (5, .int .u8), (6, .int .u8), (7, .pair (.int .i64) (.pair (.int .i64) (.pair (.bool) (.pair (.int .u8) (.unit))))), (8, .pair (.int .i64) (.pair (.int .i64) (.pair (.bool) (.pair (.int .u8) (.unit))))), (12, .int .u64), (21, .int .i32), (22, .sl (.pair (.sl (.pair (.int .i64) (.pair (.int .i64) (.pair (.int .i64) (.pair (.int .i64) (.pair (.int .i64) (.unit))))))) (.pair (.int .i64) (.pair (.int .i64) (.pair (.int .i64) (.unit)))))), (23, .int .i64), (26, .sl (.sl (.int .i64))), (31, .sl (.int .i64)), (39, .int .u32), (40, .sl (.int .u32)), (46, .pair (.int .i64) (.pair (.int .i64) (.unit))), (47, .pair (.int .i64) (.pair (.int .i64) (.unit))), (58, .sl (.pair (.int .i64) (.pair (.int .i64) (.unit)))), (59, .sl (.sl (.pair (.int .i64) (.pair (.int .i64) (.unit))))), (62, .pair (.int .i64) (.pair (.int .i64) (.unit))), (63, .pair (.int .i64) (.pair (.int .i64) (.unit))), (81, .sl (.pair (.int .i64) (.pair (.int .i64) (.pair (.int .i64) (.pair (.int .i64) (.pair (.int .i64) (.unit))))))), (82, .pair (.sl (.pair (.int .i64) (.pair (.int .i64) (.pair (.int .i64) (.pair (.int .i64) (.pair (.int .i64) (.unit))))))) (.pair (.int .i64) (.pair (.int .i64) (.pair (.int .i64) (.unit))))), (83, .pair (.sl (.pair (.int .i64) (.pair (.int .i64) (.pair (.int .i64) (.pair (.int .i64) (.pair (.int .i64) (.unit))))))) (.pair (.int .i64) (.pair (.int .i64) (.pair (.int .i64) (.unit))))), (86, .sl (.sl (.bool))), (91, .sl (.bool)), (92, .sl (.int .u8)), (97, .pair (.int .i64) (.pair (.int .i64) (.pair (.int .i64) (.pair (.int .i64) (.pair (.int .i64) (.unit)))))), (98, .pair (.int .i64) (.pair (.int .i64) (.pair (.int .i64) (.pair (.int .i64) (.pair (.int .i64) (.unit)))))), (105, .int .u64), (106, .sl (.pair (.int .i64) (.pair (.int .i64) (.unit)))), (126, .pair (.sl (.sl (.pair (.int .i64) (.pair (.int .i64) (.unit))))) (.pair (.bool) (.unit))), (127, .pair (.sl (.sl (.pair (.int .i64) (.pair (.int .i64) (.unit))))) (.pair (.bool) (.unit))), (139, .pair (.sl (.pair (.sl (.pair (.int .i64) (.pair (.int .i64) (.pair (.int .i64) (.pair (.int .i64) (.pair (.int .i64) (.unit))))))) (.pair (.int .i64) (.pair (.int .i64) (.pair (.int .i64) (.unit)))))) (.unit)), (140, .pair (.sl (.pair (.sl (.pair (.int .i64) (.pair (.int .i64) (.pair (.int .i64) (.pair (.int .i64) (.pair (.int .i64) (.unit))))))) (.pair (.int .i64) (.pair (.int .i64) (.pair (.int .i64) (.unit)))))) (.unit)), (145, .pair (.sl (.pair (.sl (.pair (.int .i64) (.pair (.int .i64) (.pair (.int .i64) (.pair (.int .i64) (.pair (.int .i64) (.unit))))))) (.pair (.int .i64) (.pair (.int .i64) (.pair (.int .i64) (.unit)))))) (.pair (.sl (.sl (.int .i64))) (.pair (.int .u32) (.pair (.sl (.sl (.bool))) (.pair (.int .u32) (.pair (.sl (.int .u32)) (.unit))))))), (146, .pair (.sl (.pair (.sl (.pair (.int .i64) (.pair (.int .i64) (.pair (.int .i64) (.pair (.int .i64) (.pair (.int .i64) (.unit))))))) (.pair (.int .i64) (.pair (.int .i64) (.pair (.int .i64) (.unit)))))) (.pair (.sl (.sl (.int .i64))) (.pair (.int .u32) (.pair (.sl (.sl (.bool))) (.pair (.int .u32) (.pair (.sl (.int .u32)) (.unit))))))), (155, .mp (.int .i64) (.int .i64)), (189, .int .u8), (190, .int .u8), (193, .int .i32), (194, .int .i32)], lookM [(2, .bor false true), (3, .bor false true), (4, .bor false true), (5, .bor false true), (6, .bor false true), (7, .bor false true), (8, .bor false true), (12, .bor false true), (21, .bor false true), (22, .own false (.bor false false)), (23, .bor false true), (26, .own false (.bor false false)), (31, .own false (.bor false false)), (39, .bor false true), (40, .own false (.bor false false)), (46, .bor false true), (47, .bor false true), (58, .own false (.bor false false)), (59, .own false (.own true (.bor false false))), (62, .bor false true), (63, .bor false true), (81, .own false (.bor false false)), (82, .bor true false), (83, .bor true false), (86, .own false (.bor false false)), (91, .own false (.bor false false)), (92, .own false (.bor false false)), (97, .bor false true), (98, .bor false true), (105, .bor false true), (106, .own false (.bor false false)), (126, .bor true false), (127, .pair (.own false (.own true (.bor false false))) (.pair (.bor false true) (.bor false false))), (139, .bor true false), (140, .pair (.own false (.pair (.own true (.bor false true)) (.bor false true))) (.bor false false)), (145, .bor true false), (146, .pair (.bor false false) (.pair (.bor false false) (.pair (.bor false true) (.pair (.own false (.own false (.bor false true))) (.pair (.bor false true) (.pair (.own false (.bor false false)) (.bor false false))))))), (155, .own false (.bor false false)), (189, .bor false true), (190, .bor false true), (193, .bor false true), (194, .bor false true)], hasT [185], hasT [9, 10, 11], fun _ => none, lookB bkl⟩
theorem law_SpanTells_tabs : TabOK Try.prog law_SpanTells_tab ∧ EqOK Try.prog law_SpanTells_tab := tab_ok (by kernel_rfl) (by kernel_rfl)
def law_SpanTells_phi (nf : Nat) : Nat → Option Contract := lookC [(20, ref_ProgCheck_C nf), (41, span_In_C nf), (42, ref_IsSpan_C nf), (43, ref_Spans_C nf), (44, ref_SpanLists_C nf)]
def law_SpanTells_keep : Nat → List Nat := lookK [(2, [7, 12, 13, 14, 18, 19, 58]), (0, [1, 2, 7, 8, 9, 14, 18, 19, 32, 33, 34])]
def law_SpanTells_b0 (nf : Nat) (l2 : List (List (Int × Int × Unit)) → List (List (Int × Int × Unit)) → Int → Option (Bool × Unit)) (p : List (List (Int × Int × Int × Int × Int × Unit) × Int × Int × Int × Unit)) (have' : List (Int × Int × Unit)) (r : List (List (Int × Int × Unit)) × Int × Unit) (g0 : List (List (Int × Int × Unit)) → Int → Int → Option (Bool × Unit)) (l' : List (List (Int × Int × Unit))) (x : Int) (t34 : Int) : Option (Bool × Unit) :=
  bif decide (t34 < (↑have'.length : Int)) then
    bif inb t34 have'.length then
      bif x == 0 then
        Option.bind (ref_IsSpan_f nf (have'.getD t34.toNat (0, 0, ()))) fun r3 =>
        bif !r3.fst then
          g0 l' 4 (IntKind.i64.wrap (t34 + 1))
        else
          g0 l' x (IntKind.i64.wrap (t34 + 1))
      else
        g0 l' x (IntKind.i64.wrap (t34 + 1))
    else
      none
  else
    bif x != 0 then
      bif r.snd.fst == x then
        some (((↑l'.length : Int) == 0, ()))
      else
        some ((false, ()))
    else
      Option.bind (ref_Spans_f nf p have') fun r4 =>
      bif r.snd.fst != 0 then
        some ((false, ()))
      else
        bif (↑l'.length : Int) != (↑(List.length r4.fst) : Int) then
          some ((false, ()))
        else
          l2 l' r4.fst 0
def law_SpanTells_b2 (nf : Nat)  (g2 : List (List (Int × Int × Unit)) → List (List (Int × Int × Unit)) → Int → Option (Bool × Unit)) (l'2 : List (List (Int × Int × Unit))) (want : List (List (Int × Int × Unit))) (i : Int) : Option (Bool × Unit) :=
  bif decide (i < (↑want.length : Int)) then
    bif inb i l'2.length then
      bif inb i want.length then
        Option.bind (ref_SpanLists_f nf (l'2.getD i.toNat []) (want.getD i.toNat [])) fun r5 =>
        bif !r5.fst then
          some ((false, ()))
        else
          g2 l'2 want (IntKind.i64.wrap (i + 1))
      else
        none
    else
      none
  else
    some ((true, ()))
def law_SpanTells_p (nf : Nat) (l0 : List (List (Int × Int × Int × Int × Int × Unit) × Int × Int × Int × Unit) → List (Int × Int × Unit) → List (List (Int × Int × Unit)) × Int × Unit → List (List (Int × Int × Unit)) → Int → Int → Option (Bool × Unit)) (vars : Int) (p : List (List (Int × Int × Int × Int × Int × Unit) × Int × Int × Int × Unit)) (have' : List (Int × Int × Unit)) : Option (Bool × Unit) :=
  Option.bind (span_In_f nf vars p have') fun r =>
  Option.bind (ref_ProgCheck_f nf vars p) fun r2 =>
  bif r2.fst == 0 then
    bif (↑have'.length : Int) != vars then
      l0 p have' r r.fst 3 0
    else
      l0 p have' r r.fst r2.fst 0
  else
    l0 p have' r r.fst r2.fst 0
def law_SpanTells_l2 (nf : Nat)  : Nat → List (List (Int × Int × Unit)) → List (List (Int × Int × Unit)) → Int → Option (Bool × Unit)
  | 0, _, _, _ => none
  | fu + 1, l'2, want, i => law_SpanTells_b2 nf    (law_SpanTells_l2 nf   fu) l'2 want i
def law_SpanTells_l0 (nf : Nat) (p : List (List (Int × Int × Int × Int × Int × Unit) × Int × Int × Int × Unit)) (have' : List (Int × Int × Unit)) (r : List (List (Int × Int × Unit)) × Int × Unit) : Nat → List (List (Int × Int × Unit)) → Int → Int → Option (Bool × Unit)
  | 0, _, _, _ => none
  | fu + 1, l', x, t34 => law_SpanTells_b0 nf (fun  v0 v1 v2 => law_SpanTells_l2 nf   nf v0 v1 v2) p have' r  (law_SpanTells_l0 nf p have' r  fu) l' x t34
def law_SpanTells_f (nf : Nat) (vars : Int) (p : List (List (Int × Int × Int × Int × Int × Unit) × Int × Int × Int × Unit)) (have' : List (Int × Int × Unit)) : Option (Bool × Unit) := law_SpanTells_p nf (fun p0 p1 p2 v0 v1 v2 => law_SpanTells_l0 nf p0 p1 p2 nf v0 v1 v2) vars p have'
noncomputable def law_SpanTells_L0 (nf : Nat) : LC (Bool × Unit) := theL (findL law_SpanTells_tab (law_SpanTells_phi nf) (fun _ F => iter nf F) law_SpanTells_keep 0 0 (codeOf Try.f10) (fin law_SpanTells_tab [(Ty.bool, Md.bor false true)] (resL ([]) Try.f10)) (fun _ _ => none) (fin law_SpanTells_tab [(Ty.bool, Md.bor false true)] (resL ([]) Try.f10)))
def law_SpanTells_m0 (p : List (List (Int × Int × Int × Int × Int × Unit) × Int × Int × Int × Unit)) (have' : List (Int × Int × Unit)) (r : List (List (Int × Int × Unit)) × Int × Unit) (l' : List (List (Int × Int × Unit))) (x : Int) (t34 : Int) : St := ⟨fresh, [(1, AV.v (((Ty.int IntKind.i64).pair ((Ty.int IntKind.i64).pair ((Ty.int IntKind.i64).pair ((Ty.int IntKind.i64).pair ((Ty.int IntKind.i64).pair Ty.unit))))).sl.pair ((Ty.int IntKind.i64).pair ((Ty.int IntKind.i64).pair ((Ty.int IntKind.i64).pair Ty.unit)))).sl (Md.bor false false) p), (2, AV.v ((Ty.int IntKind.i64).pair ((Ty.int IntKind.i64).pair Ty.unit)).sl (Md.bor false false) have'), (7, AV.ow 500007 ((Ty.int IntKind.i64).pair ((Ty.int IntKind.i64).pair Ty.unit)).sl.sl (Md.own false (Md.own true (Md.bor false false))) l'), (8, AV.v (Ty.int IntKind.i64) (Md.bor false true) r.snd.fst), (9, AV.v (Ty.int IntKind.i64) (Md.bor false true) x), (14, AV.dead), (18, AV.dead), (19, AV.dead), (32, AV.v ((Ty.int IntKind.i64).pair ((Ty.int IntKind.i64).pair Ty.unit)).sl (Md.bor false false) have'), (33, AV.v (Ty.int IntKind.i64) (Md.bor false true) (↑have'.length : Int)), (34, AV.v (Ty.int IntKind.i64) (Md.bor false true) t34)]⟩
noncomputable def law_SpanTells_L2 (nf : Nat) : LC (Bool × Unit) := theL (findL law_SpanTells_tab (law_SpanTells_phi nf) (fun _ F => iter nf F) law_SpanTells_keep 2 0 (codeOf Try.f10) (fin law_SpanTells_tab [(Ty.bool, Md.bor false true)] (resL ([]) Try.f10)) (fun _ _ => none) (fin law_SpanTells_tab [(Ty.bool, Md.bor false true)] (resL ([]) Try.f10)))
def law_SpanTells_m2 (l'2 : List (List (Int × Int × Unit))) (want : List (List (Int × Int × Unit))) (i : Int) : St := ⟨fresh, [(7, AV.ow 500007 ((Ty.int IntKind.i64).pair ((Ty.int IntKind.i64).pair Ty.unit)).sl.sl (Md.own false (Md.own true (Md.bor false false))) l'2), (12, AV.ow 500012 ((Ty.int IntKind.i64).pair ((Ty.int IntKind.i64).pair Ty.unit)).sl.sl (Md.own false (Md.own true (Md.bor false false))) want), (13, AV.v (Ty.int IntKind.i64) (Md.bor false true) i), (14, AV.dead), (18, AV.dead), (19, AV.dead), (58, AV.dead)]⟩
theorem law_SpanTells_h2 (nf : Nat)   (fu : Nat) (l'2 : List (List (Int × Int × Unit))) (want : List (List (Int × Int × Unit))) (i : Int) : iter (fu + 1) (LC.F law_SpanTells_tab (law_SpanTells_phi nf) (fun _ F => iter nf F) law_SpanTells_keep 2 (law_SpanTells_L2 nf )) (law_SpanTells_m2  l'2 want i) = law_SpanTells_b2 nf    (fun l'2 want i => iter fu (LC.F law_SpanTells_tab (law_SpanTells_phi nf) (fun _ F => iter nf F) law_SpanTells_keep 2 (law_SpanTells_L2 nf )) (law_SpanTells_m2  l'2 want i)) l'2 want i := by kernel_rfl
theorem law_SpanTells_e2 (nf : Nat)   : ∀ (fu : Nat) (l'2 : List (List (Int × Int × Unit))) (want : List (List (Int × Int × Unit))) (i : Int), iter fu (LC.F law_SpanTells_tab (law_SpanTells_phi nf) (fun _ F => iter nf F) law_SpanTells_keep 2 (law_SpanTells_L2 nf )) (law_SpanTells_m2  l'2 want i) = law_SpanTells_l2 nf   fu l'2 want i := by
  intro fu
  induction fu with
  | zero => intros; rfl
  | succ fu ih =>
    intro l'2 want i
    rw [law_SpanTells_h2 nf   fu l'2 want i]
    simp only [ih]
    rfl
theorem law_SpanTells_h0 (nf : Nat)  (p : List (List (Int × Int × Int × Int × Int × Unit) × Int × Int × Int × Unit)) (have' : List (Int × Int × Unit)) (r : List (List (Int × Int × Unit)) × Int × Unit) (fu : Nat) (l' : List (List (Int × Int × Unit))) (x : Int) (t34 : Int) : iter (fu + 1) (LC.F law_SpanTells_tab (law_SpanTells_phi nf) (fun _ F => iter nf F) law_SpanTells_keep 0 (law_SpanTells_L0 nf )) (law_SpanTells_m0 p have' r l' x t34) = law_SpanTells_b0 nf (fun  v0 v1 v2 => iter nf (LC.F law_SpanTells_tab (law_SpanTells_phi nf) (fun _ F => iter nf F) law_SpanTells_keep 2 (law_SpanTells_L2 nf )) (law_SpanTells_m2  v0 v1 v2)) p have' r  (fun l' x t34 => iter fu (LC.F law_SpanTells_tab (law_SpanTells_phi nf) (fun _ F => iter nf F) law_SpanTells_keep 0 (law_SpanTells_L0 nf )) (law_SpanTells_m0 p have' r l' x t34)) l' x t34 := by kernel_rfl
theorem law_SpanTells_e0 (nf : Nat)  (p : List (List (Int × Int × Int × Int × Int × Unit) × Int × Int × Int × Unit)) (have' : List (Int × Int × Unit)) (r : List (List (Int × Int × Unit)) × Int × Unit) : ∀ (fu : Nat) (l' : List (List (Int × Int × Unit))) (x : Int) (t34 : Int), iter fu (LC.F law_SpanTells_tab (law_SpanTells_phi nf) (fun _ F => iter nf F) law_SpanTells_keep 0 (law_SpanTells_L0 nf )) (law_SpanTells_m0 p have' r l' x t34) = law_SpanTells_l0 nf p have' r  fu l' x t34 := by
  intro fu
  induction fu with
  | zero => intros; rfl
  | succ fu ih =>
    intro l' x t34
    rw [law_SpanTells_h0 nf  p have' r fu l' x t34]
    simp only [ih, law_SpanTells_e2]
    rfl
theorem law_SpanTells_eq (nf : Nat) (vars : Int) (p : List (List (Int × Int × Int × Int × Int × Unit) × Int × Int × Int × Unit)) (have' : List (Int × Int × Unit)) : runF law_SpanTells_tab (law_SpanTells_phi nf) law_SpanTells_keep nf [PT.val (Ty.int IntKind.i64) (Md.bor false false), PT.val (((Ty.int IntKind.i64).pair ((Ty.int IntKind.i64).pair ((Ty.int IntKind.i64).pair ((Ty.int IntKind.i64).pair ((Ty.int IntKind.i64).pair Ty.unit))))).sl.pair ((Ty.int IntKind.i64).pair ((Ty.int IntKind.i64).pair ((Ty.int IntKind.i64).pair Ty.unit)))).sl (Md.bor false false), PT.val ((Ty.int IntKind.i64).pair ((Ty.int IntKind.i64).pair Ty.unit)).sl (Md.bor false false)] [(Ty.bool, Md.bor false true)] (resL ([]) Try.f10) (codeOf Try.f10) ⟨vars, p, have', ()⟩ = law_SpanTells_f nf vars p have' := by
  have h : runF law_SpanTells_tab (law_SpanTells_phi nf) law_SpanTells_keep nf [PT.val (Ty.int IntKind.i64) (Md.bor false false), PT.val (((Ty.int IntKind.i64).pair ((Ty.int IntKind.i64).pair ((Ty.int IntKind.i64).pair ((Ty.int IntKind.i64).pair ((Ty.int IntKind.i64).pair Ty.unit))))).sl.pair ((Ty.int IntKind.i64).pair ((Ty.int IntKind.i64).pair ((Ty.int IntKind.i64).pair Ty.unit)))).sl (Md.bor false false), PT.val ((Ty.int IntKind.i64).pair ((Ty.int IntKind.i64).pair Ty.unit)).sl (Md.bor false false)] [(Ty.bool, Md.bor false true)] (resL ([]) Try.f10) (codeOf Try.f10) ⟨vars, p, have', ()⟩ = law_SpanTells_p nf (fun p0 p1 p2 v0 v1 v2 => iter nf (LC.F law_SpanTells_tab (law_SpanTells_phi nf) (fun _ F => iter nf F) law_SpanTells_keep 0 (law_SpanTells_L0 nf)) (law_SpanTells_m0 p0 p1 p2 v0 v1 v2)) vars p have' := by kernel_rfl
  rw [h]
  simp only [law_SpanTells_e0]
  rfl
def law_SpanTells_F (nf : Nat) (x : denPs [.val (.int .i64) (.bor false false), .val (.sl (.pair (.sl (.pair (.int .i64) (.pair (.int .i64) (.pair (.int .i64) (.pair (.int .i64) (.pair (.int .i64) (.unit))))))) (.pair (.int .i64) (.pair (.int .i64) (.pair (.int .i64) (.unit)))))) (.bor false false), .val (.sl (.pair (.int .i64) (.pair (.int .i64) (.unit)))) (.bor false false)]) : Option (denL [(.bool, .bor false true)]) := law_SpanTells_f nf x.1 x.2.1 x.2.2.1
def law_SpanTells_C (nf : Nat) : Contract := ⟨[.val (.int .i64) (.bor false false), .val (.sl (.pair (.sl (.pair (.int .i64) (.pair (.int .i64) (.pair (.int .i64) (.pair (.int .i64) (.pair (.int .i64) (.unit))))))) (.pair (.int .i64) (.pair (.int .i64) (.pair (.int .i64) (.unit)))))) (.bor false false), .val (.sl (.pair (.int .i64) (.pair (.int .i64) (.unit)))) (.bor false false)], [(.bool, .bor false true)], law_SpanTells_F nf, []⟩
theorem law_SpanTells_ok : FnOK Try.prog 10 := ⟨Try.f10, codeOf Try.f10, Try.func10, by kernel_rfl, by kernel_rfl⟩
theorem law_SpanTells_holds (nf : Nat) : Contract.Holds Try.prog 10 (law_SpanTells_C nf) :=
  fn_holds (Φ := law_SpanTells_phi nf) (keep := law_SpanTells_keep) (n := nf) ⟨law_SpanTells_tabs.1, law_SpanTells_tabs.2, (ctx_cons ref_ProgCheck_ok (ref_ProgCheck_holds nf) (ctx_cons span_In_ok (span_In_holds nf) (ctx_cons ref_IsSpan_ok (ref_IsSpan_holds nf) (ctx_cons ref_Spans_ok (ref_Spans_holds nf) (ctx_cons ref_SpanLists_ok (ref_SpanLists_holds nf) ctx_nil))))), mixed, bk_ok bkls rfl⟩ (fn := Try.f10) ⟨Try.func10, by kernel_rfl, by kernel_rfl, by kernel_rfl⟩ (fun x => law_SpanTells_eq nf x.1 x.2.1 x.2.2.1)
end
end Go.Proofs.Ytokjogplnoeicaa.S
