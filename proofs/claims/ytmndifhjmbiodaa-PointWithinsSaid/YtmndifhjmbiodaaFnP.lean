/- The functions of the code, as plain functions, and the theorems that say so: made by a program of this proof's own. -/
import Derived.Test.YtmndifhjmbiodaaAbCheck
import Derived.Test.YtmndifhjmbiodaaChecked
namespace Go.Proofs.Ytmndifhjmbiodaa.S
open Go Go.Ab
noncomputable section
def bkl : List (Nat × Bk) := []
def tab : Tab := ⟨lookT [(2, .int .i64), (3, .int .i64), (4, .bool), (5, .int .u8), (6, .int .u8), (7, .pair (.int .i64) (.pair (.int .i64) (.pair (.bool) (.pair (.int .u8) (.unit))))), (8, .pair (.int .i64) (.pair (.int .i64) (.pair (.bool) (.pair (.int .u8) (.unit))))), (12, .int .u64), (21, .int .i32), (22, .sl (.int .i64)), (23, .int .i64), (29, .sl (.pair (.sl (.int .u8)) (.pair (.sl (.pair (.int .i64) (.pair (.int .i64) (.unit)))) (.pair (.sl (.pair (.int .i64) (.pair (.int .i64) (.unit)))) (.unit))))), (34, .int .u32), (39, .sl (.int .u8)), (45, .sl (.pair (.int .i64) (.pair (.int .i64) (.unit)))), (50, .pair (.int .i64) (.pair (.int .i64) (.unit))), (51, .pair (.int .i64) (.pair (.int .i64) (.unit))), (56, .sl (.pair (.int .i64) (.pair (.int .i64) (.pair (.int .i64) (.unit))))), (57, .sl (.int .u32)), (66, .mp (.int .u32) (.int .i64)), (67, .int .u64), (75, .mp (.int .i64) (.int .i64)), (76, .pair (.sl (.int .i64)) (.pair (.mp (.int .i64) (.int .i64)) (.pair (.mp (.int .i64) (.int .i64)) (.unit)))), (77, .pair (.sl (.int .i64)) (.pair (.mp (.int .i64) (.int .i64)) (.pair (.mp (.int .i64) (.int .i64)) (.unit)))), (78, .sl (.pair (.int .i64) (.pair (.int .i64) (.unit)))), (79, .pair (.sl (.int .u8)) (.pair (.sl (.pair (.int .i64) (.pair (.int .i64) (.unit)))) (.pair (.sl (.pair (.int .i64) (.pair (.int .i64) (.unit)))) (.unit)))), (80, .pair (.sl (.int .u8)) (.pair (.sl (.pair (.int .i64) (.pair (.int .i64) (.unit)))) (.pair (.sl (.pair (.int .i64) (.pair (.int .i64) (.unit)))) (.unit)))), (81, .pair (.int .i64) (.pair (.int .i64) (.unit))), (82, .sl (.sl (.int .i64))), (89, .pair (.sl (.int .i64)) (.pair (.sl (.int .i64)) (.unit))), (90, .pair (.sl (.int .i64)) (.pair (.sl (.int .i64)) (.unit))), (92, .pair (.int .i64) (.pair (.int .i64) (.pair (.int .i64) (.unit)))), (93, .pair (.int .i64) (.pair (.int .i64) (.pair (.int .i64) (.unit)))), (94, .mp (.pair (.int .i64) (.pair (.int .i64) (.unit))) (.bool)), (98, .pair (.sl (.int .i64)) (.pair (.sl (.int .i64)) (.unit))), (99, .pair (.sl (.int .i64)) (.pair (.sl (.int .i64)) (.unit))), (106, .sl (.bool)), (114, .int .u64), (124, .int .u8), (125, .int .u8), (128, .int .i32), (129, .int .i32)], lookM [(2, .bor false true), (3, .bor false true), (4, .bor false true), (5, .bor false true), (6, .bor false true), (7, .bor false true), (8, .bor false true), (12, .bor false true), (21, .bor false true), (22, .own false (.bor false false)), (23, .bor false true), (29, .own false (.bor false false)), (34, .bor false true), (39, .own false (.bor false false)), (45, .own false (.bor false false)), (50, .bor false true), (51, .bor false true), (56, .own false (.bor false false)), (57, .own false (.bor false false)), (66, .own false (.bor false false)), (67, .bor false true), (75, .own false (.bor false false)), (76, .bor true false), (77, .pair (.own false (.bor false false)) (.pair (.own true (.bor false false)) (.pair (.own true (.bor false false)) (.bor false false)))), (78, .own false (.bor false false)), (79, .bor true false), (80, .bor true false), (81, .bor false true), (82, .own false (.bor false false)), (89, .bor true false), (90, .pair (.own false (.bor false false)) (.pair (.own false (.bor false false)) (.bor false false))), (92, .bor false true), (93, .bor false true), (94, .own false (.bor false false)), (98, .bor true false), (99, .pair (.own false (.bor false false)) (.pair (.own false (.bor false false)) (.bor false false))), (106, .own false (.bor false false)), (114, .bor false true), (124, .bor false true), (125, .bor false true), (128, .bor false true), (129, .bor false true)], hasT [81, 120], hasT [9, 10, 11], fun _ => none, lookB bkl⟩
theorem bkls : BkL Try.prog bkl := fun _ h => by cases h
theorem tabs : TabOK Try.prog tab ∧ EqOK Try.prog tab := tab_ok (by kernel_rfl) (by kernel_rfl)
theorem mixed : Try.prog.follows .mixedOrders = true := by kernel_rfl

/-! codemason point.wrong 1 -/
def point_wrong_1_phi (nf : Nat) : Nat → Option Contract := lookC []
def point_wrong_1_keep : Nat → List Nat := lookK []
def point_wrong_1_p (nf : Nat)  (k' : Int) (c1 : List (Int × Int × Int × Unit)) : Option (Bool × Unit) :=
  bif decide (k' < 0) then
    some ((true, ()))
  else
    some ((decide (k' ≥ (↑c1.length : Int)), ()))
def point_wrong_1_f (nf : Nat) (k' : Int) (c1 : List (Int × Int × Int × Unit)) : Option (Bool × Unit) := point_wrong_1_p nf  k' c1
theorem point_wrong_1_eq (nf : Nat) (k' : Int) (c1 : List (Int × Int × Int × Unit)) : runF tab (point_wrong_1_phi nf) point_wrong_1_keep nf [PT.val (Ty.int IntKind.i64) (Md.bor true false), PT.ptr ((Ty.int IntKind.i64).pair ((Ty.int IntKind.i64).pair ((Ty.int IntKind.i64).pair Ty.unit))).sl (Md.bor true false)] [(Ty.bool, Md.bor false true)] (resL ([]) Try.f58) (codeOf Try.f58) ⟨k', c1, ()⟩ = point_wrong_1_f nf k' c1 := by
  have h : runF tab (point_wrong_1_phi nf) point_wrong_1_keep nf [PT.val (Ty.int IntKind.i64) (Md.bor true false), PT.ptr ((Ty.int IntKind.i64).pair ((Ty.int IntKind.i64).pair ((Ty.int IntKind.i64).pair Ty.unit))).sl (Md.bor true false)] [(Ty.bool, Md.bor false true)] (resL ([]) Try.f58) (codeOf Try.f58) ⟨k', c1, ()⟩ = point_wrong_1_p nf  k' c1 := by kernel_rfl
  exact h
def point_wrong_1_F (nf : Nat) (x : denPs [.val (.int .i64) (.bor true false), .ptr (.sl (.pair (.int .i64) (.pair (.int .i64) (.pair (.int .i64) (.unit))))) (.bor true false)]) : Option (denL [(.bool, .bor false true)]) := point_wrong_1_f nf x.1 x.2.1
def point_wrong_1_C (nf : Nat) : Contract := ⟨[.val (.int .i64) (.bor true false), .ptr (.sl (.pair (.int .i64) (.pair (.int .i64) (.pair (.int .i64) (.unit))))) (.bor true false)], [(.bool, .bor false true)], point_wrong_1_F nf, []⟩
theorem point_wrong_1_ok : FnOK Try.prog 58 := ⟨Try.f58, codeOf Try.f58, Try.func58, by kernel_rfl, by kernel_rfl⟩
theorem point_wrong_1_holds (nf : Nat) : Contract.Holds Try.prog 58 (point_wrong_1_C nf) :=
  fn_holds (Φ := point_wrong_1_phi nf) (keep := point_wrong_1_keep) (n := nf) ⟨tabs.1, tabs.2, ctx_nil, mixed, bk_ok bkls rfl⟩ (fn := Try.f58) ⟨Try.func58, by kernel_rfl, by kernel_rfl, by kernel_rfl⟩ (fun x => point_wrong_1_eq nf x.1 x.2.1)

/-! slices.IndexFunc   int int  codemason point.wrong 1 -/
def slices_IndexFunc__point_wrong_1_phi (nf : Nat) : Nat → Option Contract := lookC [(58, point_wrong_1_C nf)]
def slices_IndexFunc__point_wrong_1_keep : Nat → List Nat := lookK [(0, [0, 1, 7, 8])]
def slices_IndexFunc__point_wrong_1_b0 (nf : Nat) (s : List Int) (f : List (Int × Int × Int × Unit) × Unit) (g0 : Int → Option (Int × Unit)) (t8 : Int) : Option (Int × Unit) :=
  bif decide (t8 < (↑s.length : Int)) then
    bif inb t8 s.length then
      Option.bind (point_wrong_1_f nf (s.getD t8.toNat 0) f.fst) fun r =>
      bif r.fst then
        some ((t8, ()))
      else
        g0 (IntKind.i64.wrap (t8 + 1))
    else
      none
  else
    some ((-1, ()))
def slices_IndexFunc__point_wrong_1_p (nf : Nat) (l0 : List Int → List (Int × Int × Int × Unit) × Unit → Int → Option (Int × Unit)) (s : List Int) (f : List (Int × Int × Int × Unit) × Unit) : Option (Int × Unit) :=
  l0 s f 0
def slices_IndexFunc__point_wrong_1_l0 (nf : Nat) (s : List Int) (f : List (Int × Int × Int × Unit) × Unit) : Nat → Int → Option (Int × Unit)
  | 0, _ => none
  | fu + 1, t8 => slices_IndexFunc__point_wrong_1_b0 nf  s f  (slices_IndexFunc__point_wrong_1_l0 nf s f  fu) t8
def slices_IndexFunc__point_wrong_1_f (nf : Nat) (s : List Int) (f : List (Int × Int × Int × Unit) × Unit) : Option (Int × Unit) := slices_IndexFunc__point_wrong_1_p nf (fun p0 p1 v0 => slices_IndexFunc__point_wrong_1_l0 nf p0 p1 nf v0) s f
noncomputable def slices_IndexFunc__point_wrong_1_L0 (nf : Nat) : LC (Int × Unit) := theL (findL tab (slices_IndexFunc__point_wrong_1_phi nf) (fun _ F => iter nf F) slices_IndexFunc__point_wrong_1_keep 0 0 (codeOf Try.f62) (fin tab [(Ty.int IntKind.i64, Md.bor false true)] (resL ([]) Try.f62)) (fun _ _ => none) (fin tab [(Ty.int IntKind.i64, Md.bor false true)] (resL ([]) Try.f62)))
def slices_IndexFunc__point_wrong_1_m0 (s : List Int) (f : List (Int × Int × Int × Unit) × Unit) (t8 : Int) : St := ⟨fresh, [(0, AV.v (Ty.int IntKind.i64).sl (Md.bor true false) s), (1, AV.clo 58 [AV.rop ((Ty.int IntKind.i64).pair ((Ty.int IntKind.i64).pair ((Ty.int IntKind.i64).pair Ty.unit))).sl (Md.bor true false) f.fst]), (7, AV.v (Ty.int IntKind.i64) (Md.bor false true) (↑s.length : Int)), (8, AV.v (Ty.int IntKind.i64) (Md.bor false true) t8)]⟩
theorem slices_IndexFunc__point_wrong_1_h0 (nf : Nat)  (s : List Int) (f : List (Int × Int × Int × Unit) × Unit) (fu : Nat) (t8 : Int) : iter (fu + 1) (LC.F tab (slices_IndexFunc__point_wrong_1_phi nf) (fun _ F => iter nf F) slices_IndexFunc__point_wrong_1_keep 0 (slices_IndexFunc__point_wrong_1_L0 nf )) (slices_IndexFunc__point_wrong_1_m0 s f t8) = slices_IndexFunc__point_wrong_1_b0 nf  s f  (fun t8 => iter fu (LC.F tab (slices_IndexFunc__point_wrong_1_phi nf) (fun _ F => iter nf F) slices_IndexFunc__point_wrong_1_keep 0 (slices_IndexFunc__point_wrong_1_L0 nf )) (slices_IndexFunc__point_wrong_1_m0 s f t8)) t8 := by kernel_rfl
theorem slices_IndexFunc__point_wrong_1_e0 (nf : Nat)  (s : List Int) (f : List (Int × Int × Int × Unit) × Unit) : ∀ (fu : Nat) (t8 : Int), iter fu (LC.F tab (slices_IndexFunc__point_wrong_1_phi nf) (fun _ F => iter nf F) slices_IndexFunc__point_wrong_1_keep 0 (slices_IndexFunc__point_wrong_1_L0 nf )) (slices_IndexFunc__point_wrong_1_m0 s f t8) = slices_IndexFunc__point_wrong_1_l0 nf s f  fu t8 := by
  intro fu
  induction fu with
  | zero => intros; rfl
  | succ fu ih =>
    intro t8
    rw [slices_IndexFunc__point_wrong_1_h0 nf  s f fu t8]
    simp only [ih]
    rfl
theorem slices_IndexFunc__point_wrong_1_eq (nf : Nat) (s : List Int) (f : List (Int × Int × Int × Unit) × Unit) : runF tab (slices_IndexFunc__point_wrong_1_phi nf) slices_IndexFunc__point_wrong_1_keep nf [PT.val (Ty.int IntKind.i64).sl (Md.bor true false), PT.clo 58 [(((Ty.int IntKind.i64).pair ((Ty.int IntKind.i64).pair ((Ty.int IntKind.i64).pair Ty.unit))).sl, Md.bor true false)]] [(Ty.int IntKind.i64, Md.bor false true)] (resL ([]) Try.f62) (codeOf Try.f62) ⟨s, f, ()⟩ = slices_IndexFunc__point_wrong_1_f nf s f := by
  have h : runF tab (slices_IndexFunc__point_wrong_1_phi nf) slices_IndexFunc__point_wrong_1_keep nf [PT.val (Ty.int IntKind.i64).sl (Md.bor true false), PT.clo 58 [(((Ty.int IntKind.i64).pair ((Ty.int IntKind.i64).pair ((Ty.int IntKind.i64).pair Ty.unit))).sl, Md.bor true false)]] [(Ty.int IntKind.i64, Md.bor false true)] (resL ([]) Try.f62) (codeOf Try.f62) ⟨s, f, ()⟩ = slices_IndexFunc__point_wrong_1_p nf (fun p0 p1 v0 => iter nf (LC.F tab (slices_IndexFunc__point_wrong_1_phi nf) (fun _ F => iter nf F) slices_IndexFunc__point_wrong_1_keep 0 (slices_IndexFunc__point_wrong_1_L0 nf)) (slices_IndexFunc__point_wrong_1_m0 p0 p1 v0)) s f := by kernel_rfl
  rw [h]
  simp only [slices_IndexFunc__point_wrong_1_e0]
  rfl
def slices_IndexFunc__point_wrong_1_F (nf : Nat) (x : denPs [.val (.sl (.int .i64)) (.bor true false), .clo 58 [(.sl (.pair (.int .i64) (.pair (.int .i64) (.pair (.int .i64) (.unit)))), .bor true false)]]) : Option (denL [(.int .i64, .bor false true)]) := slices_IndexFunc__point_wrong_1_f nf x.1 x.2.1
def slices_IndexFunc__point_wrong_1_C (nf : Nat) : Contract := ⟨[.val (.sl (.int .i64)) (.bor true false), .clo 58 [(.sl (.pair (.int .i64) (.pair (.int .i64) (.pair (.int .i64) (.unit)))), .bor true false)]], [(.int .i64, .bor false true)], slices_IndexFunc__point_wrong_1_F nf, []⟩
theorem slices_IndexFunc__point_wrong_1_ok : FnOK Try.prog 62 := ⟨Try.f62, codeOf Try.f62, Try.func62, by kernel_rfl, by kernel_rfl⟩
theorem slices_IndexFunc__point_wrong_1_holds (nf : Nat) : Contract.Holds Try.prog 62 (slices_IndexFunc__point_wrong_1_C nf) :=
  fn_holds (Φ := slices_IndexFunc__point_wrong_1_phi nf) (keep := slices_IndexFunc__point_wrong_1_keep) (n := nf) ⟨tabs.1, tabs.2, (ctx_cons point_wrong_1_ok (point_wrong_1_holds nf) ctx_nil), mixed, bk_ok bkls rfl⟩ (fn := Try.f62) ⟨Try.func62, by kernel_rfl, by kernel_rfl, by kernel_rfl⟩ (fun x => slices_IndexFunc__point_wrong_1_eq nf x.1 x.2.1)

/-! slices.ContainsFunc   int int  codemason point.wrong 1 -/
def slices_ContainsFunc__point_wrong_1_phi (nf : Nat) : Nat → Option Contract := lookC [(62, slices_IndexFunc__point_wrong_1_C nf)]
def slices_ContainsFunc__point_wrong_1_keep : Nat → List Nat := lookK []
def slices_ContainsFunc__point_wrong_1_p (nf : Nat)  (s : List Int) (f : List (Int × Int × Int × Unit) × Unit) : Option (Bool × Unit) :=
  Option.bind (slices_IndexFunc__point_wrong_1_f nf s ((f.fst, ()))) fun r =>
  some ((decide (r.fst ≥ 0), ()))
def slices_ContainsFunc__point_wrong_1_f (nf : Nat) (s : List Int) (f : List (Int × Int × Int × Unit) × Unit) : Option (Bool × Unit) := slices_ContainsFunc__point_wrong_1_p nf  s f
theorem slices_ContainsFunc__point_wrong_1_eq (nf : Nat) (s : List Int) (f : List (Int × Int × Int × Unit) × Unit) : runF tab (slices_ContainsFunc__point_wrong_1_phi nf) slices_ContainsFunc__point_wrong_1_keep nf [PT.val (Ty.int IntKind.i64).sl (Md.bor true false), PT.clo 58 [(((Ty.int IntKind.i64).pair ((Ty.int IntKind.i64).pair ((Ty.int IntKind.i64).pair Ty.unit))).sl, Md.bor true false)]] [(Ty.bool, Md.bor false true)] (resL ([]) Try.f57) (codeOf Try.f57) ⟨s, f, ()⟩ = slices_ContainsFunc__point_wrong_1_f nf s f := by
  have h : runF tab (slices_ContainsFunc__point_wrong_1_phi nf) slices_ContainsFunc__point_wrong_1_keep nf [PT.val (Ty.int IntKind.i64).sl (Md.bor true false), PT.clo 58 [(((Ty.int IntKind.i64).pair ((Ty.int IntKind.i64).pair ((Ty.int IntKind.i64).pair Ty.unit))).sl, Md.bor true false)]] [(Ty.bool, Md.bor false true)] (resL ([]) Try.f57) (codeOf Try.f57) ⟨s, f, ()⟩ = slices_ContainsFunc__point_wrong_1_p nf  s f := by kernel_rfl
  exact h
def slices_ContainsFunc__point_wrong_1_F (nf : Nat) (x : denPs [.val (.sl (.int .i64)) (.bor true false), .clo 58 [(.sl (.pair (.int .i64) (.pair (.int .i64) (.pair (.int .i64) (.unit)))), .bor true false)]]) : Option (denL [(.bool, .bor false true)]) := slices_ContainsFunc__point_wrong_1_f nf x.1 x.2.1
def slices_ContainsFunc__point_wrong_1_C (nf : Nat) : Contract := ⟨[.val (.sl (.int .i64)) (.bor true false), .clo 58 [(.sl (.pair (.int .i64) (.pair (.int .i64) (.pair (.int .i64) (.unit)))), .bor true false)]], [(.bool, .bor false true)], slices_ContainsFunc__point_wrong_1_F nf, []⟩
theorem slices_ContainsFunc__point_wrong_1_ok : FnOK Try.prog 57 := ⟨Try.f57, codeOf Try.f57, Try.func57, by kernel_rfl, by kernel_rfl⟩
theorem slices_ContainsFunc__point_wrong_1_holds (nf : Nat) : Contract.Holds Try.prog 57 (slices_ContainsFunc__point_wrong_1_C nf) :=
  fn_holds (Φ := slices_ContainsFunc__point_wrong_1_phi nf) (keep := slices_ContainsFunc__point_wrong_1_keep) (n := nf) ⟨tabs.1, tabs.2, (ctx_cons slices_IndexFunc__point_wrong_1_ok (slices_IndexFunc__point_wrong_1_holds nf) ctx_nil), mixed, bk_ok bkls rfl⟩ (fn := Try.f57) ⟨Try.func57, by kernel_rfl, by kernel_rfl, by kernel_rfl⟩ (fun x => slices_ContainsFunc__point_wrong_1_eq nf x.1 x.2.1)

/-! codemason point.wrong -/
def point_wrong_phi (nf : Nat) : Nat → Option Contract := lookC [(57, slices_ContainsFunc__point_wrong_1_C nf)]
def point_wrong_keep : Nat → List Nat := lookK [(0, [0, 1, 2, 4, 25, 26, 27])]
def point_wrong_b0 (nf : Nat) (vars : Int) (l' : List (Int × Int × Int × Unit)) (script : List Int) (g0 : List (Int × Int × Int × Unit) → Int → Option (Int × Unit)) (l'2 : List (Int × Int × Int × Unit)) (t27 : Int) : Option (Int × Unit) :=
  bif decide (t27 < (↑l'.length : Int)) then
    bif inb t27 l'.length then
      bif decide ((l'.getD t27.toNat (0, 0, 0, ())).fst < 1) then
        some ((6, ()))
      else
        bif decide ((l'.getD t27.toNat (0, 0, 0, ())).fst > 4) then
          some ((6, ()))
        else
          bif decide ((if (l'.getD t27.toNat (0, 0, 0, ())).snd.snd.fst < (l'.getD t27.toNat (0, 0, 0, ())).snd.fst then (l'.getD t27.toNat (0, 0, 0, ())).snd.snd.fst else (l'.getD t27.toNat (0, 0, 0, ())).snd.fst) < 0) then
            some ((2, ()))
          else
            bif decide ((if (l'.getD t27.toNat (0, 0, 0, ())).snd.snd.fst > (l'.getD t27.toNat (0, 0, 0, ())).snd.fst then (l'.getD t27.toNat (0, 0, 0, ())).snd.snd.fst else (l'.getD t27.toNat (0, 0, 0, ())).snd.fst) ≥ vars) then
              some ((2, ()))
            else
              g0 l'2 (IntKind.i64.wrap (t27 + 1))
    else
      none
  else
    Option.bind (slices_ContainsFunc__point_wrong_1_f nf script ((l'2, ()))) fun r =>
    bif r.fst then
      some ((5, ()))
    else
      some ((0, ()))
def point_wrong_p (nf : Nat) (l0 : Int → List (Int × Int × Int × Unit) → List Int → List (Int × Int × Int × Unit) → Int → Option (Int × Unit)) (vars : Int) (l' : List (Int × Int × Int × Unit)) (script : List Int) : Option (Int × Unit) :=
  bif decide (vars < 1) then
    some ((1, ()))
  else
    bif decide (vars > 8) then
      some ((1, ()))
    else
      bif decide ((↑l'.length : Int) > 12) then
        some ((1, ()))
      else
        bif decide ((↑script.length : Int) > 200) then
          some ((1, ()))
        else
          l0 vars l' script l' 0
def point_wrong_l0 (nf : Nat) (vars : Int) (l' : List (Int × Int × Int × Unit)) (script : List Int) : Nat → List (Int × Int × Int × Unit) → Int → Option (Int × Unit)
  | 0, _, _ => none
  | fu + 1, l'2, t27 => point_wrong_b0 nf  vars l' script  (point_wrong_l0 nf vars l' script  fu) l'2 t27
def point_wrong_f (nf : Nat) (vars : Int) (l' : List (Int × Int × Int × Unit)) (script : List Int) : Option (Int × Unit) := point_wrong_p nf (fun p0 p1 p2 v0 v1 => point_wrong_l0 nf p0 p1 p2 nf v0 v1) vars l' script
noncomputable def point_wrong_L0 (nf : Nat) : LC (Int × Unit) := theL (findL tab (point_wrong_phi nf) (fun _ F => iter nf F) point_wrong_keep 0 0 (codeOf Try.f46) (fin tab [(Ty.int IntKind.i64, Md.bor false true)] (resL ([]) Try.f46)) (fun _ _ => none) (fin tab [(Ty.int IntKind.i64, Md.bor false true)] (resL ([]) Try.f46)))
def point_wrong_m0 (vars : Int) (l' : List (Int × Int × Int × Unit)) (script : List Int) (l'2 : List (Int × Int × Int × Unit)) (t27 : Int) : St := ⟨fresh, [(0, AV.v (Ty.int IntKind.i64) (Md.bor false true) vars), (1, AV.v ((Ty.int IntKind.i64).pair ((Ty.int IntKind.i64).pair ((Ty.int IntKind.i64).pair Ty.unit))).sl (Md.bor true false) l'), (2, AV.v (Ty.int IntKind.i64).sl (Md.bor true false) script), (4, AV.box 4 500004 ((Ty.int IntKind.i64).pair ((Ty.int IntKind.i64).pair ((Ty.int IntKind.i64).pair Ty.unit))).sl (Md.bor true false) l'2), (25, AV.v ((Ty.int IntKind.i64).pair ((Ty.int IntKind.i64).pair ((Ty.int IntKind.i64).pair Ty.unit))).sl (Md.bor true false) l'), (26, AV.v (Ty.int IntKind.i64) (Md.bor false true) (↑l'.length : Int)), (27, AV.v (Ty.int IntKind.i64) (Md.bor false true) t27)]⟩
theorem point_wrong_h0 (nf : Nat)  (vars : Int) (l' : List (Int × Int × Int × Unit)) (script : List Int) (fu : Nat) (l'2 : List (Int × Int × Int × Unit)) (t27 : Int) : iter (fu + 1) (LC.F tab (point_wrong_phi nf) (fun _ F => iter nf F) point_wrong_keep 0 (point_wrong_L0 nf )) (point_wrong_m0 vars l' script l'2 t27) = point_wrong_b0 nf  vars l' script  (fun l'2 t27 => iter fu (LC.F tab (point_wrong_phi nf) (fun _ F => iter nf F) point_wrong_keep 0 (point_wrong_L0 nf )) (point_wrong_m0 vars l' script l'2 t27)) l'2 t27 := by kernel_rfl
theorem point_wrong_e0 (nf : Nat)  (vars : Int) (l' : List (Int × Int × Int × Unit)) (script : List Int) : ∀ (fu : Nat) (l'2 : List (Int × Int × Int × Unit)) (t27 : Int), iter fu (LC.F tab (point_wrong_phi nf) (fun _ F => iter nf F) point_wrong_keep 0 (point_wrong_L0 nf )) (point_wrong_m0 vars l' script l'2 t27) = point_wrong_l0 nf vars l' script  fu l'2 t27 := by
  intro fu
  induction fu with
  | zero => intros; rfl
  | succ fu ih =>
    intro l'2 t27
    rw [point_wrong_h0 nf  vars l' script fu l'2 t27]
    simp only [ih]
    rfl
theorem point_wrong_eq (nf : Nat) (vars : Int) (l' : List (Int × Int × Int × Unit)) (script : List Int) : runF tab (point_wrong_phi nf) point_wrong_keep nf [PT.val (Ty.int IntKind.i64) (Md.bor true false), PT.val ((Ty.int IntKind.i64).pair ((Ty.int IntKind.i64).pair ((Ty.int IntKind.i64).pair Ty.unit))).sl (Md.bor true false), PT.val (Ty.int IntKind.i64).sl (Md.bor true false)] [(Ty.int IntKind.i64, Md.bor false true)] (resL ([]) Try.f46) (codeOf Try.f46) ⟨vars, l', script, ()⟩ = point_wrong_f nf vars l' script := by
  have h : runF tab (point_wrong_phi nf) point_wrong_keep nf [PT.val (Ty.int IntKind.i64) (Md.bor true false), PT.val ((Ty.int IntKind.i64).pair ((Ty.int IntKind.i64).pair ((Ty.int IntKind.i64).pair Ty.unit))).sl (Md.bor true false), PT.val (Ty.int IntKind.i64).sl (Md.bor true false)] [(Ty.int IntKind.i64, Md.bor false true)] (resL ([]) Try.f46) (codeOf Try.f46) ⟨vars, l', script, ()⟩ = point_wrong_p nf (fun p0 p1 p2 v0 v1 => iter nf (LC.F tab (point_wrong_phi nf) (fun _ F => iter nf F) point_wrong_keep 0 (point_wrong_L0 nf)) (point_wrong_m0 p0 p1 p2 v0 v1)) vars l' script := by kernel_rfl
  rw [h]
  simp only [point_wrong_e0]
  rfl
def point_wrong_F (nf : Nat) (x : denPs [.val (.int .i64) (.bor true false), .val (.sl (.pair (.int .i64) (.pair (.int .i64) (.pair (.int .i64) (.unit))))) (.bor true false), .val (.sl (.int .i64)) (.bor true false)]) : Option (denL [(.int .i64, .bor false true)]) := point_wrong_f nf x.1 x.2.1 x.2.2.1
def point_wrong_C (nf : Nat) : Contract := ⟨[.val (.int .i64) (.bor true false), .val (.sl (.pair (.int .i64) (.pair (.int .i64) (.pair (.int .i64) (.unit))))) (.bor true false), .val (.sl (.int .i64)) (.bor true false)], [(.int .i64, .bor false true)], point_wrong_F nf, []⟩
theorem point_wrong_ok : FnOK Try.prog 46 := ⟨Try.f46, codeOf Try.f46, Try.func46, by kernel_rfl, by kernel_rfl⟩
theorem point_wrong_holds (nf : Nat) : Contract.Holds Try.prog 46 (point_wrong_C nf) :=
  fn_holds (Φ := point_wrong_phi nf) (keep := point_wrong_keep) (n := nf) ⟨tabs.1, tabs.2, (ctx_cons slices_ContainsFunc__point_wrong_1_ok (slices_ContainsFunc__point_wrong_1_holds nf) ctx_nil), mixed, bk_ok bkls rfl⟩ (fn := Try.f46) ⟨Try.func46, by kernel_rfl, by kernel_rfl, by kernel_rfl⟩ (fun x => point_wrong_eq nf x.1 x.2.1 x.2.2.1)

/-! slices.Clone   uint32 uint32  -/
def slices_Clone_phi (nf : Nat) : Nat → Option Contract := lookC []
def slices_Clone_keep : Nat → List Nat := lookK []
def slices_Clone_p (nf : Nat)  (s : List Int) : Option (List Int × Unit) :=
  bif s.isEmpty then
    both (some (([], ()))) (bif bimp false !s.isEmpty && ((List.length ([] : List Unit)) + s.length).ble lim then
      some (([] ++ s, ()))
    else
      none)
  else
    bif bimp false !s.isEmpty && ((List.length ([] : List Unit)) + s.length).ble lim then
      some (([] ++ s, ()))
    else
      none
def slices_Clone_f (nf : Nat) (s : List Int) : Option (List Int × Unit) := slices_Clone_p nf  s
theorem slices_Clone_eq (nf : Nat) (s : List Int) : runF tab (slices_Clone_phi nf) slices_Clone_keep nf [PT.val (Ty.int IntKind.u32).sl (Md.bor true false)] [((Ty.int IntKind.u32).sl, Md.own false (Md.bor false false))] (resL ([]) Try.f47) (codeOf Try.f47) ⟨s, ()⟩ = slices_Clone_f nf s := by
  have h : runF tab (slices_Clone_phi nf) slices_Clone_keep nf [PT.val (Ty.int IntKind.u32).sl (Md.bor true false)] [((Ty.int IntKind.u32).sl, Md.own false (Md.bor false false))] (resL ([]) Try.f47) (codeOf Try.f47) ⟨s, ()⟩ = slices_Clone_p nf  s := by kernel_rfl
  exact h
def slices_Clone_F (nf : Nat) (x : denPs [.val (.sl (.int .u32)) (.bor true false)]) : Option (denL [(.sl (.int .u32), .own false (.bor false false))]) := slices_Clone_f nf x.1
def slices_Clone_C (nf : Nat) : Contract := ⟨[.val (.sl (.int .u32)) (.bor true false)], [(.sl (.int .u32), .own false (.bor false false))], slices_Clone_F nf, []⟩
theorem slices_Clone_ok : FnOK Try.prog 47 := ⟨Try.f47, codeOf Try.f47, Try.func47, by kernel_rfl, by kernel_rfl⟩
theorem slices_Clone_holds (nf : Nat) : Contract.Holds Try.prog 47 (slices_Clone_C nf) :=
  fn_holds (Φ := slices_Clone_phi nf) (keep := slices_Clone_keep) (n := nf) ⟨tabs.1, tabs.2, ctx_nil, mixed, bk_ok bkls rfl⟩ (fn := Try.f47) ⟨Try.func47, by kernel_rfl, by kernel_rfl, by kernel_rfl⟩ (fun x => slices_Clone_eq nf x.1)

/-! slices.Equal   uint32 uint32  -/
def slices_Equal_phi (nf : Nat) : Nat → Option Contract := lookC []
def slices_Equal_keep : Nat → List Nat := lookK [(0, [0, 1, 12, 13])]
def slices_Equal_b0 (nf : Nat) (s1 : List Int) (s2 : List Int) (g0 : Int → Option (Bool × Unit)) (t13 : Int) : Option (Bool × Unit) :=
  bif decide (t13 < (↑s1.length : Int)) then
    bif inb t13 s1.length then
      bif inb t13 s2.length then
        bif s1.getD t13.toNat 0 != s2.getD t13.toNat 0 then
          some ((false, ()))
        else
          g0 (IntKind.i64.wrap (t13 + 1))
      else
        none
    else
      none
  else
    some ((true, ()))
def slices_Equal_p (nf : Nat) (l0 : List Int → List Int → Int → Option (Bool × Unit)) (s1 : List Int) (s2 : List Int) : Option (Bool × Unit) :=
  bif (↑s1.length : Int) != (↑s2.length : Int) then
    some ((false, ()))
  else
    l0 s1 s2 0
def slices_Equal_l0 (nf : Nat) (s1 : List Int) (s2 : List Int) : Nat → Int → Option (Bool × Unit)
  | 0, _ => none
  | fu + 1, t13 => slices_Equal_b0 nf  s1 s2  (slices_Equal_l0 nf s1 s2  fu) t13
def slices_Equal_f (nf : Nat) (s1 : List Int) (s2 : List Int) : Option (Bool × Unit) := slices_Equal_p nf (fun p0 p1 v0 => slices_Equal_l0 nf p0 p1 nf v0) s1 s2
noncomputable def slices_Equal_L0 (nf : Nat) : LC (Bool × Unit) := theL (findL tab (slices_Equal_phi nf) (fun _ F => iter nf F) slices_Equal_keep 0 0 (codeOf Try.f48) (fin tab [(Ty.bool, Md.bor false true)] (resL ([]) Try.f48)) (fun _ _ => none) (fin tab [(Ty.bool, Md.bor false true)] (resL ([]) Try.f48)))
def slices_Equal_m0 (s1 : List Int) (s2 : List Int) (t13 : Int) : St := ⟨fresh, [(0, AV.v (Ty.int IntKind.u32).sl (Md.bor true false) s1), (1, AV.v (Ty.int IntKind.u32).sl (Md.bor true false) s2), (12, AV.v (Ty.int IntKind.i64) (Md.bor false true) (↑s1.length : Int)), (13, AV.v (Ty.int IntKind.i64) (Md.bor false true) t13)]⟩
theorem slices_Equal_h0 (nf : Nat)  (s1 : List Int) (s2 : List Int) (fu : Nat) (t13 : Int) : iter (fu + 1) (LC.F tab (slices_Equal_phi nf) (fun _ F => iter nf F) slices_Equal_keep 0 (slices_Equal_L0 nf )) (slices_Equal_m0 s1 s2 t13) = slices_Equal_b0 nf  s1 s2  (fun t13 => iter fu (LC.F tab (slices_Equal_phi nf) (fun _ F => iter nf F) slices_Equal_keep 0 (slices_Equal_L0 nf )) (slices_Equal_m0 s1 s2 t13)) t13 := by kernel_rfl
theorem slices_Equal_e0 (nf : Nat)  (s1 : List Int) (s2 : List Int) : ∀ (fu : Nat) (t13 : Int), iter fu (LC.F tab (slices_Equal_phi nf) (fun _ F => iter nf F) slices_Equal_keep 0 (slices_Equal_L0 nf )) (slices_Equal_m0 s1 s2 t13) = slices_Equal_l0 nf s1 s2  fu t13 := by
  intro fu
  induction fu with
  | zero => intros; rfl
  | succ fu ih =>
    intro t13
    rw [slices_Equal_h0 nf  s1 s2 fu t13]
    simp only [ih]
    rfl
theorem slices_Equal_eq (nf : Nat) (s1 : List Int) (s2 : List Int) : runF tab (slices_Equal_phi nf) slices_Equal_keep nf [PT.val (Ty.int IntKind.u32).sl (Md.bor true false), PT.val (Ty.int IntKind.u32).sl (Md.bor true false)] [(Ty.bool, Md.bor false true)] (resL ([]) Try.f48) (codeOf Try.f48) ⟨s1, s2, ()⟩ = slices_Equal_f nf s1 s2 := by
  have h : runF tab (slices_Equal_phi nf) slices_Equal_keep nf [PT.val (Ty.int IntKind.u32).sl (Md.bor true false), PT.val (Ty.int IntKind.u32).sl (Md.bor true false)] [(Ty.bool, Md.bor false true)] (resL ([]) Try.f48) (codeOf Try.f48) ⟨s1, s2, ()⟩ = slices_Equal_p nf (fun p0 p1 v0 => iter nf (LC.F tab (slices_Equal_phi nf) (fun _ F => iter nf F) slices_Equal_keep 0 (slices_Equal_L0 nf)) (slices_Equal_m0 p0 p1 v0)) s1 s2 := by kernel_rfl
  rw [h]
  simp only [slices_Equal_e0]
  rfl
def slices_Equal_F (nf : Nat) (x : denPs [.val (.sl (.int .u32)) (.bor true false), .val (.sl (.int .u32)) (.bor true false)]) : Option (denL [(.bool, .bor false true)]) := slices_Equal_f nf x.1 x.2.1
def slices_Equal_C (nf : Nat) : Contract := ⟨[.val (.sl (.int .u32)) (.bor true false), .val (.sl (.int .u32)) (.bor true false)], [(.bool, .bor false true)], slices_Equal_F nf, []⟩
theorem slices_Equal_ok : FnOK Try.prog 48 := ⟨Try.f48, codeOf Try.f48, Try.func48, by kernel_rfl, by kernel_rfl⟩
theorem slices_Equal_holds (nf : Nat) : Contract.Holds Try.prog 48 (slices_Equal_C nf) :=
  fn_holds (Φ := slices_Equal_phi nf) (keep := slices_Equal_keep) (n := nf) ⟨tabs.1, tabs.2, ctx_nil, mixed, bk_ok bkls rfl⟩ (fn := Try.f48) ⟨Try.func48, by kernel_rfl, by kernel_rfl, by kernel_rfl⟩ (fun x => slices_Equal_eq nf x.1 x.2.1)

/-! codemason point.Within -/
def point_Within_phi (nf : Nat) : Nat → Option Contract := lookC [(46, point_wrong_C nf), (47, slices_Clone_C nf), (48, slices_Equal_C nf)]
def point_Within_keep : Nat → List Nat := lookK [(5, [1, 7, 9, 11, 20, 23, 24, 25, 26, 33, 34]), (2, [1, 7, 9, 20, 23, 24, 25, 26]), (0, [1, 7, 8, 20])]
def point_Within_b0 (nf : Nat) (l2 : List (Int × Int × Int × Unit) → List Int → List Int → Int → Option (List Int × Int × Unit)) (l' : List (Int × Int × Int × Unit)) (g0 : List Int → Bool → Option (List Int × Int × Unit)) (to' : List Int) (more : Bool) : Option (List Int × Int × Unit) :=
  bif more then
    Option.bind (slices_Clone_f nf to') fun r2 =>
    l2 l' to' r2.fst 0
  else
    some ((to', 0, ()))
def point_Within_b2 (nf : Nat) (l5 : List (Int × Int × Int × Unit) → Int → List Int → List Int → List Int → Int × Int × Int × Unit → Int → Option (List Int × Int × Unit)) (l' : List (Int × Int × Int × Unit)) (g0 : List Int → Bool → Option (List Int × Int × Unit)) (g2 : List Int → List Int → Int → Option (List Int × Int × Unit)) (to'2 : List Int) (was : List Int) (t26 : Int) : Option (List Int × Int × Unit) :=
  bif decide (t26 < (↑l'.length : Int)) then
    bif inb t26 l'.length then
      bif (l'.getD t26.toNat (0, 0, 0, ())).fst == 1 then
        bif inb (l'.getD t26.toNat (0, 0, 0, ())).snd.fst to'2.length then
          bif decide (0 ≤ (l'.getD t26.toNat (0, 0, 0, ())).snd.snd.fst) then
            bif inb (l'.getD t26.toNat (0, 0, 0, ())).snd.fst to'2.length then
              g2 (to'2.set (Int.toNat (l'.getD t26.toNat (0, 0, 0, ())).snd.fst) (IntKind.u32.wrap (↑(BitVec.ofInt IntKind.u32.bits (to'2.getD (Int.toNat (l'.getD t26.toNat (0, 0, 0, ())).snd.fst) 0) ||| BitVec.ofInt IntKind.u32.bits (shlI IntKind.u32 1 (l'.getD t26.toNat (0, 0, 0, ())).snd.snd.fst)).toNat : Int))) was (IntKind.i64.wrap (t26 + 1))
            else
              none
          else
            none
        else
          none
      else
        bif (l'.getD t26.toNat (0, 0, 0, ())).fst == 2 then
          bif inb (l'.getD t26.toNat (0, 0, 0, ())).snd.fst to'2.length then
            bif inb (l'.getD t26.toNat (0, 0, 0, ())).snd.snd.fst to'2.length then
              bif inb (l'.getD t26.toNat (0, 0, 0, ())).snd.fst to'2.length then
                g2 (to'2.set (Int.toNat (l'.getD t26.toNat (0, 0, 0, ())).snd.fst) (IntKind.u32.wrap (↑(BitVec.ofInt IntKind.u32.bits (to'2.getD (Int.toNat (l'.getD t26.toNat (0, 0, 0, ())).snd.fst) 0) ||| BitVec.ofInt IntKind.u32.bits (to'2.getD (Int.toNat (l'.getD t26.toNat (0, 0, 0, ())).snd.snd.fst) 0)).toNat : Int))) was (IntKind.i64.wrap (t26 + 1))
              else
                none
            else
              none
          else
            none
        else
          l5 l' t26 to'2 to'2 was (l'.getD t26.toNat (0, 0, 0, ())) 0
    else
      none
  else
    Option.bind (slices_Equal_f nf was to'2) fun r3 =>
    g0 to'2 !r3.fst
def point_Within_b5 (nf : Nat) (l' : List (Int × Int × Int × Unit)) (t26 : Int) (to'2 : List Int) (g2 : List Int → List Int → Int → Option (List Int × Int × Unit)) (g0 : List Int → Bool → Option (List Int × Int × Unit)) (g5 : List Int → List Int → Int × Int × Int × Unit → Int → Option (List Int × Int × Unit)) (to'3 : List Int) (was2 : List Int) (p : Int × Int × Int × Unit) (t34 : Int) : Option (List Int × Int × Unit) :=
  bif decide (t34 < (↑to'2.length : Int)) then
    bif p.fst == 3 then
      bif inb p.snd.snd.fst to'3.length then
        bif decide (0 ≤ t34) then
          bif IntKind.u32.wrap (↑(BitVec.ofInt IntKind.u32.bits (shrI IntKind.u32 (to'3.getD (Int.toNat p.snd.snd.fst) 0) t34) &&& BitVec.ofInt IntKind.u32.bits 1).toNat : Int) == 1 then
            bif inb p.snd.fst to'3.length then
              bif inb t34 to'3.length then
                bif inb p.snd.fst to'3.length then
                  bif p.fst == 4 then
                    bif inb p.snd.fst (to'3.set (Int.toNat p.snd.fst) (IntKind.u32.wrap (↑(BitVec.ofInt IntKind.u32.bits (to'3.getD (Int.toNat p.snd.fst) 0) ||| BitVec.ofInt IntKind.u32.bits (to'3.getD t34.toNat 0)).toNat : Int))).length then
                      bif decide (0 ≤ t34) then
                        bif IntKind.u32.wrap (↑(BitVec.ofInt IntKind.u32.bits (shrI IntKind.u32 ((to'3.set (Int.toNat p.snd.fst) (IntKind.u32.wrap (↑(BitVec.ofInt IntKind.u32.bits (to'3.getD (Int.toNat p.snd.fst) 0) ||| BitVec.ofInt IntKind.u32.bits (to'3.getD t34.toNat 0)).toNat : Int))).getD (Int.toNat p.snd.fst) 0) t34) &&& BitVec.ofInt IntKind.u32.bits 1).toNat : Int) == 1 then
                          bif inb t34 (to'3.set (Int.toNat p.snd.fst) (IntKind.u32.wrap (↑(BitVec.ofInt IntKind.u32.bits (to'3.getD (Int.toNat p.snd.fst) 0) ||| BitVec.ofInt IntKind.u32.bits (to'3.getD t34.toNat 0)).toNat : Int))).length then
                            bif inb p.snd.snd.fst (to'3.set (Int.toNat p.snd.fst) (IntKind.u32.wrap (↑(BitVec.ofInt IntKind.u32.bits (to'3.getD (Int.toNat p.snd.fst) 0) ||| BitVec.ofInt IntKind.u32.bits (to'3.getD t34.toNat 0)).toNat : Int))).length then
                              bif inb t34 (to'3.set (Int.toNat p.snd.fst) (IntKind.u32.wrap (↑(BitVec.ofInt IntKind.u32.bits (to'3.getD (Int.toNat p.snd.fst) 0) ||| BitVec.ofInt IntKind.u32.bits (to'3.getD t34.toNat 0)).toNat : Int))).length then
                                g5 ((to'3.set (Int.toNat p.snd.fst) (IntKind.u32.wrap (↑(BitVec.ofInt IntKind.u32.bits (to'3.getD (Int.toNat p.snd.fst) 0) ||| BitVec.ofInt IntKind.u32.bits (to'3.getD t34.toNat 0)).toNat : Int))).set t34.toNat (IntKind.u32.wrap (↑(BitVec.ofInt IntKind.u32.bits ((to'3.set (Int.toNat p.snd.fst) (IntKind.u32.wrap (↑(BitVec.ofInt IntKind.u32.bits (to'3.getD (Int.toNat p.snd.fst) 0) ||| BitVec.ofInt IntKind.u32.bits (to'3.getD t34.toNat 0)).toNat : Int))).getD t34.toNat 0) ||| BitVec.ofInt IntKind.u32.bits ((to'3.set (Int.toNat p.snd.fst) (IntKind.u32.wrap (↑(BitVec.ofInt IntKind.u32.bits (to'3.getD (Int.toNat p.snd.fst) 0) ||| BitVec.ofInt IntKind.u32.bits (to'3.getD t34.toNat 0)).toNat : Int))).getD (Int.toNat p.snd.snd.fst) 0)).toNat : Int))) was2 p (IntKind.i64.wrap (t34 + 1))
                              else
                                none
                            else
                              none
                          else
                            none
                        else
                          g5 (to'3.set (Int.toNat p.snd.fst) (IntKind.u32.wrap (↑(BitVec.ofInt IntKind.u32.bits (to'3.getD (Int.toNat p.snd.fst) 0) ||| BitVec.ofInt IntKind.u32.bits (to'3.getD t34.toNat 0)).toNat : Int))) was2 p (IntKind.i64.wrap (t34 + 1))
                      else
                        none
                    else
                      none
                  else
                    g5 (to'3.set (Int.toNat p.snd.fst) (IntKind.u32.wrap (↑(BitVec.ofInt IntKind.u32.bits (to'3.getD (Int.toNat p.snd.fst) 0) ||| BitVec.ofInt IntKind.u32.bits (to'3.getD t34.toNat 0)).toNat : Int))) was2 p (IntKind.i64.wrap (t34 + 1))
                else
                  none
              else
                none
            else
              none
          else
            bif p.fst == 4 then
              bif inb p.snd.fst to'3.length then
                bif decide (0 ≤ t34) then
                  bif IntKind.u32.wrap (↑(BitVec.ofInt IntKind.u32.bits (shrI IntKind.u32 (to'3.getD (Int.toNat p.snd.fst) 0) t34) &&& BitVec.ofInt IntKind.u32.bits 1).toNat : Int) == 1 then
                    bif inb t34 to'3.length then
                      bif inb p.snd.snd.fst to'3.length then
                        bif inb t34 to'3.length then
                          g5 (to'3.set t34.toNat (IntKind.u32.wrap (↑(BitVec.ofInt IntKind.u32.bits (to'3.getD t34.toNat 0) ||| BitVec.ofInt IntKind.u32.bits (to'3.getD (Int.toNat p.snd.snd.fst) 0)).toNat : Int))) was2 p (IntKind.i64.wrap (t34 + 1))
                        else
                          none
                      else
                        none
                    else
                      none
                  else
                    g5 to'3 was2 p (IntKind.i64.wrap (t34 + 1))
                else
                  none
              else
                none
            else
              g5 to'3 was2 p (IntKind.i64.wrap (t34 + 1))
        else
          none
      else
        none
    else
      bif p.fst == 4 then
        bif inb p.snd.fst to'3.length then
          bif decide (0 ≤ t34) then
            bif IntKind.u32.wrap (↑(BitVec.ofInt IntKind.u32.bits (shrI IntKind.u32 (to'3.getD (Int.toNat p.snd.fst) 0) t34) &&& BitVec.ofInt IntKind.u32.bits 1).toNat : Int) == 1 then
              bif inb t34 to'3.length then
                bif inb p.snd.snd.fst to'3.length then
                  bif inb t34 to'3.length then
                    g5 (to'3.set t34.toNat (IntKind.u32.wrap (↑(BitVec.ofInt IntKind.u32.bits (to'3.getD t34.toNat 0) ||| BitVec.ofInt IntKind.u32.bits (to'3.getD (Int.toNat p.snd.snd.fst) 0)).toNat : Int))) was2 p (IntKind.i64.wrap (t34 + 1))
                  else
                    none
                else
                  none
              else
                none
            else
              g5 to'3 was2 p (IntKind.i64.wrap (t34 + 1))
          else
            none
        else
          none
      else
        g5 to'3 was2 p (IntKind.i64.wrap (t34 + 1))
  else
    g2 to'3 was2 (IntKind.i64.wrap (t26 + 1))
def point_Within_p (nf : Nat) (l0 : List (Int × Int × Int × Unit) → List Int → Bool → Option (List Int × Int × Unit)) (vars : Int) (l' : List (Int × Int × Int × Unit)) : Option (List Int × Int × Unit) :=
  Option.bind (point_wrong_f nf vars l' ([])) fun r =>
  bif r.fst != 0 then
    some (([], r.fst, ()))
  else
    bif decide (0 ≤ vars) && decide (vars ≤ vars) && decide (vars ≤ (↑lim : Int)) then
      l0 l' (List.replicate vars.toNat 0) true
    else
      none
def point_Within_l5 (nf : Nat) (l' : List (Int × Int × Int × Unit)) (t26 : Int) (to'2 : List Int) (g2 : List Int → List Int → Int → Option (List Int × Int × Unit)) (g0 : List Int → Bool → Option (List Int × Int × Unit)) : Nat → List Int → List Int → Int × Int × Int × Unit → Int → Option (List Int × Int × Unit)
  | 0, _, _, _, _ => none
  | fu + 1, to'3, was2, p, t34 => point_Within_b5 nf  l' t26 to'2 g2 g0 (point_Within_l5 nf l' t26 to'2 g2 g0 fu) to'3 was2 p t34
def point_Within_l2 (nf : Nat) (l' : List (Int × Int × Int × Unit)) (g0 : List Int → Bool → Option (List Int × Int × Unit)) : Nat → List Int → List Int → Int → Option (List Int × Int × Unit)
  | 0, _, _, _ => none
  | fu + 1, to'2, was, t26 => point_Within_b2 nf (fun _ p1 p2 v0 v1 v2 v3 => point_Within_l5 nf l' p1 p2 (fun to'2 was t26 => point_Within_l2 nf l' g0 fu to'2 was t26) g0 nf v0 v1 v2 v3) l' g0 (point_Within_l2 nf l' g0 fu) to'2 was t26
def point_Within_l0 (nf : Nat) (l' : List (Int × Int × Int × Unit)) : Nat → List Int → Bool → Option (List Int × Int × Unit)
  | 0, _, _ => none
  | fu + 1, to', more => point_Within_b0 nf (fun _ v0 v1 v2 => point_Within_l2 nf l' (fun to' more => point_Within_l0 nf l'  fu to' more) nf v0 v1 v2) l'  (point_Within_l0 nf l'  fu) to' more
def point_Within_f (nf : Nat) (vars : Int) (l' : List (Int × Int × Int × Unit)) : Option (List Int × Int × Unit) := point_Within_p nf (fun p0 v0 v1 => point_Within_l0 nf p0 nf v0 v1) vars l'
noncomputable def point_Within_L0 (nf : Nat) : LC (List Int × Int × Unit) := theL (findL tab (point_Within_phi nf) (fun _ F => iter nf F) point_Within_keep 0 0 (codeOf Try.f27) (fin tab [((Ty.int IntKind.u32).sl, Md.own false (Md.bor false false)), (Ty.int IntKind.i64, Md.bor false true)] (resL ([]) Try.f27)) (fun _ _ => none) (fin tab [((Ty.int IntKind.u32).sl, Md.own false (Md.bor false false)), (Ty.int IntKind.i64, Md.bor false true)] (resL ([]) Try.f27)))
def point_Within_m0 (l' : List (Int × Int × Int × Unit)) (to' : List Int) (more : Bool) : St := ⟨fresh, [(1, AV.v ((Ty.int IntKind.i64).pair ((Ty.int IntKind.i64).pair ((Ty.int IntKind.i64).pair Ty.unit))).sl (Md.bor true false) l'), (7, AV.ow 500007 (Ty.int IntKind.u32).sl (Md.own false (Md.bor false false)) to'), (8, AV.v Ty.bool (Md.bor false true) more), (20, AV.dead)]⟩
noncomputable def point_Within_L2 (nf : Nat) (G0 : St → Option (List Int × Int × Unit)) : LC (List Int × Int × Unit) := theL (findL tab (point_Within_phi nf) (fun _ F => iter nf F) point_Within_keep 2 0 (point_Within_L0 nf ).c (fun st => norm (point_Within_keep 0) st G0) (point_Within_L0 nf ).Kx (point_Within_L0 nf ).Kr)
def point_Within_m2 (l' : List (Int × Int × Int × Unit)) (to'2 : List Int) (was : List Int) (t26 : Int) : St := ⟨fresh, [(1, AV.v ((Ty.int IntKind.i64).pair ((Ty.int IntKind.i64).pair ((Ty.int IntKind.i64).pair Ty.unit))).sl (Md.bor true false) l'), (7, AV.ow 500007 (Ty.int IntKind.u32).sl (Md.own false (Md.bor false false)) to'2), (9, AV.ow 500009 (Ty.int IntKind.u32).sl (Md.own false (Md.bor false false)) was), (20, AV.dead), (23, AV.dead), (24, AV.v ((Ty.int IntKind.i64).pair ((Ty.int IntKind.i64).pair ((Ty.int IntKind.i64).pair Ty.unit))).sl (Md.bor true false) l'), (25, AV.v (Ty.int IntKind.i64) (Md.bor false true) (↑l'.length : Int)), (26, AV.v (Ty.int IntKind.i64) (Md.bor false true) t26)]⟩
noncomputable def point_Within_L5 (nf : Nat) (G0 : St → Option (List Int × Int × Unit)) (G2 : St → Option (List Int × Int × Unit)) : LC (List Int × Int × Unit) := theL (findL tab (point_Within_phi nf) (fun _ F => iter nf F) point_Within_keep 5 2 (point_Within_L2 nf G0).c (fun st => norm (point_Within_keep 2) st G2) (point_Within_L2 nf G0).Kx (point_Within_L2 nf G0).Kr)
def point_Within_m5 (l' : List (Int × Int × Int × Unit)) (t26 : Int) (to'2 : List Int) (to'3 : List Int) (was2 : List Int) (p : Int × Int × Int × Unit) (t34 : Int) : St := ⟨fresh, [(1, AV.v ((Ty.int IntKind.i64).pair ((Ty.int IntKind.i64).pair ((Ty.int IntKind.i64).pair Ty.unit))).sl (Md.bor true false) l'), (7, AV.ow 500007 (Ty.int IntKind.u32).sl (Md.own false (Md.bor false false)) to'3), (9, AV.ow 500009 (Ty.int IntKind.u32).sl (Md.own false (Md.bor false false)) was2), (11, AV.box 11 500011 ((Ty.int IntKind.i64).pair ((Ty.int IntKind.i64).pair ((Ty.int IntKind.i64).pair Ty.unit))) (Md.bor true false) p), (20, AV.dead), (23, AV.dead), (24, AV.v ((Ty.int IntKind.i64).pair ((Ty.int IntKind.i64).pair ((Ty.int IntKind.i64).pair Ty.unit))).sl (Md.bor true false) l'), (25, AV.v (Ty.int IntKind.i64) (Md.bor false true) (↑l'.length : Int)), (26, AV.v (Ty.int IntKind.i64) (Md.bor false true) t26), (33, AV.v (Ty.int IntKind.i64) (Md.bor false true) (↑to'2.length : Int)), (34, AV.v (Ty.int IntKind.i64) (Md.bor false true) t34)]⟩
theorem point_Within_h5 (nf : Nat) (G0 : St → Option (List Int × Int × Unit)) (G2 : St → Option (List Int × Int × Unit)) (l' : List (Int × Int × Int × Unit)) (t26 : Int) (to'2 : List Int) (fu : Nat) (to'3 : List Int) (was2 : List Int) (p : Int × Int × Int × Unit) (t34 : Int) : iter (fu + 1) (LC.F tab (point_Within_phi nf) (fun _ F => iter nf F) point_Within_keep 5 (point_Within_L5 nf G0 G2)) (point_Within_m5 l' t26 to'2 to'3 was2 p t34) = point_Within_b5 nf  l' t26 to'2 (fun to'2 was t26 => G2 (point_Within_m2 l' to'2 was t26)) (fun to' more => G0 (point_Within_m0 l' to' more)) (fun to'3 was2 p t34 => iter fu (LC.F tab (point_Within_phi nf) (fun _ F => iter nf F) point_Within_keep 5 (point_Within_L5 nf G0 G2)) (point_Within_m5 l' t26 to'2 to'3 was2 p t34)) to'3 was2 p t34 := by kernel_rfl
theorem point_Within_e5 (nf : Nat) (G0 : St → Option (List Int × Int × Unit)) (G2 : St → Option (List Int × Int × Unit)) (l' : List (Int × Int × Int × Unit)) (t26 : Int) (to'2 : List Int) : ∀ (fu : Nat) (to'3 : List Int) (was2 : List Int) (p : Int × Int × Int × Unit) (t34 : Int), iter fu (LC.F tab (point_Within_phi nf) (fun _ F => iter nf F) point_Within_keep 5 (point_Within_L5 nf G0 G2)) (point_Within_m5 l' t26 to'2 to'3 was2 p t34) = point_Within_l5 nf l' t26 to'2 (fun to'2 was t26 => G2 (point_Within_m2 l' to'2 was t26)) (fun to' more => G0 (point_Within_m0 l' to' more)) fu to'3 was2 p t34 := by
  intro fu
  induction fu with
  | zero => intros; rfl
  | succ fu ih =>
    intro to'3 was2 p t34
    rw [point_Within_h5 nf G0 G2 l' t26 to'2 fu to'3 was2 p t34]
    simp only [ih]
    rfl
theorem point_Within_h2 (nf : Nat) (G0 : St → Option (List Int × Int × Unit)) (l' : List (Int × Int × Int × Unit)) (fu : Nat) (to'2 : List Int) (was : List Int) (t26 : Int) : iter (fu + 1) (LC.F tab (point_Within_phi nf) (fun _ F => iter nf F) point_Within_keep 2 (point_Within_L2 nf G0)) (point_Within_m2 l' to'2 was t26) = point_Within_b2 nf (fun _ p1 p2 v0 v1 v2 v3 => iter nf (LC.F tab (point_Within_phi nf) (fun _ F => iter nf F) point_Within_keep 5 (point_Within_L5 nf G0 (iter fu (LC.F tab (point_Within_phi nf) (fun _ F => iter nf F) point_Within_keep 2 (point_Within_L2 nf G0))))) (point_Within_m5 l' p1 p2 v0 v1 v2 v3)) l' (fun to' more => G0 (point_Within_m0 l' to' more)) (fun to'2 was t26 => iter fu (LC.F tab (point_Within_phi nf) (fun _ F => iter nf F) point_Within_keep 2 (point_Within_L2 nf G0)) (point_Within_m2 l' to'2 was t26)) to'2 was t26 := by kernel_rfl
theorem point_Within_e2 (nf : Nat) (G0 : St → Option (List Int × Int × Unit)) (l' : List (Int × Int × Int × Unit)) : ∀ (fu : Nat) (to'2 : List Int) (was : List Int) (t26 : Int), iter fu (LC.F tab (point_Within_phi nf) (fun _ F => iter nf F) point_Within_keep 2 (point_Within_L2 nf G0)) (point_Within_m2 l' to'2 was t26) = point_Within_l2 nf l' (fun to' more => G0 (point_Within_m0 l' to' more)) fu to'2 was t26 := by
  intro fu
  induction fu with
  | zero => intros; rfl
  | succ fu ih =>
    intro to'2 was t26
    rw [point_Within_h2 nf G0 l' fu to'2 was t26]
    simp only [ih, point_Within_e5]
    rfl
theorem point_Within_h0 (nf : Nat)  (l' : List (Int × Int × Int × Unit)) (fu : Nat) (to' : List Int) (more : Bool) : iter (fu + 1) (LC.F tab (point_Within_phi nf) (fun _ F => iter nf F) point_Within_keep 0 (point_Within_L0 nf )) (point_Within_m0 l' to' more) = point_Within_b0 nf (fun _ v0 v1 v2 => iter nf (LC.F tab (point_Within_phi nf) (fun _ F => iter nf F) point_Within_keep 2 (point_Within_L2 nf (iter fu (LC.F tab (point_Within_phi nf) (fun _ F => iter nf F) point_Within_keep 0 (point_Within_L0 nf ))))) (point_Within_m2 l' v0 v1 v2)) l'  (fun to' more => iter fu (LC.F tab (point_Within_phi nf) (fun _ F => iter nf F) point_Within_keep 0 (point_Within_L0 nf )) (point_Within_m0 l' to' more)) to' more := by kernel_rfl
theorem point_Within_e0 (nf : Nat)  (l' : List (Int × Int × Int × Unit)) : ∀ (fu : Nat) (to' : List Int) (more : Bool), iter fu (LC.F tab (point_Within_phi nf) (fun _ F => iter nf F) point_Within_keep 0 (point_Within_L0 nf )) (point_Within_m0 l' to' more) = point_Within_l0 nf l'  fu to' more := by
  intro fu
  induction fu with
  | zero => intros; rfl
  | succ fu ih =>
    intro to' more
    rw [point_Within_h0 nf  l' fu to' more]
    simp only [ih, point_Within_e2]
    rfl
theorem point_Within_eq (nf : Nat) (vars : Int) (l' : List (Int × Int × Int × Unit)) : runF tab (point_Within_phi nf) point_Within_keep nf [PT.val (Ty.int IntKind.i64) (Md.bor true false), PT.val ((Ty.int IntKind.i64).pair ((Ty.int IntKind.i64).pair ((Ty.int IntKind.i64).pair Ty.unit))).sl (Md.bor true false)] [((Ty.int IntKind.u32).sl, Md.own false (Md.bor false false)), (Ty.int IntKind.i64, Md.bor false true)] (resL ([]) Try.f27) (codeOf Try.f27) ⟨vars, l', ()⟩ = point_Within_f nf vars l' := by
  have h : runF tab (point_Within_phi nf) point_Within_keep nf [PT.val (Ty.int IntKind.i64) (Md.bor true false), PT.val ((Ty.int IntKind.i64).pair ((Ty.int IntKind.i64).pair ((Ty.int IntKind.i64).pair Ty.unit))).sl (Md.bor true false)] [((Ty.int IntKind.u32).sl, Md.own false (Md.bor false false)), (Ty.int IntKind.i64, Md.bor false true)] (resL ([]) Try.f27) (codeOf Try.f27) ⟨vars, l', ()⟩ = point_Within_p nf (fun p0 v0 v1 => iter nf (LC.F tab (point_Within_phi nf) (fun _ F => iter nf F) point_Within_keep 0 (point_Within_L0 nf)) (point_Within_m0 p0 v0 v1)) vars l' := by kernel_rfl
  rw [h]
  simp only [point_Within_e0]
  rfl
def point_Within_F (nf : Nat) (x : denPs [.val (.int .i64) (.bor true false), .val (.sl (.pair (.int .i64) (.pair (.int .i64) (.pair (.int .i64) (.unit))))) (.bor true false)]) : Option (denL [(.sl (.int .u32), .own false (.bor false false)), (.int .i64, .bor false true)]) := point_Within_f nf x.1 x.2.1
def point_Within_C (nf : Nat) : Contract := ⟨[.val (.int .i64) (.bor true false), .val (.sl (.pair (.int .i64) (.pair (.int .i64) (.pair (.int .i64) (.unit))))) (.bor true false)], [(.sl (.int .u32), .own false (.bor false false)), (.int .i64, .bor false true)], point_Within_F nf, []⟩
theorem point_Within_ok : FnOK Try.prog 27 := ⟨Try.f27, codeOf Try.f27, Try.func27, by kernel_rfl, by kernel_rfl⟩
theorem point_Within_holds (nf : Nat) : Contract.Holds Try.prog 27 (point_Within_C nf) :=
  fn_holds (Φ := point_Within_phi nf) (keep := point_Within_keep) (n := nf) ⟨tabs.1, tabs.2, (ctx_cons point_wrong_ok (point_wrong_holds nf) (ctx_cons slices_Clone_ok (slices_Clone_holds nf) (ctx_cons slices_Equal_ok (slices_Equal_holds nf) ctx_nil))), mixed, bk_ok bkls rfl⟩ (fn := Try.f27) ⟨Try.func27, by kernel_rfl, by kernel_rfl, by kernel_rfl⟩ (fun x => point_Within_eq nf x.1 x.2.1)

/-! codemason codemasonref.Inside -/
def ref_Inside_phi (nf : Nat) : Nat → Option Contract := lookC []
def ref_Inside_keep : Nat → List Nat := lookK [(0, [0, 1, 7, 8, 9])]
def ref_Inside_b0 (nf : Nat) (n' : Int) (l' : List Int) (g0 : Int → Option (Bool × Unit)) (t9 : Int) : Option (Bool × Unit) :=
  bif decide (t9 < (↑l'.length : Int)) then
    bif inb t9 l'.length then
      bif decide (l'.getD t9.toNat 0 < 0) then
        some ((false, ()))
      else
        bif decide (l'.getD t9.toNat 0 ≥ n') then
          some ((false, ()))
        else
          g0 (IntKind.i64.wrap (t9 + 1))
    else
      none
  else
    some ((true, ()))
def ref_Inside_p (nf : Nat) (l0 : Int → List Int → Int → Option (Bool × Unit)) (n' : Int) (l' : List Int) : Option (Bool × Unit) :=
  l0 n' l' 0
def ref_Inside_l0 (nf : Nat) (n' : Int) (l' : List Int) : Nat → Int → Option (Bool × Unit)
  | 0, _ => none
  | fu + 1, t9 => ref_Inside_b0 nf  n' l'  (ref_Inside_l0 nf n' l'  fu) t9
def ref_Inside_f (nf : Nat) (n' : Int) (l' : List Int) : Option (Bool × Unit) := ref_Inside_p nf (fun p0 p1 v0 => ref_Inside_l0 nf p0 p1 nf v0) n' l'
noncomputable def ref_Inside_L0 (nf : Nat) : LC (Bool × Unit) := theL (findL tab (ref_Inside_phi nf) (fun _ F => iter nf F) ref_Inside_keep 0 0 (codeOf Try.f24) (fin tab [(Ty.bool, Md.bor false true)] (resL ([]) Try.f24)) (fun _ _ => none) (fin tab [(Ty.bool, Md.bor false true)] (resL ([]) Try.f24)))
def ref_Inside_m0 (n' : Int) (l' : List Int) (t9 : Int) : St := ⟨fresh, [(0, AV.v (Ty.int IntKind.i64) (Md.bor false true) n'), (1, AV.v (Ty.int IntKind.i64).sl (Md.bor true false) l'), (7, AV.v (Ty.int IntKind.i64).sl (Md.bor true false) l'), (8, AV.v (Ty.int IntKind.i64) (Md.bor false true) (↑l'.length : Int)), (9, AV.v (Ty.int IntKind.i64) (Md.bor false true) t9)]⟩
theorem ref_Inside_h0 (nf : Nat)  (n' : Int) (l' : List Int) (fu : Nat) (t9 : Int) : iter (fu + 1) (LC.F tab (ref_Inside_phi nf) (fun _ F => iter nf F) ref_Inside_keep 0 (ref_Inside_L0 nf )) (ref_Inside_m0 n' l' t9) = ref_Inside_b0 nf  n' l'  (fun t9 => iter fu (LC.F tab (ref_Inside_phi nf) (fun _ F => iter nf F) ref_Inside_keep 0 (ref_Inside_L0 nf )) (ref_Inside_m0 n' l' t9)) t9 := by kernel_rfl
theorem ref_Inside_e0 (nf : Nat)  (n' : Int) (l' : List Int) : ∀ (fu : Nat) (t9 : Int), iter fu (LC.F tab (ref_Inside_phi nf) (fun _ F => iter nf F) ref_Inside_keep 0 (ref_Inside_L0 nf )) (ref_Inside_m0 n' l' t9) = ref_Inside_l0 nf n' l'  fu t9 := by
  intro fu
  induction fu with
  | zero => intros; rfl
  | succ fu ih =>
    intro t9
    rw [ref_Inside_h0 nf  n' l' fu t9]
    simp only [ih]
    rfl
theorem ref_Inside_eq (nf : Nat) (n' : Int) (l' : List Int) : runF tab (ref_Inside_phi nf) ref_Inside_keep nf [PT.val (Ty.int IntKind.i64) (Md.bor true false), PT.val (Ty.int IntKind.i64).sl (Md.bor true false)] [(Ty.bool, Md.bor false true)] (resL ([]) Try.f24) (codeOf Try.f24) ⟨n', l', ()⟩ = ref_Inside_f nf n' l' := by
  have h : runF tab (ref_Inside_phi nf) ref_Inside_keep nf [PT.val (Ty.int IntKind.i64) (Md.bor true false), PT.val (Ty.int IntKind.i64).sl (Md.bor true false)] [(Ty.bool, Md.bor false true)] (resL ([]) Try.f24) (codeOf Try.f24) ⟨n', l', ()⟩ = ref_Inside_p nf (fun p0 p1 v0 => iter nf (LC.F tab (ref_Inside_phi nf) (fun _ F => iter nf F) ref_Inside_keep 0 (ref_Inside_L0 nf)) (ref_Inside_m0 p0 p1 v0)) n' l' := by kernel_rfl
  rw [h]
  simp only [ref_Inside_e0]
  rfl
def ref_Inside_F (nf : Nat) (x : denPs [.val (.int .i64) (.bor true false), .val (.sl (.int .i64)) (.bor true false)]) : Option (denL [(.bool, .bor false true)]) := ref_Inside_f nf x.1 x.2.1
def ref_Inside_C (nf : Nat) : Contract := ⟨[.val (.int .i64) (.bor true false), .val (.sl (.int .i64)) (.bor true false)], [(.bool, .bor false true)], ref_Inside_F nf, []⟩
theorem ref_Inside_ok : FnOK Try.prog 24 := ⟨Try.f24, codeOf Try.f24, Try.func24, by kernel_rfl, by kernel_rfl⟩
theorem ref_Inside_holds (nf : Nat) : Contract.Holds Try.prog 24 (ref_Inside_C nf) :=
  fn_holds (Φ := ref_Inside_phi nf) (keep := ref_Inside_keep) (n := nf) ⟨tabs.1, tabs.2, ctx_nil, mixed, bk_ok bkls rfl⟩ (fn := Try.f24) ⟨Try.func24, by kernel_rfl, by kernel_rfl, by kernel_rfl⟩ (fun x => ref_Inside_eq nf x.1 x.2.1)

/-! codemason codemasonref.PointCheck -/
def ref_PointCheck_phi (nf : Nat) : Nat → Option Contract := lookC [(24, ref_Inside_C nf)]
def ref_PointCheck_keep : Nat → List Nat := lookK [(0, [0, 1, 2, 25, 26, 27])]
def ref_PointCheck_b0 (nf : Nat) (vars : Int) (l' : List (Int × Int × Int × Unit)) (script : List Int) (g0 : Int → Option (Int × Unit)) (t27 : Int) : Option (Int × Unit) :=
  bif decide (t27 < (↑l'.length : Int)) then
    bif inb t27 l'.length then
      bif decide ((l'.getD t27.toNat (0, 0, 0, ())).fst < 1) then
        some ((6, ()))
      else
        bif decide ((l'.getD t27.toNat (0, 0, 0, ())).fst > 4) then
          some ((6, ()))
        else
          Option.bind (ref_Inside_f nf vars ([(l'.getD t27.toNat (0, 0, 0, ())).snd.fst, (l'.getD t27.toNat (0, 0, 0, ())).snd.snd.fst])) fun r =>
          bif !r.fst then
            some ((2, ()))
          else
            g0 (IntKind.i64.wrap (t27 + 1))
    else
      none
  else
    Option.bind (ref_Inside_f nf ((↑l'.length : Int)) script) fun r2 =>
    bif !r2.fst then
      some ((5, ()))
    else
      some ((0, ()))
def ref_PointCheck_p (nf : Nat) (l0 : Int → List (Int × Int × Int × Unit) → List Int → Int → Option (Int × Unit)) (vars : Int) (l' : List (Int × Int × Int × Unit)) (script : List Int) : Option (Int × Unit) :=
  bif decide (vars < 1) then
    some ((1, ()))
  else
    bif decide (vars > 8) then
      some ((1, ()))
    else
      bif decide ((↑l'.length : Int) > 12) then
        some ((1, ()))
      else
        bif decide ((↑script.length : Int) > 200) then
          some ((1, ()))
        else
          l0 vars l' script 0
def ref_PointCheck_l0 (nf : Nat) (vars : Int) (l' : List (Int × Int × Int × Unit)) (script : List Int) : Nat → Int → Option (Int × Unit)
  | 0, _ => none
  | fu + 1, t27 => ref_PointCheck_b0 nf  vars l' script  (ref_PointCheck_l0 nf vars l' script  fu) t27
def ref_PointCheck_f (nf : Nat) (vars : Int) (l' : List (Int × Int × Int × Unit)) (script : List Int) : Option (Int × Unit) := ref_PointCheck_p nf (fun p0 p1 p2 v0 => ref_PointCheck_l0 nf p0 p1 p2 nf v0) vars l' script
noncomputable def ref_PointCheck_L0 (nf : Nat) : LC (Int × Unit) := theL (findL tab (ref_PointCheck_phi nf) (fun _ F => iter nf F) ref_PointCheck_keep 0 0 (codeOf Try.f28) (fin tab [(Ty.int IntKind.i64, Md.bor false true)] (resL ([]) Try.f28)) (fun _ _ => none) (fin tab [(Ty.int IntKind.i64, Md.bor false true)] (resL ([]) Try.f28)))
def ref_PointCheck_m0 (vars : Int) (l' : List (Int × Int × Int × Unit)) (script : List Int) (t27 : Int) : St := ⟨fresh, [(0, AV.v (Ty.int IntKind.i64) (Md.bor false true) vars), (1, AV.v ((Ty.int IntKind.i64).pair ((Ty.int IntKind.i64).pair ((Ty.int IntKind.i64).pair Ty.unit))).sl (Md.bor true false) l'), (2, AV.v (Ty.int IntKind.i64).sl (Md.bor true false) script), (25, AV.v ((Ty.int IntKind.i64).pair ((Ty.int IntKind.i64).pair ((Ty.int IntKind.i64).pair Ty.unit))).sl (Md.bor true false) l'), (26, AV.v (Ty.int IntKind.i64) (Md.bor false true) (↑l'.length : Int)), (27, AV.v (Ty.int IntKind.i64) (Md.bor false true) t27)]⟩
theorem ref_PointCheck_h0 (nf : Nat)  (vars : Int) (l' : List (Int × Int × Int × Unit)) (script : List Int) (fu : Nat) (t27 : Int) : iter (fu + 1) (LC.F tab (ref_PointCheck_phi nf) (fun _ F => iter nf F) ref_PointCheck_keep 0 (ref_PointCheck_L0 nf )) (ref_PointCheck_m0 vars l' script t27) = ref_PointCheck_b0 nf  vars l' script  (fun t27 => iter fu (LC.F tab (ref_PointCheck_phi nf) (fun _ F => iter nf F) ref_PointCheck_keep 0 (ref_PointCheck_L0 nf )) (ref_PointCheck_m0 vars l' script t27)) t27 := by kernel_rfl
theorem ref_PointCheck_e0 (nf : Nat)  (vars : Int) (l' : List (Int × Int × Int × Unit)) (script : List Int) : ∀ (fu : Nat) (t27 : Int), iter fu (LC.F tab (ref_PointCheck_phi nf) (fun _ F => iter nf F) ref_PointCheck_keep 0 (ref_PointCheck_L0 nf )) (ref_PointCheck_m0 vars l' script t27) = ref_PointCheck_l0 nf vars l' script  fu t27 := by
  intro fu
  induction fu with
  | zero => intros; rfl
  | succ fu ih =>
    intro t27
    rw [ref_PointCheck_h0 nf  vars l' script fu t27]
    simp only [ih]
    rfl
theorem ref_PointCheck_eq (nf : Nat) (vars : Int) (l' : List (Int × Int × Int × Unit)) (script : List Int) : runF tab (ref_PointCheck_phi nf) ref_PointCheck_keep nf [PT.val (Ty.int IntKind.i64) (Md.bor true false), PT.val ((Ty.int IntKind.i64).pair ((Ty.int IntKind.i64).pair ((Ty.int IntKind.i64).pair Ty.unit))).sl (Md.bor true false), PT.val (Ty.int IntKind.i64).sl (Md.bor true false)] [(Ty.int IntKind.i64, Md.bor false true)] (resL ([]) Try.f28) (codeOf Try.f28) ⟨vars, l', script, ()⟩ = ref_PointCheck_f nf vars l' script := by
  have h : runF tab (ref_PointCheck_phi nf) ref_PointCheck_keep nf [PT.val (Ty.int IntKind.i64) (Md.bor true false), PT.val ((Ty.int IntKind.i64).pair ((Ty.int IntKind.i64).pair ((Ty.int IntKind.i64).pair Ty.unit))).sl (Md.bor true false), PT.val (Ty.int IntKind.i64).sl (Md.bor true false)] [(Ty.int IntKind.i64, Md.bor false true)] (resL ([]) Try.f28) (codeOf Try.f28) ⟨vars, l', script, ()⟩ = ref_PointCheck_p nf (fun p0 p1 p2 v0 => iter nf (LC.F tab (ref_PointCheck_phi nf) (fun _ F => iter nf F) ref_PointCheck_keep 0 (ref_PointCheck_L0 nf)) (ref_PointCheck_m0 p0 p1 p2 v0)) vars l' script := by kernel_rfl
  rw [h]
  simp only [ref_PointCheck_e0]
  rfl
def ref_PointCheck_F (nf : Nat) (x : denPs [.val (.int .i64) (.bor true false), .val (.sl (.pair (.int .i64) (.pair (.int .i64) (.pair (.int .i64) (.unit))))) (.bor true false), .val (.sl (.int .i64)) (.bor true false)]) : Option (denL [(.int .i64, .bor false true)]) := ref_PointCheck_f nf x.1 x.2.1 x.2.2.1
def ref_PointCheck_C (nf : Nat) : Contract := ⟨[.val (.int .i64) (.bor true false), .val (.sl (.pair (.int .i64) (.pair (.int .i64) (.pair (.int .i64) (.unit))))) (.bor true false), .val (.sl (.int .i64)) (.bor true false)], [(.int .i64, .bor false true)], ref_PointCheck_F nf, []⟩
theorem ref_PointCheck_ok : FnOK Try.prog 28 := ⟨Try.f28, codeOf Try.f28, Try.func28, by kernel_rfl, by kernel_rfl⟩
theorem ref_PointCheck_holds (nf : Nat) : Contract.Holds Try.prog 28 (ref_PointCheck_C nf) :=
  fn_holds (Φ := ref_PointCheck_phi nf) (keep := ref_PointCheck_keep) (n := nf) ⟨tabs.1, tabs.2, (ctx_cons ref_Inside_ok (ref_Inside_holds nf) ctx_nil), mixed, bk_ok bkls rfl⟩ (fn := Try.f28) ⟨Try.func28, by kernel_rfl, by kernel_rfl, by kernel_rfl⟩ (fun x => ref_PointCheck_eq nf x.1 x.2.1 x.2.2.1)

/-! codemason codemasonref.Words -/
def ref_Words_phi (nf : Nat) : Nat → Option Contract := lookC []
def ref_Words_keep : Nat → List Nat := lookK [(0, [0, 1, 5])]
def ref_Words_b0 (nf : Nat) (a : List Int) (b : List Int) (g0 : Int → Option (Bool × Unit)) (i : Int) : Option (Bool × Unit) :=
  bif decide (i < (↑a.length : Int)) then
    bif inb i a.length then
      bif inb i b.length then
        bif a.getD i.toNat 0 != b.getD i.toNat 0 then
          some ((false, ()))
        else
          g0 (IntKind.i64.wrap (i + 1))
      else
        none
    else
      none
  else
    some ((true, ()))
def ref_Words_p (nf : Nat) (l0 : List Int → List Int → Int → Option (Bool × Unit)) (a : List Int) (b : List Int) : Option (Bool × Unit) :=
  bif (↑a.length : Int) != (↑b.length : Int) then
    some ((false, ()))
  else
    l0 a b 0
def ref_Words_l0 (nf : Nat) (a : List Int) (b : List Int) : Nat → Int → Option (Bool × Unit)
  | 0, _ => none
  | fu + 1, i => ref_Words_b0 nf  a b  (ref_Words_l0 nf a b  fu) i
def ref_Words_f (nf : Nat) (a : List Int) (b : List Int) : Option (Bool × Unit) := ref_Words_p nf (fun p0 p1 v0 => ref_Words_l0 nf p0 p1 nf v0) a b
noncomputable def ref_Words_L0 (nf : Nat) : LC (Bool × Unit) := theL (findL tab (ref_Words_phi nf) (fun _ F => iter nf F) ref_Words_keep 0 0 (codeOf Try.f29) (fin tab [(Ty.bool, Md.bor false true)] (resL ([]) Try.f29)) (fun _ _ => none) (fin tab [(Ty.bool, Md.bor false true)] (resL ([]) Try.f29)))
def ref_Words_m0 (a : List Int) (b : List Int) (i : Int) : St := ⟨fresh, [(0, AV.v (Ty.int IntKind.u32).sl (Md.bor true false) a), (1, AV.v (Ty.int IntKind.u32).sl (Md.bor true false) b), (5, AV.v (Ty.int IntKind.i64) (Md.bor false true) i)]⟩
theorem ref_Words_h0 (nf : Nat)  (a : List Int) (b : List Int) (fu : Nat) (i : Int) : iter (fu + 1) (LC.F tab (ref_Words_phi nf) (fun _ F => iter nf F) ref_Words_keep 0 (ref_Words_L0 nf )) (ref_Words_m0 a b i) = ref_Words_b0 nf  a b  (fun i => iter fu (LC.F tab (ref_Words_phi nf) (fun _ F => iter nf F) ref_Words_keep 0 (ref_Words_L0 nf )) (ref_Words_m0 a b i)) i := by kernel_rfl
theorem ref_Words_e0 (nf : Nat)  (a : List Int) (b : List Int) : ∀ (fu : Nat) (i : Int), iter fu (LC.F tab (ref_Words_phi nf) (fun _ F => iter nf F) ref_Words_keep 0 (ref_Words_L0 nf )) (ref_Words_m0 a b i) = ref_Words_l0 nf a b  fu i := by
  intro fu
  induction fu with
  | zero => intros; rfl
  | succ fu ih =>
    intro i
    rw [ref_Words_h0 nf  a b fu i]
    simp only [ih]
    rfl
theorem ref_Words_eq (nf : Nat) (a : List Int) (b : List Int) : runF tab (ref_Words_phi nf) ref_Words_keep nf [PT.val (Ty.int IntKind.u32).sl (Md.bor true false), PT.val (Ty.int IntKind.u32).sl (Md.bor true false)] [(Ty.bool, Md.bor false true)] (resL ([]) Try.f29) (codeOf Try.f29) ⟨a, b, ()⟩ = ref_Words_f nf a b := by
  have h : runF tab (ref_Words_phi nf) ref_Words_keep nf [PT.val (Ty.int IntKind.u32).sl (Md.bor true false), PT.val (Ty.int IntKind.u32).sl (Md.bor true false)] [(Ty.bool, Md.bor false true)] (resL ([]) Try.f29) (codeOf Try.f29) ⟨a, b, ()⟩ = ref_Words_p nf (fun p0 p1 v0 => iter nf (LC.F tab (ref_Words_phi nf) (fun _ F => iter nf F) ref_Words_keep 0 (ref_Words_L0 nf)) (ref_Words_m0 p0 p1 v0)) a b := by kernel_rfl
  rw [h]
  simp only [ref_Words_e0]
  rfl
def ref_Words_F (nf : Nat) (x : denPs [.val (.sl (.int .u32)) (.bor true false), .val (.sl (.int .u32)) (.bor true false)]) : Option (denL [(.bool, .bor false true)]) := ref_Words_f nf x.1 x.2.1
def ref_Words_C (nf : Nat) : Contract := ⟨[.val (.sl (.int .u32)) (.bor true false), .val (.sl (.int .u32)) (.bor true false)], [(.bool, .bor false true)], ref_Words_F nf, []⟩
theorem ref_Words_ok : FnOK Try.prog 29 := ⟨Try.f29, codeOf Try.f29, Try.func29, by kernel_rfl, by kernel_rfl⟩
theorem ref_Words_holds (nf : Nat) : Contract.Holds Try.prog 29 (ref_Words_C nf) :=
  fn_holds (Φ := ref_Words_phi nf) (keep := ref_Words_keep) (n := nf) ⟨tabs.1, tabs.2, ctx_nil, mixed, bk_ok bkls rfl⟩ (fn := Try.f29) ⟨Try.func29, by kernel_rfl, by kernel_rfl, by kernel_rfl⟩ (fun x => ref_Words_eq nf x.1 x.2.1)

/-! codemason codemasonref.Within 1 -/
def ref_Within_1_phi (nf : Nat) : Nat → Option Contract := lookC []
def ref_Within_1_keep : Nat → List Nat := lookK []
def ref_Within_1_p (nf : Nat)  (a : Int) (b : Int) (c2 : List ((Int × Int × Unit) × Bool)) (c3 : Bool) : Option (Option (List ((Int × Int × Unit) × Bool)) × Option Bool × Unit) :=
  bif !(getM ((Ty.int IntKind.i64).pair ((Ty.int IntKind.i64).pair Ty.unit)) Ty.bool c2 (a, b, ())).getD false then
    some ((some (insM ((Ty.int IntKind.i64).pair ((Ty.int IntKind.i64).pair Ty.unit)) Ty.bool c2 (a, b, ()) true), some true, ()))
  else
    some ((some c2, some c3, ()))
def ref_Within_1_f (nf : Nat) (a : Int) (b : Int) (c2 : List ((Int × Int × Unit) × Bool)) (c3 : Bool) : Option (Option (List ((Int × Int × Unit) × Bool)) × Option Bool × Unit) := ref_Within_1_p nf  a b c2 c3
theorem ref_Within_1_eq (nf : Nat) (a : Int) (b : Int) (c2 : List ((Int × Int × Unit) × Bool)) (c3 : Bool) : runF tab (ref_Within_1_phi nf) ref_Within_1_keep nf [PT.val (Ty.int IntKind.i64) (Md.bor true false), PT.val (Ty.int IntKind.i64) (Md.bor true false), PT.box (((Ty.int IntKind.i64).pair ((Ty.int IntKind.i64).pair Ty.unit)).mp Ty.bool) (Md.own true (Md.bor false false)), PT.box Ty.bool (Md.bor false true)] [((((Ty.int IntKind.i64).pair ((Ty.int IntKind.i64).pair Ty.unit)).mp Ty.bool).bx, Md.own false (Md.own true (Md.bor false false))), (Ty.bool.bx, Md.own false (Md.bor false true))] (resL ([2, 3]) Try.f49) (codeOf Try.f49) ⟨a, b, c2, c3, ()⟩ = ref_Within_1_f nf a b c2 c3 := by
  have h : runF tab (ref_Within_1_phi nf) ref_Within_1_keep nf [PT.val (Ty.int IntKind.i64) (Md.bor true false), PT.val (Ty.int IntKind.i64) (Md.bor true false), PT.box (((Ty.int IntKind.i64).pair ((Ty.int IntKind.i64).pair Ty.unit)).mp Ty.bool) (Md.own true (Md.bor false false)), PT.box Ty.bool (Md.bor false true)] [((((Ty.int IntKind.i64).pair ((Ty.int IntKind.i64).pair Ty.unit)).mp Ty.bool).bx, Md.own false (Md.own true (Md.bor false false))), (Ty.bool.bx, Md.own false (Md.bor false true))] (resL ([2, 3]) Try.f49) (codeOf Try.f49) ⟨a, b, c2, c3, ()⟩ = ref_Within_1_p nf  a b c2 c3 := by kernel_rfl
  exact h
def ref_Within_1_F (nf : Nat) (x : denPs [.val (.int .i64) (.bor true false), .val (.int .i64) (.bor true false), .box (.mp (.pair (.int .i64) (.pair (.int .i64) (.unit))) (.bool)) (.own true (.bor false false)), .box (.bool) (.bor false true)]) : Option (denL [(.bx (.mp (.pair (.int .i64) (.pair (.int .i64) (.unit))) (.bool)), .own false (.own true (.bor false false))), (.bx (.bool), .own false (.bor false true))]) := ref_Within_1_f nf x.1 x.2.1 x.2.2.1 x.2.2.2.1
def ref_Within_1_C (nf : Nat) : Contract := ⟨[.val (.int .i64) (.bor true false), .val (.int .i64) (.bor true false), .box (.mp (.pair (.int .i64) (.pair (.int .i64) (.unit))) (.bool)) (.own true (.bor false false)), .box (.bool) (.bor false true)], [(.bx (.mp (.pair (.int .i64) (.pair (.int .i64) (.unit))) (.bool)), .own false (.own true (.bor false false))), (.bx (.bool), .own false (.bor false true))], ref_Within_1_F nf, [2, 3]⟩
theorem ref_Within_1_ok : FnOK Try.prog 49 := ⟨Try.f49, codeOf Try.f49, Try.func49, by kernel_rfl, by kernel_rfl⟩
theorem ref_Within_1_holds (nf : Nat) : Contract.Holds Try.prog 49 (ref_Within_1_C nf) :=
  fn_holds (Φ := ref_Within_1_phi nf) (keep := ref_Within_1_keep) (n := nf) ⟨tabs.1, tabs.2, ctx_nil, mixed, bk_ok bkls rfl⟩ (fn := Try.f49) ⟨Try.func49, by kernel_rfl, by kernel_rfl, by kernel_rfl⟩ (fun x => ref_Within_1_eq nf x.1 x.2.1 x.2.2.1 x.2.2.2.1)

/-! codemason codemasonref.Within -/
def ref_Within_phi (nf : Nat) : Nat → Option Contract := lookC [(49, ref_Within_1_C nf)]
def ref_Within_keep : Nat → List Nat := lookK [(10, [0, 5, 12, 13, 14, 15, 131]), (8, [0, 5, 12, 13, 131]), (6, [0, 1, 5, 6, 7, 9, 10, 11, 18, 19, 20, 21, 131]), (4, [0, 1, 5, 6, 7, 9, 10, 18, 19, 20, 21, 131]), (2, [0, 1, 5, 6, 7, 18, 19, 20, 21, 131]), (0, [0, 1, 5, 6, 131])]
def ref_Within_b0 (nf : Nat) (l2 : Int → List (Int × Int × Int × Unit) → List ((Int × Int × Unit) × Bool) → Bool → Int → Option (List Int × Unit)) (l8 : Int → List ((Int × Int × Unit) × Bool) → List Int → Int → Option (List Int × Unit)) (vars : Int) (l' : List (Int × Int × Int × Unit)) (g0 : List ((Int × Int × Unit) × Bool) → Bool → Option (List Int × Unit)) (t : List ((Int × Int × Unit) × Bool)) (more : Bool) : Option (List Int × Unit) :=
  bif more then
    l2 vars l' t false 0
  else
    l8 vars t [] 0
def ref_Within_b2 (nf : Nat) (l4 : Int → List (Int × Int × Int × Unit) → Int → List ((Int × Int × Unit) × Bool) → Bool → Int × Int × Int × Unit → Int → Option (List Int × Unit)) (vars : Int) (l' : List (Int × Int × Int × Unit)) (g0 : List ((Int × Int × Unit) × Bool) → Bool → Option (List Int × Unit)) (g2 : List ((Int × Int × Unit) × Bool) → Bool → Int → Option (List Int × Unit)) (t2 : List ((Int × Int × Unit) × Bool)) (more2 : Bool) (t21 : Int) : Option (List Int × Unit) :=
  bif decide (t21 < (↑l'.length : Int)) then
    bif inb t21 l'.length then
      bif (l'.getD t21.toNat (0, 0, 0, ())).fst == 1 then
        Option.bind (ref_Within_1_f nf ((l'.getD t21.toNat (0, 0, 0, ())).snd.fst) ((l'.getD t21.toNat (0, 0, 0, ())).snd.snd.fst) t2 more2) fun r =>
        Option.bind r.fst fun r2 =>
        Option.bind r.snd.fst fun r3 =>
        l4 vars l' t21 r2 r3 (l'.getD t21.toNat (0, 0, 0, ())) 0
      else
        l4 vars l' t21 t2 more2 (l'.getD t21.toNat (0, 0, 0, ())) 0
    else
      none
  else
    g0 t2 more2
def ref_Within_b4 (nf : Nat) (l6 : Int → List (Int × Int × Int × Unit) → Int → Int → List ((Int × Int × Unit) × Bool) → Bool → Int × Int × Int × Unit → Int → Option (List Int × Unit)) (vars : Int) (l' : List (Int × Int × Int × Unit)) (t21 : Int) (g2 : List ((Int × Int × Unit) × Bool) → Bool → Int → Option (List Int × Unit)) (g0 : List ((Int × Int × Unit) × Bool) → Bool → Option (List Int × Unit)) (g4 : List ((Int × Int × Unit) × Bool) → Bool → Int × Int × Int × Unit → Int → Option (List Int × Unit)) (t3 : List ((Int × Int × Unit) × Bool)) (more3 : Bool) (p : Int × Int × Int × Unit) (x : Int) : Option (List Int × Unit) :=
  bif decide (x < vars) then
    bif p.fst == 2 then
      bif (getM ((Ty.int IntKind.i64).pair ((Ty.int IntKind.i64).pair Ty.unit)) Ty.bool t3 (p.snd.snd.fst, x, ())).getD false then
        Option.bind (ref_Within_1_f nf p.snd.fst x t3 more3) fun r4 =>
        Option.bind r4.fst fun r5 =>
        Option.bind r4.snd.fst fun r6 =>
        l6 vars l' x t21 r5 r6 p 0
      else
        l6 vars l' x t21 t3 more3 p 0
    else
      l6 vars l' x t21 t3 more3 p 0
  else
    g2 t3 more3 (IntKind.i64.wrap (t21 + 1))
def ref_Within_b6 (nf : Nat) (vars : Int) (l' : List (Int × Int × Int × Unit)) (x : Int) (t21 : Int) (g4 : List ((Int × Int × Unit) × Bool) → Bool → Int × Int × Int × Unit → Int → Option (List Int × Unit)) (g2 : List ((Int × Int × Unit) × Bool) → Bool → Int → Option (List Int × Unit)) (g0 : List ((Int × Int × Unit) × Bool) → Bool → Option (List Int × Unit)) (g6 : List ((Int × Int × Unit) × Bool) → Bool → Int × Int × Int × Unit → Int → Option (List Int × Unit)) (t4 : List ((Int × Int × Unit) × Bool)) (more4 : Bool) (p2 : Int × Int × Int × Unit) (y : Int) : Option (List Int × Unit) :=
  bif decide (y < vars) then
    bif p2.fst == 3 then
      bif (getM ((Ty.int IntKind.i64).pair ((Ty.int IntKind.i64).pair Ty.unit)) Ty.bool t4 (p2.snd.snd.fst, x, ())).getD false then
        bif (getM ((Ty.int IntKind.i64).pair ((Ty.int IntKind.i64).pair Ty.unit)) Ty.bool t4 (x, y, ())).getD false then
          Option.bind (ref_Within_1_f nf p2.snd.fst y t4 more4) fun r7 =>
          Option.bind r7.fst fun r8 =>
          Option.bind r7.snd.fst fun r9 =>
          bif p2.fst == 4 then
            bif (getM ((Ty.int IntKind.i64).pair ((Ty.int IntKind.i64).pair Ty.unit)) Ty.bool r8 (p2.snd.fst, x, ())).getD false then
              bif (getM ((Ty.int IntKind.i64).pair ((Ty.int IntKind.i64).pair Ty.unit)) Ty.bool r8 (p2.snd.snd.fst, y, ())).getD false then
                Option.bind (ref_Within_1_f nf x y r8 r9) fun r10 =>
                Option.bind r10.fst fun r11 =>
                Option.bind r10.snd.fst fun r12 =>
                g6 r11 r12 p2 (IntKind.i64.wrap (y + 1))
              else
                g6 r8 r9 p2 (IntKind.i64.wrap (y + 1))
            else
              g6 r8 r9 p2 (IntKind.i64.wrap (y + 1))
          else
            g6 r8 r9 p2 (IntKind.i64.wrap (y + 1))
        else
          bif p2.fst == 4 then
            bif (getM ((Ty.int IntKind.i64).pair ((Ty.int IntKind.i64).pair Ty.unit)) Ty.bool t4 (p2.snd.fst, x, ())).getD false then
              bif (getM ((Ty.int IntKind.i64).pair ((Ty.int IntKind.i64).pair Ty.unit)) Ty.bool t4 (p2.snd.snd.fst, y, ())).getD false then
                Option.bind (ref_Within_1_f nf x y t4 more4) fun r13 =>
                Option.bind r13.fst fun r14 =>
                Option.bind r13.snd.fst fun r15 =>
                g6 r14 r15 p2 (IntKind.i64.wrap (y + 1))
              else
                g6 t4 more4 p2 (IntKind.i64.wrap (y + 1))
            else
              g6 t4 more4 p2 (IntKind.i64.wrap (y + 1))
          else
            g6 t4 more4 p2 (IntKind.i64.wrap (y + 1))
      else
        bif p2.fst == 4 then
          bif (getM ((Ty.int IntKind.i64).pair ((Ty.int IntKind.i64).pair Ty.unit)) Ty.bool t4 (p2.snd.fst, x, ())).getD false then
            bif (getM ((Ty.int IntKind.i64).pair ((Ty.int IntKind.i64).pair Ty.unit)) Ty.bool t4 (p2.snd.snd.fst, y, ())).getD false then
              Option.bind (ref_Within_1_f nf x y t4 more4) fun r16 =>
              Option.bind r16.fst fun r17 =>
              Option.bind r16.snd.fst fun r18 =>
              g6 r17 r18 p2 (IntKind.i64.wrap (y + 1))
            else
              g6 t4 more4 p2 (IntKind.i64.wrap (y + 1))
          else
            g6 t4 more4 p2 (IntKind.i64.wrap (y + 1))
        else
          g6 t4 more4 p2 (IntKind.i64.wrap (y + 1))
    else
      bif p2.fst == 4 then
        bif (getM ((Ty.int IntKind.i64).pair ((Ty.int IntKind.i64).pair Ty.unit)) Ty.bool t4 (p2.snd.fst, x, ())).getD false then
          bif (getM ((Ty.int IntKind.i64).pair ((Ty.int IntKind.i64).pair Ty.unit)) Ty.bool t4 (p2.snd.snd.fst, y, ())).getD false then
            Option.bind (ref_Within_1_f nf x y t4 more4) fun r19 =>
            Option.bind r19.fst fun r20 =>
            Option.bind r19.snd.fst fun r21 =>
            g6 r20 r21 p2 (IntKind.i64.wrap (y + 1))
          else
            g6 t4 more4 p2 (IntKind.i64.wrap (y + 1))
        else
          g6 t4 more4 p2 (IntKind.i64.wrap (y + 1))
      else
        g6 t4 more4 p2 (IntKind.i64.wrap (y + 1))
  else
    g4 t4 more4 p2 (IntKind.i64.wrap (x + 1))
def ref_Within_b8 (nf : Nat) (l10 : Int → Int → List ((Int × Int × Unit) × Bool) → List Int → Int → Int → Option (List Int × Unit)) (vars : Int) (g8 : List ((Int × Int × Unit) × Bool) → List Int → Int → Option (List Int × Unit)) (t5 : List ((Int × Int × Unit) × Bool)) (out : List Int) (a : Int) : Option (List Int × Unit) :=
  bif decide (a < vars) then
    l10 vars a t5 out 0 0
  else
    some ((out, ()))
def ref_Within_b10 (nf : Nat) (vars : Int) (a : Int) (g8 : List ((Int × Int × Unit) × Bool) → List Int → Int → Option (List Int × Unit)) (g10 : List ((Int × Int × Unit) × Bool) → List Int → Int → Int → Option (List Int × Unit)) (t6 : List ((Int × Int × Unit) × Bool)) (out2 : List Int) (s : Int) (b : Int) : Option (List Int × Unit) :=
  bif decide (b < vars) then
    bif (getM ((Ty.int IntKind.i64).pair ((Ty.int IntKind.i64).pair Ty.unit)) Ty.bool t6 (a, b, ())).getD false then
      bif decide (0 ≤ IntKind.u64.wrap b) then
        g10 t6 out2 (IntKind.u32.wrap (s + shlI IntKind.u32 1 (IntKind.u64.wrap b))) (IntKind.i64.wrap (b + 1))
      else
        none
    else
      g10 t6 out2 s (IntKind.i64.wrap (b + 1))
  else
    bif bimp false ![s].isEmpty && (out2.length + [s].length).ble lim then
      g8 t6 (out2 ++ [s]) (IntKind.i64.wrap (a + 1))
    else
      none
def ref_Within_p (nf : Nat) (l0 : Int → List (Int × Int × Int × Unit) → List ((Int × Int × Unit) × Bool) → Bool → Option (List Int × Unit)) (vars : Int) (l' : List (Int × Int × Int × Unit)) : Option (List Int × Unit) :=
  l0 vars l' [] true
def ref_Within_l10 (nf : Nat) (vars : Int) (a : Int) (g8 : List ((Int × Int × Unit) × Bool) → List Int → Int → Option (List Int × Unit)) : Nat → List ((Int × Int × Unit) × Bool) → List Int → Int → Int → Option (List Int × Unit)
  | 0, _, _, _, _ => none
  | fu + 1, t6, out2, s, b => ref_Within_b10 nf  vars a g8 (ref_Within_l10 nf vars a g8 fu) t6 out2 s b
def ref_Within_l8 (nf : Nat) (vars : Int) : Nat → List ((Int × Int × Unit) × Bool) → List Int → Int → Option (List Int × Unit)
  | 0, _, _, _ => none
  | fu + 1, t5, out, a => ref_Within_b8 nf (fun _ p1 v0 v1 v2 v3 => ref_Within_l10 nf vars p1 (fun t5 out a => ref_Within_l8 nf vars  fu t5 out a) nf v0 v1 v2 v3) vars  (ref_Within_l8 nf vars  fu) t5 out a
def ref_Within_l6 (nf : Nat) (vars : Int) (l' : List (Int × Int × Int × Unit)) (x : Int) (t21 : Int) (g4 : List ((Int × Int × Unit) × Bool) → Bool → Int × Int × Int × Unit → Int → Option (List Int × Unit)) (g2 : List ((Int × Int × Unit) × Bool) → Bool → Int → Option (List Int × Unit)) (g0 : List ((Int × Int × Unit) × Bool) → Bool → Option (List Int × Unit)) : Nat → List ((Int × Int × Unit) × Bool) → Bool → Int × Int × Int × Unit → Int → Option (List Int × Unit)
  | 0, _, _, _, _ => none
  | fu + 1, t4, more4, p2, y => ref_Within_b6 nf  vars l' x t21 g4 g2 g0 (ref_Within_l6 nf vars l' x t21 g4 g2 g0 fu) t4 more4 p2 y
def ref_Within_l4 (nf : Nat) (vars : Int) (l' : List (Int × Int × Int × Unit)) (t21 : Int) (g2 : List ((Int × Int × Unit) × Bool) → Bool → Int → Option (List Int × Unit)) (g0 : List ((Int × Int × Unit) × Bool) → Bool → Option (List Int × Unit)) : Nat → List ((Int × Int × Unit) × Bool) → Bool → Int × Int × Int × Unit → Int → Option (List Int × Unit)
  | 0, _, _, _, _ => none
  | fu + 1, t3, more3, p, x => ref_Within_b4 nf (fun _ _ p2 _ v0 v1 v2 v3 => ref_Within_l6 nf vars l' p2 t21 (fun t3 more3 p x => ref_Within_l4 nf vars l' t21 g2 g0 fu t3 more3 p x) g2 g0 nf v0 v1 v2 v3) vars l' t21 g2 g0 (ref_Within_l4 nf vars l' t21 g2 g0 fu) t3 more3 p x
def ref_Within_l2 (nf : Nat) (vars : Int) (l' : List (Int × Int × Int × Unit)) (g0 : List ((Int × Int × Unit) × Bool) → Bool → Option (List Int × Unit)) : Nat → List ((Int × Int × Unit) × Bool) → Bool → Int → Option (List Int × Unit)
  | 0, _, _, _ => none
  | fu + 1, t2, more2, t21 => ref_Within_b2 nf (fun _ _ p2 v0 v1 v2 v3 => ref_Within_l4 nf vars l' p2 (fun t2 more2 t21 => ref_Within_l2 nf vars l' g0 fu t2 more2 t21) g0 nf v0 v1 v2 v3) vars l' g0 (ref_Within_l2 nf vars l' g0 fu) t2 more2 t21
def ref_Within_l0 (nf : Nat) (vars : Int) (l' : List (Int × Int × Int × Unit)) : Nat → List ((Int × Int × Unit) × Bool) → Bool → Option (List Int × Unit)
  | 0, _, _ => none
  | fu + 1, t, more => ref_Within_b0 nf (fun _ _ v0 v1 v2 => ref_Within_l2 nf vars l' (fun t more => ref_Within_l0 nf vars l'  fu t more) nf v0 v1 v2) (fun _ v0 v1 v2 => ref_Within_l8 nf vars  nf v0 v1 v2) vars l'  (ref_Within_l0 nf vars l'  fu) t more
def ref_Within_f (nf : Nat) (vars : Int) (l' : List (Int × Int × Int × Unit)) : Option (List Int × Unit) := ref_Within_p nf (fun p0 p1 v0 v1 => ref_Within_l0 nf p0 p1 nf v0 v1) vars l'
noncomputable def ref_Within_L0 (nf : Nat) : LC (List Int × Unit) := theL (findL tab (ref_Within_phi nf) (fun _ F => iter nf F) ref_Within_keep 0 0 (codeOf Try.f30) (fin tab [((Ty.int IntKind.u32).sl, Md.own false (Md.bor false false))] (resL ([]) Try.f30)) (fun _ _ => none) (fin tab [((Ty.int IntKind.u32).sl, Md.own false (Md.bor false false))] (resL ([]) Try.f30)))
def ref_Within_m0 (vars : Int) (l' : List (Int × Int × Int × Unit)) (t : List ((Int × Int × Unit) × Bool)) (more : Bool) : St := ⟨fresh, [(0, AV.v (Ty.int IntKind.i64) (Md.bor false true) vars), (1, AV.v ((Ty.int IntKind.i64).pair ((Ty.int IntKind.i64).pair ((Ty.int IntKind.i64).pair Ty.unit))).sl (Md.bor true false) l'), (5, AV.box 5 500005 (((Ty.int IntKind.i64).pair ((Ty.int IntKind.i64).pair Ty.unit)).mp Ty.bool) (Md.own true (Md.bor false false)) t), (6, AV.box 6 500006 Ty.bool (Md.bor false true) more), (131, AV.dead)]⟩
noncomputable def ref_Within_L2 (nf : Nat) (G0 : St → Option (List Int × Unit)) : LC (List Int × Unit) := theL (findL tab (ref_Within_phi nf) (fun _ F => iter nf F) ref_Within_keep 2 0 (ref_Within_L0 nf ).c (fun st => norm (ref_Within_keep 0) st G0) (ref_Within_L0 nf ).Kx (ref_Within_L0 nf ).Kr)
def ref_Within_m2 (vars : Int) (l' : List (Int × Int × Int × Unit)) (t2 : List ((Int × Int × Unit) × Bool)) (more2 : Bool) (t21 : Int) : St := ⟨fresh, [(0, AV.v (Ty.int IntKind.i64) (Md.bor false true) vars), (1, AV.v ((Ty.int IntKind.i64).pair ((Ty.int IntKind.i64).pair ((Ty.int IntKind.i64).pair Ty.unit))).sl (Md.bor true false) l'), (5, AV.box 5 500005 (((Ty.int IntKind.i64).pair ((Ty.int IntKind.i64).pair Ty.unit)).mp Ty.bool) (Md.own true (Md.bor false false)) t2), (6, AV.box 6 500006 Ty.bool (Md.bor false true) more2), (7, AV.clo 49 [AV.pl 5 5 [Stp.dr], AV.pl 6 6 [Stp.dr]]), (18, AV.clo 49 [AV.pl 5 5 [Stp.dr], AV.pl 6 6 [Stp.dr]]), (19, AV.v ((Ty.int IntKind.i64).pair ((Ty.int IntKind.i64).pair ((Ty.int IntKind.i64).pair Ty.unit))).sl (Md.bor true false) l'), (20, AV.v (Ty.int IntKind.i64) (Md.bor false true) (↑l'.length : Int)), (21, AV.v (Ty.int IntKind.i64) (Md.bor false true) t21), (131, AV.dead)]⟩
noncomputable def ref_Within_L4 (nf : Nat) (G0 : St → Option (List Int × Unit)) (G2 : St → Option (List Int × Unit)) : LC (List Int × Unit) := theL (findL tab (ref_Within_phi nf) (fun _ F => iter nf F) ref_Within_keep 4 2 (ref_Within_L2 nf G0).c (fun st => norm (ref_Within_keep 2) st G2) (ref_Within_L2 nf G0).Kx (ref_Within_L2 nf G0).Kr)
def ref_Within_m4 (vars : Int) (l' : List (Int × Int × Int × Unit)) (t21 : Int) (t3 : List ((Int × Int × Unit) × Bool)) (more3 : Bool) (p : Int × Int × Int × Unit) (x : Int) : St := ⟨fresh, [(0, AV.v (Ty.int IntKind.i64) (Md.bor false true) vars), (1, AV.v ((Ty.int IntKind.i64).pair ((Ty.int IntKind.i64).pair ((Ty.int IntKind.i64).pair Ty.unit))).sl (Md.bor true false) l'), (5, AV.box 5 500005 (((Ty.int IntKind.i64).pair ((Ty.int IntKind.i64).pair Ty.unit)).mp Ty.bool) (Md.own true (Md.bor false false)) t3), (6, AV.box 6 500006 Ty.bool (Md.bor false true) more3), (7, AV.clo 49 [AV.pl 5 5 [Stp.dr], AV.pl 6 6 [Stp.dr]]), (9, AV.box 9 500009 ((Ty.int IntKind.i64).pair ((Ty.int IntKind.i64).pair ((Ty.int IntKind.i64).pair Ty.unit))) (Md.bor true false) p), (10, AV.v (Ty.int IntKind.i64) (Md.bor false true) x), (18, AV.clo 49 [AV.pl 5 5 [Stp.dr], AV.pl 6 6 [Stp.dr]]), (19, AV.v ((Ty.int IntKind.i64).pair ((Ty.int IntKind.i64).pair ((Ty.int IntKind.i64).pair Ty.unit))).sl (Md.bor true false) l'), (20, AV.v (Ty.int IntKind.i64) (Md.bor false true) (↑l'.length : Int)), (21, AV.v (Ty.int IntKind.i64) (Md.bor false true) t21), (131, AV.dead)]⟩
noncomputable def ref_Within_L6 (nf : Nat) (G0 : St → Option (List Int × Unit)) (G2 : St → Option (List Int × Unit)) (G4 : St → Option (List Int × Unit)) : LC (List Int × Unit) := theL (findL tab (ref_Within_phi nf) (fun _ F => iter nf F) ref_Within_keep 6 4 (ref_Within_L4 nf G0 G2).c (fun st => norm (ref_Within_keep 4) st G4) (ref_Within_L4 nf G0 G2).Kx (ref_Within_L4 nf G0 G2).Kr)
def ref_Within_m6 (vars : Int) (l' : List (Int × Int × Int × Unit)) (x : Int) (t21 : Int) (t4 : List ((Int × Int × Unit) × Bool)) (more4 : Bool) (p2 : Int × Int × Int × Unit) (y : Int) : St := ⟨fresh, [(0, AV.v (Ty.int IntKind.i64) (Md.bor false true) vars), (1, AV.v ((Ty.int IntKind.i64).pair ((Ty.int IntKind.i64).pair ((Ty.int IntKind.i64).pair Ty.unit))).sl (Md.bor true false) l'), (5, AV.box 5 500005 (((Ty.int IntKind.i64).pair ((Ty.int IntKind.i64).pair Ty.unit)).mp Ty.bool) (Md.own true (Md.bor false false)) t4), (6, AV.box 6 500006 Ty.bool (Md.bor false true) more4), (7, AV.clo 49 [AV.pl 5 5 [Stp.dr], AV.pl 6 6 [Stp.dr]]), (9, AV.box 9 500009 ((Ty.int IntKind.i64).pair ((Ty.int IntKind.i64).pair ((Ty.int IntKind.i64).pair Ty.unit))) (Md.bor true false) p2), (10, AV.v (Ty.int IntKind.i64) (Md.bor false true) x), (11, AV.v (Ty.int IntKind.i64) (Md.bor false true) y), (18, AV.clo 49 [AV.pl 5 5 [Stp.dr], AV.pl 6 6 [Stp.dr]]), (19, AV.v ((Ty.int IntKind.i64).pair ((Ty.int IntKind.i64).pair ((Ty.int IntKind.i64).pair Ty.unit))).sl (Md.bor true false) l'), (20, AV.v (Ty.int IntKind.i64) (Md.bor false true) (↑l'.length : Int)), (21, AV.v (Ty.int IntKind.i64) (Md.bor false true) t21), (131, AV.dead)]⟩
noncomputable def ref_Within_L8 (nf : Nat) : LC (List Int × Unit) := theL (findL tab (ref_Within_phi nf) (fun _ F => iter nf F) ref_Within_keep 8 0 (codeOf Try.f30) (fin tab [((Ty.int IntKind.u32).sl, Md.own false (Md.bor false false))] (resL ([]) Try.f30)) (fun _ _ => none) (fin tab [((Ty.int IntKind.u32).sl, Md.own false (Md.bor false false))] (resL ([]) Try.f30)))
def ref_Within_m8 (vars : Int) (t5 : List ((Int × Int × Unit) × Bool)) (out : List Int) (a : Int) : St := ⟨fresh, [(0, AV.v (Ty.int IntKind.i64) (Md.bor false true) vars), (5, AV.box 5 500005 (((Ty.int IntKind.i64).pair ((Ty.int IntKind.i64).pair Ty.unit)).mp Ty.bool) (Md.own true (Md.bor false false)) t5), (12, AV.ow 500012 (Ty.int IntKind.u32).sl (Md.own false (Md.bor false false)) out), (13, AV.v (Ty.int IntKind.i64) (Md.bor false true) a), (131, AV.dead)]⟩
noncomputable def ref_Within_L10 (nf : Nat) (G8 : St → Option (List Int × Unit)) : LC (List Int × Unit) := theL (findL tab (ref_Within_phi nf) (fun _ F => iter nf F) ref_Within_keep 10 8 (ref_Within_L8 nf ).c (fun st => norm (ref_Within_keep 8) st G8) (ref_Within_L8 nf ).Kx (ref_Within_L8 nf ).Kr)
def ref_Within_m10 (vars : Int) (a : Int) (t6 : List ((Int × Int × Unit) × Bool)) (out2 : List Int) (s : Int) (b : Int) : St := ⟨fresh, [(0, AV.v (Ty.int IntKind.i64) (Md.bor false true) vars), (5, AV.box 5 500005 (((Ty.int IntKind.i64).pair ((Ty.int IntKind.i64).pair Ty.unit)).mp Ty.bool) (Md.own true (Md.bor false false)) t6), (12, AV.ow 500012 (Ty.int IntKind.u32).sl (Md.own false (Md.bor false false)) out2), (13, AV.v (Ty.int IntKind.i64) (Md.bor false true) a), (14, AV.v (Ty.int IntKind.u32) (Md.bor false true) s), (15, AV.v (Ty.int IntKind.i64) (Md.bor false true) b), (131, AV.dead)]⟩
theorem ref_Within_h10 (nf : Nat) (G8 : St → Option (List Int × Unit)) (vars : Int) (a : Int) (fu : Nat) (t6 : List ((Int × Int × Unit) × Bool)) (out2 : List Int) (s : Int) (b : Int) : iter (fu + 1) (LC.F tab (ref_Within_phi nf) (fun _ F => iter nf F) ref_Within_keep 10 (ref_Within_L10 nf G8)) (ref_Within_m10 vars a t6 out2 s b) = ref_Within_b10 nf  vars a (fun t5 out a => G8 (ref_Within_m8 vars t5 out a)) (fun t6 out2 s b => iter fu (LC.F tab (ref_Within_phi nf) (fun _ F => iter nf F) ref_Within_keep 10 (ref_Within_L10 nf G8)) (ref_Within_m10 vars a t6 out2 s b)) t6 out2 s b := by kernel_rfl
theorem ref_Within_e10 (nf : Nat) (G8 : St → Option (List Int × Unit)) (vars : Int) (a : Int) : ∀ (fu : Nat) (t6 : List ((Int × Int × Unit) × Bool)) (out2 : List Int) (s : Int) (b : Int), iter fu (LC.F tab (ref_Within_phi nf) (fun _ F => iter nf F) ref_Within_keep 10 (ref_Within_L10 nf G8)) (ref_Within_m10 vars a t6 out2 s b) = ref_Within_l10 nf vars a (fun t5 out a => G8 (ref_Within_m8 vars t5 out a)) fu t6 out2 s b := by
  intro fu
  induction fu with
  | zero => intros; rfl
  | succ fu ih =>
    intro t6 out2 s b
    rw [ref_Within_h10 nf G8 vars a fu t6 out2 s b]
    simp only [ih]
    rfl
theorem ref_Within_h8 (nf : Nat)  (vars : Int) (fu : Nat) (t5 : List ((Int × Int × Unit) × Bool)) (out : List Int) (a : Int) : iter (fu + 1) (LC.F tab (ref_Within_phi nf) (fun _ F => iter nf F) ref_Within_keep 8 (ref_Within_L8 nf )) (ref_Within_m8 vars t5 out a) = ref_Within_b8 nf (fun _ p1 v0 v1 v2 v3 => iter nf (LC.F tab (ref_Within_phi nf) (fun _ F => iter nf F) ref_Within_keep 10 (ref_Within_L10 nf (iter fu (LC.F tab (ref_Within_phi nf) (fun _ F => iter nf F) ref_Within_keep 8 (ref_Within_L8 nf ))))) (ref_Within_m10 vars p1 v0 v1 v2 v3)) vars  (fun t5 out a => iter fu (LC.F tab (ref_Within_phi nf) (fun _ F => iter nf F) ref_Within_keep 8 (ref_Within_L8 nf )) (ref_Within_m8 vars t5 out a)) t5 out a := by kernel_rfl
theorem ref_Within_e8 (nf : Nat)  (vars : Int) : ∀ (fu : Nat) (t5 : List ((Int × Int × Unit) × Bool)) (out : List Int) (a : Int), iter fu (LC.F tab (ref_Within_phi nf) (fun _ F => iter nf F) ref_Within_keep 8 (ref_Within_L8 nf )) (ref_Within_m8 vars t5 out a) = ref_Within_l8 nf vars  fu t5 out a := by
  intro fu
  induction fu with
  | zero => intros; rfl
  | succ fu ih =>
    intro t5 out a
    rw [ref_Within_h8 nf  vars fu t5 out a]
    simp only [ih, ref_Within_e10]
    rfl
theorem ref_Within_h6 (nf : Nat) (G0 : St → Option (List Int × Unit)) (G2 : St → Option (List Int × Unit)) (G4 : St → Option (List Int × Unit)) (vars : Int) (l' : List (Int × Int × Int × Unit)) (x : Int) (t21 : Int) (fu : Nat) (t4 : List ((Int × Int × Unit) × Bool)) (more4 : Bool) (p2 : Int × Int × Int × Unit) (y : Int) : iter (fu + 1) (LC.F tab (ref_Within_phi nf) (fun _ F => iter nf F) ref_Within_keep 6 (ref_Within_L6 nf G0 G2 G4)) (ref_Within_m6 vars l' x t21 t4 more4 p2 y) = ref_Within_b6 nf  vars l' x t21 (fun t3 more3 p x => G4 (ref_Within_m4 vars l' t21 t3 more3 p x)) (fun t2 more2 t21 => G2 (ref_Within_m2 vars l' t2 more2 t21)) (fun t more => G0 (ref_Within_m0 vars l' t more)) (fun t4 more4 p2 y => iter fu (LC.F tab (ref_Within_phi nf) (fun _ F => iter nf F) ref_Within_keep 6 (ref_Within_L6 nf G0 G2 G4)) (ref_Within_m6 vars l' x t21 t4 more4 p2 y)) t4 more4 p2 y := by kernel_rfl
theorem ref_Within_e6 (nf : Nat) (G0 : St → Option (List Int × Unit)) (G2 : St → Option (List Int × Unit)) (G4 : St → Option (List Int × Unit)) (vars : Int) (l' : List (Int × Int × Int × Unit)) (x : Int) (t21 : Int) : ∀ (fu : Nat) (t4 : List ((Int × Int × Unit) × Bool)) (more4 : Bool) (p2 : Int × Int × Int × Unit) (y : Int), iter fu (LC.F tab (ref_Within_phi nf) (fun _ F => iter nf F) ref_Within_keep 6 (ref_Within_L6 nf G0 G2 G4)) (ref_Within_m6 vars l' x t21 t4 more4 p2 y) = ref_Within_l6 nf vars l' x t21 (fun t3 more3 p x => G4 (ref_Within_m4 vars l' t21 t3 more3 p x)) (fun t2 more2 t21 => G2 (ref_Within_m2 vars l' t2 more2 t21)) (fun t more => G0 (ref_Within_m0 vars l' t more)) fu t4 more4 p2 y := by
  intro fu
  induction fu with
  | zero => intros; rfl
  | succ fu ih =>
    intro t4 more4 p2 y
    rw [ref_Within_h6 nf G0 G2 G4 vars l' x t21 fu t4 more4 p2 y]
    simp only [ih]
    rfl
theorem ref_Within_h4 (nf : Nat) (G0 : St → Option (List Int × Unit)) (G2 : St → Option (List Int × Unit)) (vars : Int) (l' : List (Int × Int × Int × Unit)) (t21 : Int) (fu : Nat) (t3 : List ((Int × Int × Unit) × Bool)) (more3 : Bool) (p : Int × Int × Int × Unit) (x : Int) : iter (fu + 1) (LC.F tab (ref_Within_phi nf) (fun _ F => iter nf F) ref_Within_keep 4 (ref_Within_L4 nf G0 G2)) (ref_Within_m4 vars l' t21 t3 more3 p x) = ref_Within_b4 nf (fun _ _ p2 _ v0 v1 v2 v3 => iter nf (LC.F tab (ref_Within_phi nf) (fun _ F => iter nf F) ref_Within_keep 6 (ref_Within_L6 nf G0 G2 (iter fu (LC.F tab (ref_Within_phi nf) (fun _ F => iter nf F) ref_Within_keep 4 (ref_Within_L4 nf G0 G2))))) (ref_Within_m6 vars l' p2 t21 v0 v1 v2 v3)) vars l' t21 (fun t2 more2 t21 => G2 (ref_Within_m2 vars l' t2 more2 t21)) (fun t more => G0 (ref_Within_m0 vars l' t more)) (fun t3 more3 p x => iter fu (LC.F tab (ref_Within_phi nf) (fun _ F => iter nf F) ref_Within_keep 4 (ref_Within_L4 nf G0 G2)) (ref_Within_m4 vars l' t21 t3 more3 p x)) t3 more3 p x := by kernel_rfl
theorem ref_Within_e4 (nf : Nat) (G0 : St → Option (List Int × Unit)) (G2 : St → Option (List Int × Unit)) (vars : Int) (l' : List (Int × Int × Int × Unit)) (t21 : Int) : ∀ (fu : Nat) (t3 : List ((Int × Int × Unit) × Bool)) (more3 : Bool) (p : Int × Int × Int × Unit) (x : Int), iter fu (LC.F tab (ref_Within_phi nf) (fun _ F => iter nf F) ref_Within_keep 4 (ref_Within_L4 nf G0 G2)) (ref_Within_m4 vars l' t21 t3 more3 p x) = ref_Within_l4 nf vars l' t21 (fun t2 more2 t21 => G2 (ref_Within_m2 vars l' t2 more2 t21)) (fun t more => G0 (ref_Within_m0 vars l' t more)) fu t3 more3 p x := by
  intro fu
  induction fu with
  | zero => intros; rfl
  | succ fu ih =>
    intro t3 more3 p x
    rw [ref_Within_h4 nf G0 G2 vars l' t21 fu t3 more3 p x]
    simp only [ih, ref_Within_e6]
    rfl
theorem ref_Within_h2 (nf : Nat) (G0 : St → Option (List Int × Unit)) (vars : Int) (l' : List (Int × Int × Int × Unit)) (fu : Nat) (t2 : List ((Int × Int × Unit) × Bool)) (more2 : Bool) (t21 : Int) : iter (fu + 1) (LC.F tab (ref_Within_phi nf) (fun _ F => iter nf F) ref_Within_keep 2 (ref_Within_L2 nf G0)) (ref_Within_m2 vars l' t2 more2 t21) = ref_Within_b2 nf (fun _ _ p2 v0 v1 v2 v3 => iter nf (LC.F tab (ref_Within_phi nf) (fun _ F => iter nf F) ref_Within_keep 4 (ref_Within_L4 nf G0 (iter fu (LC.F tab (ref_Within_phi nf) (fun _ F => iter nf F) ref_Within_keep 2 (ref_Within_L2 nf G0))))) (ref_Within_m4 vars l' p2 v0 v1 v2 v3)) vars l' (fun t more => G0 (ref_Within_m0 vars l' t more)) (fun t2 more2 t21 => iter fu (LC.F tab (ref_Within_phi nf) (fun _ F => iter nf F) ref_Within_keep 2 (ref_Within_L2 nf G0)) (ref_Within_m2 vars l' t2 more2 t21)) t2 more2 t21 := by kernel_rfl
theorem ref_Within_e2 (nf : Nat) (G0 : St → Option (List Int × Unit)) (vars : Int) (l' : List (Int × Int × Int × Unit)) : ∀ (fu : Nat) (t2 : List ((Int × Int × Unit) × Bool)) (more2 : Bool) (t21 : Int), iter fu (LC.F tab (ref_Within_phi nf) (fun _ F => iter nf F) ref_Within_keep 2 (ref_Within_L2 nf G0)) (ref_Within_m2 vars l' t2 more2 t21) = ref_Within_l2 nf vars l' (fun t more => G0 (ref_Within_m0 vars l' t more)) fu t2 more2 t21 := by
  intro fu
  induction fu with
  | zero => intros; rfl
  | succ fu ih =>
    intro t2 more2 t21
    rw [ref_Within_h2 nf G0 vars l' fu t2 more2 t21]
    simp only [ih, ref_Within_e4]
    rfl
theorem ref_Within_h0 (nf : Nat)  (vars : Int) (l' : List (Int × Int × Int × Unit)) (fu : Nat) (t : List ((Int × Int × Unit) × Bool)) (more : Bool) : iter (fu + 1) (LC.F tab (ref_Within_phi nf) (fun _ F => iter nf F) ref_Within_keep 0 (ref_Within_L0 nf )) (ref_Within_m0 vars l' t more) = ref_Within_b0 nf (fun _ _ v0 v1 v2 => iter nf (LC.F tab (ref_Within_phi nf) (fun _ F => iter nf F) ref_Within_keep 2 (ref_Within_L2 nf (iter fu (LC.F tab (ref_Within_phi nf) (fun _ F => iter nf F) ref_Within_keep 0 (ref_Within_L0 nf ))))) (ref_Within_m2 vars l' v0 v1 v2)) (fun _ v0 v1 v2 => iter nf (LC.F tab (ref_Within_phi nf) (fun _ F => iter nf F) ref_Within_keep 8 (ref_Within_L8 nf )) (ref_Within_m8 vars v0 v1 v2)) vars l'  (fun t more => iter fu (LC.F tab (ref_Within_phi nf) (fun _ F => iter nf F) ref_Within_keep 0 (ref_Within_L0 nf )) (ref_Within_m0 vars l' t more)) t more := by kernel_rfl
theorem ref_Within_e0 (nf : Nat)  (vars : Int) (l' : List (Int × Int × Int × Unit)) : ∀ (fu : Nat) (t : List ((Int × Int × Unit) × Bool)) (more : Bool), iter fu (LC.F tab (ref_Within_phi nf) (fun _ F => iter nf F) ref_Within_keep 0 (ref_Within_L0 nf )) (ref_Within_m0 vars l' t more) = ref_Within_l0 nf vars l'  fu t more := by
  intro fu
  induction fu with
  | zero => intros; rfl
  | succ fu ih =>
    intro t more
    rw [ref_Within_h0 nf  vars l' fu t more]
    simp only [ih, ref_Within_e2, ref_Within_e8]
    rfl
theorem ref_Within_eq (nf : Nat) (vars : Int) (l' : List (Int × Int × Int × Unit)) : runF tab (ref_Within_phi nf) ref_Within_keep nf [PT.val (Ty.int IntKind.i64) (Md.bor true false), PT.val ((Ty.int IntKind.i64).pair ((Ty.int IntKind.i64).pair ((Ty.int IntKind.i64).pair Ty.unit))).sl (Md.bor true false)] [((Ty.int IntKind.u32).sl, Md.own false (Md.bor false false))] (resL ([]) Try.f30) (codeOf Try.f30) ⟨vars, l', ()⟩ = ref_Within_f nf vars l' := by
  have h : runF tab (ref_Within_phi nf) ref_Within_keep nf [PT.val (Ty.int IntKind.i64) (Md.bor true false), PT.val ((Ty.int IntKind.i64).pair ((Ty.int IntKind.i64).pair ((Ty.int IntKind.i64).pair Ty.unit))).sl (Md.bor true false)] [((Ty.int IntKind.u32).sl, Md.own false (Md.bor false false))] (resL ([]) Try.f30) (codeOf Try.f30) ⟨vars, l', ()⟩ = ref_Within_p nf (fun p0 p1 v0 v1 => iter nf (LC.F tab (ref_Within_phi nf) (fun _ F => iter nf F) ref_Within_keep 0 (ref_Within_L0 nf)) (ref_Within_m0 p0 p1 v0 v1)) vars l' := by kernel_rfl
  rw [h]
  simp only [ref_Within_e0]
  rfl
def ref_Within_F (nf : Nat) (x : denPs [.val (.int .i64) (.bor true false), .val (.sl (.pair (.int .i64) (.pair (.int .i64) (.pair (.int .i64) (.unit))))) (.bor true false)]) : Option (denL [(.sl (.int .u32), .own false (.bor false false))]) := ref_Within_f nf x.1 x.2.1
def ref_Within_C (nf : Nat) : Contract := ⟨[.val (.int .i64) (.bor true false), .val (.sl (.pair (.int .i64) (.pair (.int .i64) (.pair (.int .i64) (.unit))))) (.bor true false)], [(.sl (.int .u32), .own false (.bor false false))], ref_Within_F nf, []⟩
theorem ref_Within_ok : FnOK Try.prog 30 := ⟨Try.f30, codeOf Try.f30, Try.func30, by kernel_rfl, by kernel_rfl⟩
theorem ref_Within_holds (nf : Nat) : Contract.Holds Try.prog 30 (ref_Within_C nf) :=
  fn_holds (Φ := ref_Within_phi nf) (keep := ref_Within_keep) (n := nf) ⟨tabs.1, tabs.2, (ctx_cons ref_Within_1_ok (ref_Within_1_holds nf) ctx_nil), mixed, bk_ok bkls rfl⟩ (fn := Try.f30) ⟨Try.func30, by kernel_rfl, by kernel_rfl, by kernel_rfl⟩ (fun x => ref_Within_eq nf x.1 x.2.1)

/-! codemason codemasonlaw.PointWithins -/
def law_PointWithins_phi (nf : Nat) : Nat → Option Contract := lookC [(27, point_Within_C nf), (28, ref_PointCheck_C nf), (29, ref_Words_C nf), (30, ref_Within_C nf)]
def law_PointWithins_keep : Nat → List Nat := lookK []
def law_PointWithins_p (nf : Nat)  (vars : Int) (l' : List (Int × Int × Int × Unit)) : Option (Bool × Unit) :=
  Option.bind (point_Within_f nf vars l') fun r =>
  Option.bind (ref_PointCheck_f nf vars l' ([])) fun r2 =>
  bif r2.fst != 0 then
    bif r.snd.fst == r2.fst then
      some (((↑(List.length r.fst) : Int) == 0, ()))
    else
      some ((false, ()))
  else
    bif r.snd.fst == 0 then
      Option.bind (ref_Within_f nf vars l') fun r3 =>
      Option.bind (ref_Words_f nf r.fst r3.fst) fun r4 =>
      some ((r4.fst, ()))
    else
      some ((false, ()))
def law_PointWithins_f (nf : Nat) (vars : Int) (l' : List (Int × Int × Int × Unit)) : Option (Bool × Unit) := law_PointWithins_p nf  vars l'
theorem law_PointWithins_eq (nf : Nat) (vars : Int) (l' : List (Int × Int × Int × Unit)) : runF tab (law_PointWithins_phi nf) law_PointWithins_keep nf [PT.val (Ty.int IntKind.i64) (Md.bor false false), PT.val ((Ty.int IntKind.i64).pair ((Ty.int IntKind.i64).pair ((Ty.int IntKind.i64).pair Ty.unit))).sl (Md.bor false false)] [(Ty.bool, Md.bor false true)] (resL ([]) Try.f8) (codeOf Try.f8) ⟨vars, l', ()⟩ = law_PointWithins_f nf vars l' := by
  have h : runF tab (law_PointWithins_phi nf) law_PointWithins_keep nf [PT.val (Ty.int IntKind.i64) (Md.bor false false), PT.val ((Ty.int IntKind.i64).pair ((Ty.int IntKind.i64).pair ((Ty.int IntKind.i64).pair Ty.unit))).sl (Md.bor false false)] [(Ty.bool, Md.bor false true)] (resL ([]) Try.f8) (codeOf Try.f8) ⟨vars, l', ()⟩ = law_PointWithins_p nf  vars l' := by kernel_rfl
  exact h
def law_PointWithins_F (nf : Nat) (x : denPs [.val (.int .i64) (.bor false false), .val (.sl (.pair (.int .i64) (.pair (.int .i64) (.pair (.int .i64) (.unit))))) (.bor false false)]) : Option (denL [(.bool, .bor false true)]) := law_PointWithins_f nf x.1 x.2.1
def law_PointWithins_C (nf : Nat) : Contract := ⟨[.val (.int .i64) (.bor false false), .val (.sl (.pair (.int .i64) (.pair (.int .i64) (.pair (.int .i64) (.unit))))) (.bor false false)], [(.bool, .bor false true)], law_PointWithins_F nf, []⟩
theorem law_PointWithins_ok : FnOK Try.prog 8 := ⟨Try.f8, codeOf Try.f8, Try.func8, by kernel_rfl, by kernel_rfl⟩
theorem law_PointWithins_holds (nf : Nat) : Contract.Holds Try.prog 8 (law_PointWithins_C nf) :=
  fn_holds (Φ := law_PointWithins_phi nf) (keep := law_PointWithins_keep) (n := nf) ⟨tabs.1, tabs.2, (ctx_cons point_Within_ok (point_Within_holds nf) (ctx_cons ref_PointCheck_ok (ref_PointCheck_holds nf) (ctx_cons ref_Words_ok (ref_Words_holds nf) (ctx_cons ref_Within_ok (ref_Within_holds nf) ctx_nil)))), mixed, bk_ok bkls rfl⟩ (fn := Try.f8) ⟨Try.func8, by kernel_rfl, by kernel_rfl, by kernel_rfl⟩ (fun x => law_PointWithins_eq nf x.1 x.2.1)
end
end Go.Proofs.Ytmndifhjmbiodaa.S
