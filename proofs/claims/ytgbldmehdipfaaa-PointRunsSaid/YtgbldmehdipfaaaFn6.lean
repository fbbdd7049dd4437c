/- The functions of the code, as plain functions, and the theorems that say so: made by a program of this proof's own. -/
import Derived.Test.YtgbldmehdipfaaaAbCheck
import Derived.Test.YtgbldmehdipfaaaChecked
namespace Go.Proofs.Ytgbldmehdipfaaa.S
open Go Go.Ab
def tab : Tab := ⟨lookT [(2, .int .i64), (3, .int .i64), (4, .bool), (5, .int .u8), (6, .int .u8), (7, .pair (.int .i64) (.pair (.int .i64) (.pair (.bool) (.pair (.int .u8) (.unit))))), (8, .pair (.int .i64) (.pair (.int .i64) (.pair (.bool) (.pair (.int .u8) (.unit))))), (12, .int .u64), (21, .int .i32), (24, .sl (.pair (.int .i64) (.pair (.int .i64) (.unit)))), (25, .int .u32), (26, .int .i64), (30, .int .u64), (38, .sl (.int .i64)), (44, .sl (.sl (.int .i64))), (49, .pair (.int .i64) (.pair (.int .i64) (.unit))), (51, .sl (.pair (.int .i64) (.pair (.bool) (.pair (.int .i64) (.unit))))), (59, .sl (.pair (.int .i64) (.pair (.int .i64) (.pair (.int .i64) (.unit))))), (64, .sl (.int .u32)), (71, .pair (.int .i64) (.pair (.bool) (.pair (.int .i64) (.unit)))), (72, .pair (.int .i64) (.pair (.bool) (.pair (.int .i64) (.unit)))), (76, .pair (.int .i64) (.pair (.int .i64) (.pair (.int .i64) (.unit)))), (77, .pair (.int .i64) (.pair (.int .i64) (.pair (.int .i64) (.unit)))), (85, .int .u64), (95, .int .u8), (96, .int .u8), (99, .int .i32), (100, .int .i32)], lookM [(2, .bor false true), (3, .bor false true), (4, .bor false true), (5, .bor false true), (6, .bor false true), (7, .bor false true), (8, .bor false true), (12, .bor false true), (21, .bor false true), (24, .own false (.bor false false)), (25, .bor false true), (26, .bor false true), (30, .bor false true), (38, .own false (.bor false false)), (44, .own false (.bor false false)), (49, .bor false true), (51, .own false (.bor false false)), (59, .own false (.bor false false)), (64, .own false (.bor false false)), (71, .bor false true), (72, .bor false true), (76, .bor false true), (77, .bor false true), (85, .bor false true), (95, .bor false true), (96, .bor false true), (99, .bor false true), (100, .bor false true)], hasT [49, 91], hasT [9, 10, 11]⟩
theorem tabs : TabOK Try.prog tab ∧ EqOK Try.prog tab := tab_ok (by kernel_rfl) (by kernel_rfl)
theorem mixed : Try.prog.follows .mixedOrders = true := by kernel_rfl

/-! codemason codemasonref.Ints -/
def ref_Ints_phi (nf : Nat) : Nat → Option Contract := lookC []
def ref_Ints_keep : Nat → List Nat := lookK [(0, [0, 1, 5])]
def ref_Ints_b0 (nf : Nat) (a : List Int) (b : List Int) (g0 : Int → Option (Bool × Unit)) (i : Int) : Option (Bool × Unit) :=
  bif decide (i < (↑a.length : Int)) then
    bif inb i a.length then
      bif inb i b.length then
        bif a.getD i.toNat 0 != b.getD i.toNat 0 then
          some ((false, ()))
        else
          g0 (IntKind.i64.wrap (i + 1))
      else
        none
    else
      none
  else
    some ((true, ()))
def ref_Ints_p (nf : Nat) (l0 : List Int → List Int → Int → Option (Bool × Unit)) (a : List Int) (b : List Int) : Option (Bool × Unit) :=
  bif (↑a.length : Int) != (↑b.length : Int) then
    some ((false, ()))
  else
    l0 a b 0
def ref_Ints_l0 (nf : Nat) (a : List Int) (b : List Int) : Nat → Int → Option (Bool × Unit)
  | 0, _ => none
  | fu + 1, i => ref_Ints_b0 nf  a b  (ref_Ints_l0 nf a b  fu) i
def ref_Ints_f (nf : Nat) (a : List Int) (b : List Int) : Option (Bool × Unit) := ref_Ints_p nf (fun p0 p1 v0 => ref_Ints_l0 nf p0 p1 nf v0) a b
noncomputable def ref_Ints_L0 (nf : Nat) : LC (Bool × Unit) := theL (findL tab (ref_Ints_phi nf) (fun _ F => iter nf F) ref_Ints_keep 0 0 (codeOf Try.f22) (fin tab [(Ty.bool, Md.bor false true)] Try.f22.results.toList) (fun _ _ => none) (fin tab [(Ty.bool, Md.bor false true)] Try.f22.results.toList))
def ref_Ints_m0 (a : List Int) (b : List Int) (i : Int) : St := ⟨fresh, [(0, AV.v (Ty.int IntKind.i64).sl (Md.bor true false) a), (1, AV.v (Ty.int IntKind.i64).sl (Md.bor true false) b), (5, AV.v (Ty.int IntKind.i64) (Md.bor false true) i)]⟩
theorem ref_Ints_h0 (nf : Nat)  (a : List Int) (b : List Int) (fu : Nat) (i : Int) : iter (fu + 1) (LC.F tab (ref_Ints_phi nf) (fun _ F => iter nf F) ref_Ints_keep 0 (ref_Ints_L0 nf )) (ref_Ints_m0 a b i) = ref_Ints_b0 nf  a b  (fun i => iter fu (LC.F tab (ref_Ints_phi nf) (fun _ F => iter nf F) ref_Ints_keep 0 (ref_Ints_L0 nf )) (ref_Ints_m0 a b i)) i := by kernel_rfl
theorem ref_Ints_e0 (nf : Nat)  (a : List Int) (b : List Int) : ∀ (fu : Nat) (i : Int), iter fu (LC.F tab (ref_Ints_phi nf) (fun _ F => iter nf F) ref_Ints_keep 0 (ref_Ints_L0 nf )) (ref_Ints_m0 a b i) = ref_Ints_l0 nf a b  fu i := by
  intro fu
  induction fu with
  | zero => intros; rfl
  | succ fu ih =>
    intro i
    rw [ref_Ints_h0 nf  a b fu i]
    simp only [ih]
    rfl
theorem ref_Ints_eq (nf : Nat) (a : List Int) (b : List Int) : runF tab (ref_Ints_phi nf) ref_Ints_keep nf [PT.val (Ty.int IntKind.i64).sl (Md.bor true false), PT.val (Ty.int IntKind.i64).sl (Md.bor true false)] [(Ty.bool, Md.bor false true)] Try.f22.results.toList (codeOf Try.f22) ⟨a, b, ()⟩ = ref_Ints_f nf a b := by
  have h : runF tab (ref_Ints_phi nf) ref_Ints_keep nf [PT.val (Ty.int IntKind.i64).sl (Md.bor true false), PT.val (Ty.int IntKind.i64).sl (Md.bor true false)] [(Ty.bool, Md.bor false true)] Try.f22.results.toList (codeOf Try.f22) ⟨a, b, ()⟩ = ref_Ints_p nf (fun p0 p1 v0 => iter nf (LC.F tab (ref_Ints_phi nf) (fun _ F => iter nf F) ref_Ints_keep 0 (ref_Ints_L0 nf)) (ref_Ints_m0 p0 p1 v0)) a b := by kernel_rfl
  rw [h]
  simp only [ref_Ints_e0]
  rfl
def ref_Ints_F (nf : Nat) (x : denPs [.val (.sl (.int .i64)) (.bor true false), .val (.sl (.int .i64)) (.bor true false)]) : Option (denL [(.bool, .bor false true)]) := ref_Ints_f nf x.1 x.2.1
def ref_Ints_C (nf : Nat) : Contract := ⟨[.val (.sl (.int .i64)) (.bor true false), .val (.sl (.int .i64)) (.bor true false)], [(.bool, .bor false true)], ref_Ints_F nf⟩
theorem ref_Ints_ok : FnOK Try.prog 22 := ⟨Try.f22, codeOf Try.f22, Try.func22, by kernel_rfl, by kernel_rfl⟩
theorem ref_Ints_holds (nf : Nat) : Contract.Holds Try.prog 22 (ref_Ints_C nf) :=
  fn_holds (Φ := ref_Ints_phi nf) (keep := ref_Ints_keep) (n := nf) ⟨tabs.1, tabs.2, ctx_nil, mixed⟩ (fn := Try.f22) ⟨Try.func22, by kernel_rfl, by kernel_rfl, by kernel_rfl⟩ (fun x => ref_Ints_eq nf x.1 x.2.1)

/-! codemason point.wrong 1 -/
def point_wrong_1_phi (nf : Nat) : Nat → Option Contract := lookC []
def point_wrong_1_keep : Nat → List Nat := lookK []
def point_wrong_1_p (nf : Nat)  (k' : Int) (c1 : List (Int × Int × Int × Unit)) : Option (Bool × Unit) :=
  bif decide (k' < 0) then
    some ((true, ()))
  else
    some ((decide (k' ≥ (↑c1.length : Int)), ()))
def point_wrong_1_f (nf : Nat) (k' : Int) (c1 : List (Int × Int × Int × Unit)) : Option (Bool × Unit) := point_wrong_1_p nf  k' c1
theorem point_wrong_1_eq (nf : Nat) (k' : Int) (c1 : List (Int × Int × Int × Unit)) : runF tab (point_wrong_1_phi nf) point_wrong_1_keep nf [PT.val (Ty.int IntKind.i64) (Md.bor true false), PT.ptr ((Ty.int IntKind.i64).pair ((Ty.int IntKind.i64).pair ((Ty.int IntKind.i64).pair Ty.unit))).sl (Md.bor true false)] [(Ty.bool, Md.bor false true)] Try.f50.results.toList (codeOf Try.f50) ⟨k', c1, ()⟩ = point_wrong_1_f nf k' c1 := by
  have h : runF tab (point_wrong_1_phi nf) point_wrong_1_keep nf [PT.val (Ty.int IntKind.i64) (Md.bor true false), PT.ptr ((Ty.int IntKind.i64).pair ((Ty.int IntKind.i64).pair ((Ty.int IntKind.i64).pair Ty.unit))).sl (Md.bor true false)] [(Ty.bool, Md.bor false true)] Try.f50.results.toList (codeOf Try.f50) ⟨k', c1, ()⟩ = point_wrong_1_p nf  k' c1 := by kernel_rfl
  exact h
def point_wrong_1_F (nf : Nat) (x : denPs [.val (.int .i64) (.bor true false), .ptr (.sl (.pair (.int .i64) (.pair (.int .i64) (.pair (.int .i64) (.unit))))) (.bor true false)]) : Option (denL [(.bool, .bor false true)]) := point_wrong_1_f nf x.1 x.2.1
def point_wrong_1_C (nf : Nat) : Contract := ⟨[.val (.int .i64) (.bor true false), .ptr (.sl (.pair (.int .i64) (.pair (.int .i64) (.pair (.int .i64) (.unit))))) (.bor true false)], [(.bool, .bor false true)], point_wrong_1_F nf⟩
theorem point_wrong_1_ok : FnOK Try.prog 50 := ⟨Try.f50, codeOf Try.f50, Try.func50, by kernel_rfl, by kernel_rfl⟩
theorem point_wrong_1_holds (nf : Nat) : Contract.Holds Try.prog 50 (point_wrong_1_C nf) :=
  fn_holds (Φ := point_wrong_1_phi nf) (keep := point_wrong_1_keep) (n := nf) ⟨tabs.1, tabs.2, ctx_nil, mixed⟩ (fn := Try.f50) ⟨Try.func50, by kernel_rfl, by kernel_rfl, by kernel_rfl⟩ (fun x => point_wrong_1_eq nf x.1 x.2.1)

/-! slices.IndexFunc   int int  codemason point.wrong 1 -/
def slices_IndexFunc__point_wrong_1_phi (nf : Nat) : Nat → Option Contract := lookC [(50, point_wrong_1_C nf)]
def slices_IndexFunc__point_wrong_1_keep : Nat → List Nat := lookK [(0, [0, 1, 7, 8])]
def slices_IndexFunc__point_wrong_1_b0 (nf : Nat) (s : List Int) (f : List (Int × Int × Int × Unit) × Unit) (g0 : Int → Option (Int × Unit)) (t8 : Int) : Option (Int × Unit) :=
  bif decide (t8 < (↑s.length : Int)) then
    bif inb t8 s.length then
      Option.bind (point_wrong_1_f nf (s.getD t8.toNat 0) f.fst) fun r =>
      bif r.fst then
        some ((t8, ()))
      else
        g0 (IntKind.i64.wrap (t8 + 1))
    else
      none
  else
    some ((-1, ()))
def slices_IndexFunc__point_wrong_1_p (nf : Nat) (l0 : List Int → List (Int × Int × Int × Unit) × Unit → Int → Option (Int × Unit)) (s : List Int) (f : List (Int × Int × Int × Unit) × Unit) : Option (Int × Unit) :=
  l0 s f 0
def slices_IndexFunc__point_wrong_1_l0 (nf : Nat) (s : List Int) (f : List (Int × Int × Int × Unit) × Unit) : Nat → Int → Option (Int × Unit)
  | 0, _ => none
  | fu + 1, t8 => slices_IndexFunc__point_wrong_1_b0 nf  s f  (slices_IndexFunc__point_wrong_1_l0 nf s f  fu) t8
def slices_IndexFunc__point_wrong_1_f (nf : Nat) (s : List Int) (f : List (Int × Int × Int × Unit) × Unit) : Option (Int × Unit) := slices_IndexFunc__point_wrong_1_p nf (fun p0 p1 v0 => slices_IndexFunc__point_wrong_1_l0 nf p0 p1 nf v0) s f
noncomputable def slices_IndexFunc__point_wrong_1_L0 (nf : Nat) : LC (Int × Unit) := theL (findL tab (slices_IndexFunc__point_wrong_1_phi nf) (fun _ F => iter nf F) slices_IndexFunc__point_wrong_1_keep 0 0 (codeOf Try.f52) (fin tab [(Ty.int IntKind.i64, Md.bor false true)] Try.f52.results.toList) (fun _ _ => none) (fin tab [(Ty.int IntKind.i64, Md.bor false true)] Try.f52.results.toList))
def slices_IndexFunc__point_wrong_1_m0 (s : List Int) (f : List (Int × Int × Int × Unit) × Unit) (t8 : Int) : St := ⟨fresh, [(0, AV.v (Ty.int IntKind.i64).sl (Md.bor true false) s), (1, AV.clo 50 [AV.rop ((Ty.int IntKind.i64).pair ((Ty.int IntKind.i64).pair ((Ty.int IntKind.i64).pair Ty.unit))).sl (Md.bor true false) f.fst]), (7, AV.v (Ty.int IntKind.i64) (Md.bor false true) (↑s.length : Int)), (8, AV.v (Ty.int IntKind.i64) (Md.bor false true) t8)]⟩
theorem slices_IndexFunc__point_wrong_1_h0 (nf : Nat)  (s : List Int) (f : List (Int × Int × Int × Unit) × Unit) (fu : Nat) (t8 : Int) : iter (fu + 1) (LC.F tab (slices_IndexFunc__point_wrong_1_phi nf) (fun _ F => iter nf F) slices_IndexFunc__point_wrong_1_keep 0 (slices_IndexFunc__point_wrong_1_L0 nf )) (slices_IndexFunc__point_wrong_1_m0 s f t8) = slices_IndexFunc__point_wrong_1_b0 nf  s f  (fun t8 => iter fu (LC.F tab (slices_IndexFunc__point_wrong_1_phi nf) (fun _ F => iter nf F) slices_IndexFunc__point_wrong_1_keep 0 (slices_IndexFunc__point_wrong_1_L0 nf )) (slices_IndexFunc__point_wrong_1_m0 s f t8)) t8 := by kernel_rfl
theorem slices_IndexFunc__point_wrong_1_e0 (nf : Nat)  (s : List Int) (f : List (Int × Int × Int × Unit) × Unit) : ∀ (fu : Nat) (t8 : Int), iter fu (LC.F tab (slices_IndexFunc__point_wrong_1_phi nf) (fun _ F => iter nf F) slices_IndexFunc__point_wrong_1_keep 0 (slices_IndexFunc__point_wrong_1_L0 nf )) (slices_IndexFunc__point_wrong_1_m0 s f t8) = slices_IndexFunc__point_wrong_1_l0 nf s f  fu t8 := by
  intro fu
  induction fu with
  | zero => intros; rfl
  | succ fu ih =>
    intro t8
    rw [slices_IndexFunc__point_wrong_1_h0 nf  s f fu t8]
    simp only [ih]
    rfl
theorem slices_IndexFunc__point_wrong_1_eq (nf : Nat) (s : List Int) (f : List (Int × Int × Int × Unit) × Unit) : runF tab (slices_IndexFunc__point_wrong_1_phi nf) slices_IndexFunc__point_wrong_1_keep nf [PT.val (Ty.int IntKind.i64).sl (Md.bor true false), PT.clo 50 [(((Ty.int IntKind.i64).pair ((Ty.int IntKind.i64).pair ((Ty.int IntKind.i64).pair Ty.unit))).sl, Md.bor true false)]] [(Ty.int IntKind.i64, Md.bor false true)] Try.f52.results.toList (codeOf Try.f52) ⟨s, f, ()⟩ = slices_IndexFunc__point_wrong_1_f nf s f := by
  have h : runF tab (slices_IndexFunc__point_wrong_1_phi nf) slices_IndexFunc__point_wrong_1_keep nf [PT.val (Ty.int IntKind.i64).sl (Md.bor true false), PT.clo 50 [(((Ty.int IntKind.i64).pair ((Ty.int IntKind.i64).pair ((Ty.int IntKind.i64).pair Ty.unit))).sl, Md.bor true false)]] [(Ty.int IntKind.i64, Md.bor false true)] Try.f52.results.toList (codeOf Try.f52) ⟨s, f, ()⟩ = slices_IndexFunc__point_wrong_1_p nf (fun p0 p1 v0 => iter nf (LC.F tab (slices_IndexFunc__point_wrong_1_phi nf) (fun _ F => iter nf F) slices_IndexFunc__point_wrong_1_keep 0 (slices_IndexFunc__point_wrong_1_L0 nf)) (slices_IndexFunc__point_wrong_1_m0 p0 p1 v0)) s f := by kernel_rfl
  rw [h]
  simp only [slices_IndexFunc__point_wrong_1_e0]
  rfl
def slices_IndexFunc__point_wrong_1_F (nf : Nat) (x : denPs [.val (.sl (.int .i64)) (.bor true false), .clo 50 [(.sl (.pair (.int .i64) (.pair (.int .i64) (.pair (.int .i64) (.unit)))), .bor true false)]]) : Option (denL [(.int .i64, .bor false true)]) := slices_IndexFunc__point_wrong_1_f nf x.1 x.2.1
def slices_IndexFunc__point_wrong_1_C (nf : Nat) : Contract := ⟨[.val (.sl (.int .i64)) (.bor true false), .clo 50 [(.sl (.pair (.int .i64) (.pair (.int .i64) (.pair (.int .i64) (.unit)))), .bor true false)]], [(.int .i64, .bor false true)], slices_IndexFunc__point_wrong_1_F nf⟩
theorem slices_IndexFunc__point_wrong_1_ok : FnOK Try.prog 52 := ⟨Try.f52, codeOf Try.f52, Try.func52, by kernel_rfl, by kernel_rfl⟩
theorem slices_IndexFunc__point_wrong_1_holds (nf : Nat) : Contract.Holds Try.prog 52 (slices_IndexFunc__point_wrong_1_C nf) :=
  fn_holds (Φ := slices_IndexFunc__point_wrong_1_phi nf) (keep := slices_IndexFunc__point_wrong_1_keep) (n := nf) ⟨tabs.1, tabs.2, (ctx_cons point_wrong_1_ok (point_wrong_1_holds nf) ctx_nil), mixed⟩ (fn := Try.f52) ⟨Try.func52, by kernel_rfl, by kernel_rfl, by kernel_rfl⟩ (fun x => slices_IndexFunc__point_wrong_1_eq nf x.1 x.2.1)

/-! slices.ContainsFunc   int int  codemason point.wrong 1 -/
def slices_ContainsFunc__point_wrong_1_phi (nf : Nat) : Nat → Option Contract := lookC [(52, slices_IndexFunc__point_wrong_1_C nf)]
def slices_ContainsFunc__point_wrong_1_keep : Nat → List Nat := lookK []
def slices_ContainsFunc__point_wrong_1_p (nf : Nat)  (s : List Int) (f : List (Int × Int × Int × Unit) × Unit) : Option (Bool × Unit) :=
  Option.bind (slices_IndexFunc__point_wrong_1_f nf s ((f.fst, ()))) fun r =>
  some ((decide (r.fst ≥ 0), ()))
def slices_ContainsFunc__point_wrong_1_f (nf : Nat) (s : List Int) (f : List (Int × Int × Int × Unit) × Unit) : Option (Bool × Unit) := slices_ContainsFunc__point_wrong_1_p nf  s f
theorem slices_ContainsFunc__point_wrong_1_eq (nf : Nat) (s : List Int) (f : List (Int × Int × Int × Unit) × Unit) : runF tab (slices_ContainsFunc__point_wrong_1_phi nf) slices_ContainsFunc__point_wrong_1_keep nf [PT.val (Ty.int IntKind.i64).sl (Md.bor true false), PT.clo 50 [(((Ty.int IntKind.i64).pair ((Ty.int IntKind.i64).pair ((Ty.int IntKind.i64).pair Ty.unit))).sl, Md.bor true false)]] [(Ty.bool, Md.bor false true)] Try.f49.results.toList (codeOf Try.f49) ⟨s, f, ()⟩ = slices_ContainsFunc__point_wrong_1_f nf s f := by
  have h : runF tab (slices_ContainsFunc__point_wrong_1_phi nf) slices_ContainsFunc__point_wrong_1_keep nf [PT.val (Ty.int IntKind.i64).sl (Md.bor true false), PT.clo 50 [(((Ty.int IntKind.i64).pair ((Ty.int IntKind.i64).pair ((Ty.int IntKind.i64).pair Ty.unit))).sl, Md.bor true false)]] [(Ty.bool, Md.bor false true)] Try.f49.results.toList (codeOf Try.f49) ⟨s, f, ()⟩ = slices_ContainsFunc__point_wrong_1_p nf  s f := by kernel_rfl
  exact h
def slices_ContainsFunc__point_wrong_1_F (nf : Nat) (x : denPs [.val (.sl (.int .i64)) (.bor true false), .clo 50 [(.sl (.pair (.int .i64) (.pair (.int .i64) (.pair (.int .i64) (.unit)))), .bor true false)]]) : Option (denL [(.bool, .bor false true)]) := slices_ContainsFunc__point_wrong_1_f nf x.1 x.2.1
def slices_ContainsFunc__point_wrong_1_C (nf : Nat) : Contract := ⟨[.val (.sl (.int .i64)) (.bor true false), .clo 50 [(.sl (.pair (.int .i64) (.pair (.int .i64) (.pair (.int .i64) (.unit)))), .bor true false)]], [(.bool, .bor false true)], slices_ContainsFunc__point_wrong_1_F nf⟩
theorem slices_ContainsFunc__point_wrong_1_ok : FnOK Try.prog 49 := ⟨Try.f49, codeOf Try.f49, Try.func49, by kernel_rfl, by kernel_rfl⟩
theorem slices_ContainsFunc__point_wrong_1_holds (nf : Nat) : Contract.Holds Try.prog 49 (slices_ContainsFunc__point_wrong_1_C nf) :=
  fn_holds (Φ := slices_ContainsFunc__point_wrong_1_phi nf) (keep := slices_ContainsFunc__point_wrong_1_keep) (n := nf) ⟨tabs.1, tabs.2, (ctx_cons slices_IndexFunc__point_wrong_1_ok (slices_IndexFunc__point_wrong_1_holds nf) ctx_nil), mixed⟩ (fn := Try.f49) ⟨Try.func49, by kernel_rfl, by kernel_rfl, by kernel_rfl⟩ (fun x => slices_ContainsFunc__point_wrong_1_eq nf x.1 x.2.1)

/-! codemason point.wrong -/
def point_wrong_phi (nf : Nat) : Nat → Option Contract := lookC [(49, slices_ContainsFunc__point_wrong_1_C nf)]
def point_wrong_keep : Nat → List Nat := lookK [(0, [0, 1, 2, 4, 25, 26, 27])]
def point_wrong_b0 (nf : Nat) (vars : Int) (l' : List (Int × Int × Int × Unit)) (script : List Int) (g0 : List (Int × Int × Int × Unit) → Int → Option (Int × Unit)) (l'2 : List (Int × Int × Int × Unit)) (t27 : Int) : Option (Int × Unit) :=
  bif decide (t27 < (↑l'.length : Int)) then
    bif inb t27 l'.length then
      bif decide ((l'.getD t27.toNat (0, 0, 0, ())).fst < 1) then
        some ((6, ()))
      else
        bif decide ((l'.getD t27.toNat (0, 0, 0, ())).fst > 4) then
          some ((6, ()))
        else
          bif decide ((if (l'.getD t27.toNat (0, 0, 0, ())).snd.snd.fst < (l'.getD t27.toNat (0, 0, 0, ())).snd.fst then (l'.getD t27.toNat (0, 0, 0, ())).snd.snd.fst else (l'.getD t27.toNat (0, 0, 0, ())).snd.fst) < 0) then
            some ((2, ()))
          else
            bif decide ((if (l'.getD t27.toNat (0, 0, 0, ())).snd.snd.fst > (l'.getD t27.toNat (0, 0, 0, ())).snd.fst then (l'.getD t27.toNat (0, 0, 0, ())).snd.snd.fst else (l'.getD t27.toNat (0, 0, 0, ())).snd.fst) ≥ vars) then
              some ((2, ()))
            else
              g0 l'2 (IntKind.i64.wrap (t27 + 1))
    else
      none
  else
    Option.bind (slices_ContainsFunc__point_wrong_1_f nf script ((l'2, ()))) fun r =>
    bif r.fst then
      some ((5, ()))
    else
      some ((0, ()))
def point_wrong_p (nf : Nat) (l0 : Int → List (Int × Int × Int × Unit) → List Int → List (Int × Int × Int × Unit) → Int → Option (Int × Unit)) (vars : Int) (l' : List (Int × Int × Int × Unit)) (script : List Int) : Option (Int × Unit) :=
  bif decide (vars < 1) then
    some ((1, ()))
  else
    bif decide (vars > 8) then
      some ((1, ()))
    else
      bif decide ((↑l'.length : Int) > 12) then
        some ((1, ()))
      else
        bif decide ((↑script.length : Int) > 200) then
          some ((1, ()))
        else
          l0 vars l' script l' 0
def point_wrong_l0 (nf : Nat) (vars : Int) (l' : List (Int × Int × Int × Unit)) (script : List Int) : Nat → List (Int × Int × Int × Unit) → Int → Option (Int × Unit)
  | 0, _, _ => none
  | fu + 1, l'2, t27 => point_wrong_b0 nf  vars l' script  (point_wrong_l0 nf vars l' script  fu) l'2 t27
def point_wrong_f (nf : Nat) (vars : Int) (l' : List (Int × Int × Int × Unit)) (script : List Int) : Option (Int × Unit) := point_wrong_p nf (fun p0 p1 p2 v0 v1 => point_wrong_l0 nf p0 p1 p2 nf v0 v1) vars l' script
noncomputable def point_wrong_L0 (nf : Nat) : LC (Int × Unit) := theL (findL tab (point_wrong_phi nf) (fun _ F => iter nf F) point_wrong_keep 0 0 (codeOf Try.f47) (fin tab [(Ty.int IntKind.i64, Md.bor false true)] Try.f47.results.toList) (fun _ _ => none) (fin tab [(Ty.int IntKind.i64, Md.bor false true)] Try.f47.results.toList))
def point_wrong_m0 (vars : Int) (l' : List (Int × Int × Int × Unit)) (script : List Int) (l'2 : List (Int × Int × Int × Unit)) (t27 : Int) : St := ⟨fresh, [(0, AV.v (Ty.int IntKind.i64) (Md.bor false true) vars), (1, AV.v ((Ty.int IntKind.i64).pair ((Ty.int IntKind.i64).pair ((Ty.int IntKind.i64).pair Ty.unit))).sl (Md.bor true false) l'), (2, AV.v (Ty.int IntKind.i64).sl (Md.bor true false) script), (4, AV.box 4 500004 ((Ty.int IntKind.i64).pair ((Ty.int IntKind.i64).pair ((Ty.int IntKind.i64).pair Ty.unit))).sl (Md.bor true false) l'2), (25, AV.v ((Ty.int IntKind.i64).pair ((Ty.int IntKind.i64).pair ((Ty.int IntKind.i64).pair Ty.unit))).sl (Md.bor true false) l'), (26, AV.v (Ty.int IntKind.i64) (Md.bor false true) (↑l'.length : Int)), (27, AV.v (Ty.int IntKind.i64) (Md.bor false true) t27)]⟩
theorem point_wrong_h0 (nf : Nat)  (vars : Int) (l' : List (Int × Int × Int × Unit)) (script : List Int) (fu : Nat) (l'2 : List (Int × Int × Int × Unit)) (t27 : Int) : iter (fu + 1) (LC.F tab (point_wrong_phi nf) (fun _ F => iter nf F) point_wrong_keep 0 (point_wrong_L0 nf )) (point_wrong_m0 vars l' script l'2 t27) = point_wrong_b0 nf  vars l' script  (fun l'2 t27 => iter fu (LC.F tab (point_wrong_phi nf) (fun _ F => iter nf F) point_wrong_keep 0 (point_wrong_L0 nf )) (point_wrong_m0 vars l' script l'2 t27)) l'2 t27 := by kernel_rfl
theorem point_wrong_e0 (nf : Nat)  (vars : Int) (l' : List (Int × Int × Int × Unit)) (script : List Int) : ∀ (fu : Nat) (l'2 : List (Int × Int × Int × Unit)) (t27 : Int), iter fu (LC.F tab (point_wrong_phi nf) (fun _ F => iter nf F) point_wrong_keep 0 (point_wrong_L0 nf )) (point_wrong_m0 vars l' script l'2 t27) = point_wrong_l0 nf vars l' script  fu l'2 t27 := by
  intro fu
  induction fu with
  | zero => intros; rfl
  | succ fu ih =>
    intro l'2 t27
    rw [point_wrong_h0 nf  vars l' script fu l'2 t27]
    simp only [ih]
    rfl
theorem point_wrong_eq (nf : Nat) (vars : Int) (l' : List (Int × Int × Int × Unit)) (script : List Int) : runF tab (point_wrong_phi nf) point_wrong_keep nf [PT.val (Ty.int IntKind.i64) (Md.bor true false), PT.val ((Ty.int IntKind.i64).pair ((Ty.int IntKind.i64).pair ((Ty.int IntKind.i64).pair Ty.unit))).sl (Md.bor true false), PT.val (Ty.int IntKind.i64).sl (Md.bor true false)] [(Ty.int IntKind.i64, Md.bor false true)] Try.f47.results.toList (codeOf Try.f47) ⟨vars, l', script, ()⟩ = point_wrong_f nf vars l' script := by
  have h : runF tab (point_wrong_phi nf) point_wrong_keep nf [PT.val (Ty.int IntKind.i64) (Md.bor true false), PT.val ((Ty.int IntKind.i64).pair ((Ty.int IntKind.i64).pair ((Ty.int IntKind.i64).pair Ty.unit))).sl (Md.bor true false), PT.val (Ty.int IntKind.i64).sl (Md.bor true false)] [(Ty.int IntKind.i64, Md.bor false true)] Try.f47.results.toList (codeOf Try.f47) ⟨vars, l', script, ()⟩ = point_wrong_p nf (fun p0 p1 p2 v0 v1 => iter nf (LC.F tab (point_wrong_phi nf) (fun _ F => iter nf F) point_wrong_keep 0 (point_wrong_L0 nf)) (point_wrong_m0 p0 p1 p2 v0 v1)) vars l' script := by kernel_rfl
  rw [h]
  simp only [point_wrong_e0]
  rfl
def point_wrong_F (nf : Nat) (x : denPs [.val (.int .i64) (.bor true false), .val (.sl (.pair (.int .i64) (.pair (.int .i64) (.pair (.int .i64) (.unit))))) (.bor true false), .val (.sl (.int .i64)) (.bor true false)]) : Option (denL [(.int .i64, .bor false true)]) := point_wrong_f nf x.1 x.2.1 x.2.2.1
def point_wrong_C (nf : Nat) : Contract := ⟨[.val (.int .i64) (.bor true false), .val (.sl (.pair (.int .i64) (.pair (.int .i64) (.pair (.int .i64) (.unit))))) (.bor true false), .val (.sl (.int .i64)) (.bor true false)], [(.int .i64, .bor false true)], point_wrong_F nf⟩
theorem point_wrong_ok : FnOK Try.prog 47 := ⟨Try.f47, codeOf Try.f47, Try.func47, by kernel_rfl, by kernel_rfl⟩
theorem point_wrong_holds (nf : Nat) : Contract.Holds Try.prog 47 (point_wrong_C nf) :=
  fn_holds (Φ := point_wrong_phi nf) (keep := point_wrong_keep) (n := nf) ⟨tabs.1, tabs.2, (ctx_cons slices_ContainsFunc__point_wrong_1_ok (slices_ContainsFunc__point_wrong_1_holds nf) ctx_nil), mixed⟩ (fn := Try.f47) ⟨Try.func47, by kernel_rfl, by kernel_rfl, by kernel_rfl⟩ (fun x => point_wrong_eq nf x.1 x.2.1 x.2.2.1)

/-! math bits.Mul32 -/
def bits_Mul32_phi (nf : Nat) : Nat → Option Contract := lookC []
def bits_Mul32_keep : Nat → List Nat := lookK []
def bits_Mul32_p (nf : Nat)  (x : Int) (y : Int) : Option (Int × Int × Unit) :=
  some ((IntKind.u32.wrap (shrI IntKind.u64 (IntKind.u64.wrap (IntKind.u64.wrap x * IntKind.u64.wrap y)) 32), IntKind.u32.wrap (IntKind.u64.wrap (IntKind.u64.wrap x * IntKind.u64.wrap y)), ()))
def bits_Mul32_f (nf : Nat) (x : Int) (y : Int) : Option (Int × Int × Unit) := bits_Mul32_p nf  x y
theorem bits_Mul32_eq (nf : Nat) (x : Int) (y : Int) : runF tab (bits_Mul32_phi nf) bits_Mul32_keep nf [PT.val (Ty.int IntKind.u32) (Md.bor true false), PT.val (Ty.int IntKind.u32) (Md.bor true false)] [(Ty.int IntKind.u32, Md.bor false true), (Ty.int IntKind.u32, Md.bor false true)] Try.f53.results.toList (codeOf Try.f53) ⟨x, y, ()⟩ = bits_Mul32_f nf x y := by
  have h : runF tab (bits_Mul32_phi nf) bits_Mul32_keep nf [PT.val (Ty.int IntKind.u32) (Md.bor true false), PT.val (Ty.int IntKind.u32) (Md.bor true false)] [(Ty.int IntKind.u32, Md.bor false true), (Ty.int IntKind.u32, Md.bor false true)] Try.f53.results.toList (codeOf Try.f53) ⟨x, y, ()⟩ = bits_Mul32_p nf  x y := by kernel_rfl
  exact h
def bits_Mul32_F (nf : Nat) (x : denPs [.val (.int .u32) (.bor true false), .val (.int .u32) (.bor true false)]) : Option (denL [(.int .u32, .bor false true), (.int .u32, .bor false true)]) := bits_Mul32_f nf x.1 x.2.1
def bits_Mul32_C (nf : Nat) : Contract := ⟨[.val (.int .u32) (.bor true false), .val (.int .u32) (.bor true false)], [(.int .u32, .bor false true), (.int .u32, .bor false true)], bits_Mul32_F nf⟩
theorem bits_Mul32_ok : FnOK Try.prog 53 := ⟨Try.f53, codeOf Try.f53, Try.func53, by kernel_rfl, by kernel_rfl⟩
theorem bits_Mul32_holds (nf : Nat) : Contract.Holds Try.prog 53 (bits_Mul32_C nf) :=
  fn_holds (Φ := bits_Mul32_phi nf) (keep := bits_Mul32_keep) (n := nf) ⟨tabs.1, tabs.2, ctx_nil, mixed⟩ (fn := Try.f53) ⟨Try.func53, by kernel_rfl, by kernel_rfl, by kernel_rfl⟩ (fun x => bits_Mul32_eq nf x.1 x.2.1)

/-! math bits.Mul64 -/
def bits_Mul64_phi (nf : Nat) : Nat → Option Contract := lookC []
def bits_Mul64_keep : Nat → List Nat := lookK []
def bits_Mul64_p (nf : Nat)  (x : Int) (y : Int) : Option (Int × Int × Unit) :=
  some ((IntKind.u64.wrap (IntKind.u64.wrap (IntKind.u64.wrap (shrI IntKind.u64 x 32 * shrI IntKind.u64 y 32) + shrI IntKind.u64 (IntKind.u64.wrap (IntKind.u64.wrap (shrI IntKind.u64 x 32 * IntKind.u64.wrap (↑(BitVec.ofInt IntKind.u64.bits y &&& BitVec.ofInt IntKind.u64.bits 4294967295).toNat : Int)) + shrI IntKind.u64 (IntKind.u64.wrap (IntKind.u64.wrap (↑(BitVec.ofInt IntKind.u64.bits x &&& BitVec.ofInt IntKind.u64.bits 4294967295).toNat : Int) * IntKind.u64.wrap (↑(BitVec.ofInt IntKind.u64.bits y &&& BitVec.ofInt IntKind.u64.bits 4294967295).toNat : Int))) 32)) 32) + shrI IntKind.u64 (IntKind.u64.wrap (IntKind.u64.wrap (↑(BitVec.ofInt IntKind.u64.bits (IntKind.u64.wrap (IntKind.u64.wrap (shrI IntKind.u64 x 32 * IntKind.u64.wrap (↑(BitVec.ofInt IntKind.u64.bits y &&& BitVec.ofInt IntKind.u64.bits 4294967295).toNat : Int)) + shrI IntKind.u64 (IntKind.u64.wrap (IntKind.u64.wrap (↑(BitVec.ofInt IntKind.u64.bits x &&& BitVec.ofInt IntKind.u64.bits 4294967295).toNat : Int) * IntKind.u64.wrap (↑(BitVec.ofInt IntKind.u64.bits y &&& BitVec.ofInt IntKind.u64.bits 4294967295).toNat : Int))) 32)) &&& BitVec.ofInt IntKind.u64.bits 4294967295).toNat : Int) + IntKind.u64.wrap (IntKind.u64.wrap (↑(BitVec.ofInt IntKind.u64.bits x &&& BitVec.ofInt IntKind.u64.bits 4294967295).toNat : Int) * shrI IntKind.u64 y 32))) 32), IntKind.u64.wrap (x * y), ()))
def bits_Mul64_f (nf : Nat) (x : Int) (y : Int) : Option (Int × Int × Unit) := bits_Mul64_p nf  x y
theorem bits_Mul64_eq (nf : Nat) (x : Int) (y : Int) : runF tab (bits_Mul64_phi nf) bits_Mul64_keep nf [PT.val (Ty.int IntKind.u64) (Md.bor true false), PT.val (Ty.int IntKind.u64) (Md.bor true false)] [(Ty.int IntKind.u64, Md.bor false true), (Ty.int IntKind.u64, Md.bor false true)] Try.f54.results.toList (codeOf Try.f54) ⟨x, y, ()⟩ = bits_Mul64_f nf x y := by
  have h : runF tab (bits_Mul64_phi nf) bits_Mul64_keep nf [PT.val (Ty.int IntKind.u64) (Md.bor true false), PT.val (Ty.int IntKind.u64) (Md.bor true false)] [(Ty.int IntKind.u64, Md.bor false true), (Ty.int IntKind.u64, Md.bor false true)] Try.f54.results.toList (codeOf Try.f54) ⟨x, y, ()⟩ = bits_Mul64_p nf  x y := by kernel_rfl
  exact h
def bits_Mul64_F (nf : Nat) (x : denPs [.val (.int .u64) (.bor true false), .val (.int .u64) (.bor true false)]) : Option (denL [(.int .u64, .bor false true), (.int .u64, .bor false true)]) := bits_Mul64_f nf x.1 x.2.1
def bits_Mul64_C (nf : Nat) : Contract := ⟨[.val (.int .u64) (.bor true false), .val (.int .u64) (.bor true false)], [(.int .u64, .bor false true), (.int .u64, .bor false true)], bits_Mul64_F nf⟩
theorem bits_Mul64_ok : FnOK Try.prog 54 := ⟨Try.f54, codeOf Try.f54, Try.func54, by kernel_rfl, by kernel_rfl⟩
theorem bits_Mul64_holds (nf : Nat) : Contract.Holds Try.prog 54 (bits_Mul64_C nf) :=
  fn_holds (Φ := bits_Mul64_phi nf) (keep := bits_Mul64_keep) (n := nf) ⟨tabs.1, tabs.2, ctx_nil, mixed⟩ (fn := Try.f54) ⟨Try.func54, by kernel_rfl, by kernel_rfl, by kernel_rfl⟩ (fun x => bits_Mul64_eq nf x.1 x.2.1)

/-! math bits.Mul -/
def bits_Mul_phi (nf : Nat) : Nat → Option Contract := lookC [(53, bits_Mul32_C nf), (54, bits_Mul64_C nf)]
def bits_Mul_keep : Nat → List Nat := lookK []
def bits_Mul_p (nf : Nat)  (x : Int) (y : Int) : Option (Int × Int × Unit) :=
  Option.bind (bits_Mul64_f nf x y) fun r =>
  some ((r.fst, r.snd.fst, ()))
def bits_Mul_f (nf : Nat) (x : Int) (y : Int) : Option (Int × Int × Unit) := bits_Mul_p nf  x y
theorem bits_Mul_eq (nf : Nat) (x : Int) (y : Int) : runF tab (bits_Mul_phi nf) bits_Mul_keep nf [PT.val (Ty.int IntKind.u64) (Md.bor true false), PT.val (Ty.int IntKind.u64) (Md.bor true false)] [(Ty.int IntKind.u64, Md.bor false true), (Ty.int IntKind.u64, Md.bor false true)] Try.f51.results.toList (codeOf Try.f51) ⟨x, y, ()⟩ = bits_Mul_f nf x y := by
  have h : runF tab (bits_Mul_phi nf) bits_Mul_keep nf [PT.val (Ty.int IntKind.u64) (Md.bor true false), PT.val (Ty.int IntKind.u64) (Md.bor true false)] [(Ty.int IntKind.u64, Md.bor false true), (Ty.int IntKind.u64, Md.bor false true)] Try.f51.results.toList (codeOf Try.f51) ⟨x, y, ()⟩ = bits_Mul_p nf  x y := by kernel_rfl
  exact h
def bits_Mul_F (nf : Nat) (x : denPs [.val (.int .u64) (.bor true false), .val (.int .u64) (.bor true false)]) : Option (denL [(.int .u64, .bor false true), (.int .u64, .bor false true)]) := bits_Mul_f nf x.1 x.2.1
def bits_Mul_C (nf : Nat) : Contract := ⟨[.val (.int .u64) (.bor true false), .val (.int .u64) (.bor true false)], [(.int .u64, .bor false true), (.int .u64, .bor false true)], bits_Mul_F nf⟩
theorem bits_Mul_ok : FnOK Try.prog 51 := ⟨Try.f51, codeOf Try.f51, Try.func51, by kernel_rfl, by kernel_rfl⟩
theorem bits_Mul_holds (nf : Nat) : Contract.Holds Try.prog 51 (bits_Mul_C nf) :=
  fn_holds (Φ := bits_Mul_phi nf) (keep := bits_Mul_keep) (n := nf) ⟨tabs.1, tabs.2, (ctx_cons bits_Mul32_ok (bits_Mul32_holds nf) (ctx_cons bits_Mul64_ok (bits_Mul64_holds nf) ctx_nil)), mixed⟩ (fn := Try.f51) ⟨Try.func51, by kernel_rfl, by kernel_rfl, by kernel_rfl⟩ (fun x => bits_Mul_eq nf x.1 x.2.1)

/-! slices.Repeat   int int  -/
def slices_Repeat_phi (nf : Nat) : Nat → Option Contract := lookC [(51, bits_Mul_C nf)]
def slices_Repeat_keep : Nat → List Nat := lookK [(0, [7, 8, 30])]
def slices_Repeat_b0 (nf : Nat)  (g0 : List Int → Int → Option (List Int × Unit)) (newslice : List Int) (n' : Int) : Option (List Int × Unit) :=
  bif decide (n' < (↑newslice.length : Int)) then
    bif decide (0 ≤ n') && decide (n' ≤ (↑newslice.length : Int)) && decide ((↑newslice.length : Int) ≤ (↑newslice.length : Int)) then
      bif decide (0 ≤ (↑0 : Int)) && decide ((↑0 : Int) ≤ n') && decide (n' ≤ (↑newslice.length : Int)) then
        g0 (List.take n'.toNat newslice ++ (List.take (((some ((↑newslice.length : Int) - n').toNat).getD newslice.length).min (List.take (n' - (↑0 : Int)).toNat (List.drop 0 newslice)).length) (List.take (n' - (↑0 : Int)).toNat (List.drop 0 newslice)) ++ List.drop (n'.toNat + ((some ((↑newslice.length : Int) - n').toNat).getD newslice.length).min (List.take (n' - (↑0 : Int)).toNat (List.drop 0 newslice)).length) newslice)) (IntKind.i64.wrap (n' + (↑(((some ((↑newslice.length : Int) - n').toNat).getD newslice.length).min (List.take (n' - (↑0 : Int)).toNat (List.drop 0 newslice)).length) : Int)))
      else
        none
    else
      none
  else
    some ((newslice, ()))
def slices_Repeat_p (nf : Nat) (l0 : List Int → Int → Option (List Int × Unit)) (x : List Int) (count : Int) : Option (List Int × Unit) :=
  bif decide (count < 0) then
    none
  else
    Option.bind (bits_Mul_f nf (IntKind.u64.wrap (↑x.length : Int)) (IntKind.u64.wrap count)) fun r =>
    bif decide (r.fst > 0) then
      none
    else
      bif decide (r.snd.fst > 9223372036854775807) then
        none
      else
        bif decide (0 ≤ IntKind.i64.wrap r.snd.fst) && decide (IntKind.i64.wrap r.snd.fst ≤ IntKind.i64.wrap r.snd.fst) && decide (IntKind.i64.wrap r.snd.fst ≤ (↑lim : Int)) then
          l0 (List.take 0 (List.replicate (IntKind.i64.wrap r.snd.fst).toNat 0) ++ (List.take ((none.getD (List.replicate (IntKind.i64.wrap r.snd.fst).toNat (0 : Int)).length).min x.length) x ++ List.drop (0 + (none.getD (List.replicate (IntKind.i64.wrap r.snd.fst).toNat (0 : Int)).length).min x.length) (List.replicate (IntKind.i64.wrap r.snd.fst).toNat 0))) ((↑((none.getD (List.replicate (IntKind.i64.wrap r.snd.fst).toNat (0 : Int)).length).min x.length) : Int))
        else
          none
def slices_Repeat_l0 (nf : Nat)  : Nat → List Int → Int → Option (List Int × Unit)
  | 0, _, _ => none
  | fu + 1, newslice, n' => slices_Repeat_b0 nf    (slices_Repeat_l0 nf   fu) newslice n'
def slices_Repeat_f (nf : Nat) (x : List Int) (count : Int) : Option (List Int × Unit) := slices_Repeat_p nf (fun  v0 v1 => slices_Repeat_l0 nf  nf v0 v1) x count
noncomputable def slices_Repeat_L0 (nf : Nat) : LC (List Int × Unit) := theL (findL tab (slices_Repeat_phi nf) (fun _ F => iter nf F) slices_Repeat_keep 0 0 (codeOf Try.f48) (fin tab [((Ty.int IntKind.i64).sl, Md.own false (Md.bor false false))] Try.f48.results.toList) (fun _ _ => none) (fin tab [((Ty.int IntKind.i64).sl, Md.own false (Md.bor false false))] Try.f48.results.toList))
def slices_Repeat_m0 (newslice : List Int) (n' : Int) : St := ⟨fresh, [(7, AV.ow 500007 (Ty.int IntKind.i64).sl (Md.own false (Md.bor false false)) newslice), (8, AV.v (Ty.int IntKind.i64) (Md.bor false true) n'), (30, AV.dead)]⟩
theorem slices_Repeat_h0 (nf : Nat)   (fu : Nat) (newslice : List Int) (n' : Int) : iter (fu + 1) (LC.F tab (slices_Repeat_phi nf) (fun _ F => iter nf F) slices_Repeat_keep 0 (slices_Repeat_L0 nf )) (slices_Repeat_m0  newslice n') = slices_Repeat_b0 nf    (fun newslice n' => iter fu (LC.F tab (slices_Repeat_phi nf) (fun _ F => iter nf F) slices_Repeat_keep 0 (slices_Repeat_L0 nf )) (slices_Repeat_m0  newslice n')) newslice n' := by kernel_rfl
theorem slices_Repeat_e0 (nf : Nat)   : ∀ (fu : Nat) (newslice : List Int) (n' : Int), iter fu (LC.F tab (slices_Repeat_phi nf) (fun _ F => iter nf F) slices_Repeat_keep 0 (slices_Repeat_L0 nf )) (slices_Repeat_m0  newslice n') = slices_Repeat_l0 nf   fu newslice n' := by
  intro fu
  induction fu with
  | zero => intros; rfl
  | succ fu ih =>
    intro newslice n'
    rw [slices_Repeat_h0 nf   fu newslice n']
    simp only [ih]
    rfl
theorem slices_Repeat_eq (nf : Nat) (x : List Int) (count : Int) : runF tab (slices_Repeat_phi nf) slices_Repeat_keep nf [PT.val (Ty.int IntKind.i64).sl (Md.bor true false), PT.val (Ty.int IntKind.i64) (Md.bor true false)] [((Ty.int IntKind.i64).sl, Md.own false (Md.bor false false))] Try.f48.results.toList (codeOf Try.f48) ⟨x, count, ()⟩ = slices_Repeat_f nf x count := by
  have h : runF tab (slices_Repeat_phi nf) slices_Repeat_keep nf [PT.val (Ty.int IntKind.i64).sl (Md.bor true false), PT.val (Ty.int IntKind.i64) (Md.bor true false)] [((Ty.int IntKind.i64).sl, Md.own false (Md.bor false false))] Try.f48.results.toList (codeOf Try.f48) ⟨x, count, ()⟩ = slices_Repeat_p nf (fun  v0 v1 => iter nf (LC.F tab (slices_Repeat_phi nf) (fun _ F => iter nf F) slices_Repeat_keep 0 (slices_Repeat_L0 nf)) (slices_Repeat_m0  v0 v1)) x count := by kernel_rfl
  rw [h]
  simp only [slices_Repeat_e0]
  rfl
def slices_Repeat_F (nf : Nat) (x : denPs [.val (.sl (.int .i64)) (.bor true false), .val (.int .i64) (.bor true false)]) : Option (denL [(.sl (.int .i64), .own false (.bor false false))]) := slices_Repeat_f nf x.1 x.2.1
def slices_Repeat_C (nf : Nat) : Contract := ⟨[.val (.sl (.int .i64)) (.bor true false), .val (.int .i64) (.bor true false)], [(.sl (.int .i64), .own false (.bor false false))], slices_Repeat_F nf⟩
theorem slices_Repeat_ok : FnOK Try.prog 48 := ⟨Try.f48, codeOf Try.f48, Try.func48, by kernel_rfl, by kernel_rfl⟩
theorem slices_Repeat_holds (nf : Nat) : Contract.Holds Try.prog 48 (slices_Repeat_C nf) :=
  fn_holds (Φ := slices_Repeat_phi nf) (keep := slices_Repeat_keep) (n := nf) ⟨tabs.1, tabs.2, (ctx_cons bits_Mul_ok (bits_Mul_holds nf) ctx_nil), mixed⟩ (fn := Try.f48) ⟨Try.func48, by kernel_rfl, by kernel_rfl, by kernel_rfl⟩ (fun x => slices_Repeat_eq nf x.1 x.2.1)

/-! codemason point.Run -/
def point_Run_phi (nf : Nat) : Nat → Option Contract := lookC [(47, point_wrong_C nf), (48, slices_Repeat_C nf)]
def point_Run_keep : Nat → List Nat := lookK [(0, [1, 2, 9, 24, 25, 26, 27])]
def point_Run_b0 (nf : Nat) (l' : List (Int × Int × Int × Unit)) (script : List Int) (g0 : List Int → Int → Option (List Int × Int × Unit)) (to' : List Int) (t27 : Int) : Option (List Int × Int × Unit) :=
  bif decide (t27 < (↑script.length : Int)) then
    bif inb t27 script.length then
      bif inb (script.getD t27.toNat 0) l'.length then
        bif (l'.getD (Int.toNat (script.getD t27.toNat 0)) (0, 0, 0, ())).fst == 1 then
          bif inb (l'.getD (Int.toNat (script.getD t27.toNat 0)) (0, 0, 0, ())).snd.fst to'.length then
            g0 (to'.set (Int.toNat (l'.getD (Int.toNat (script.getD t27.toNat 0)) (0, 0, 0, ())).snd.fst) (l'.getD (Int.toNat (script.getD t27.toNat 0)) (0, 0, 0, ())).snd.snd.fst) (IntKind.i64.wrap (t27 + 1))
          else
            none
        else
          bif (l'.getD (Int.toNat (script.getD t27.toNat 0)) (0, 0, 0, ())).fst == 2 then
            bif inb (l'.getD (Int.toNat (script.getD t27.toNat 0)) (0, 0, 0, ())).snd.snd.fst to'.length then
              bif inb (l'.getD (Int.toNat (script.getD t27.toNat 0)) (0, 0, 0, ())).snd.fst to'.length then
                g0 (to'.set (Int.toNat (l'.getD (Int.toNat (script.getD t27.toNat 0)) (0, 0, 0, ())).snd.fst) (to'.getD (Int.toNat (l'.getD (Int.toNat (script.getD t27.toNat 0)) (0, 0, 0, ())).snd.snd.fst) 0)) (IntKind.i64.wrap (t27 + 1))
              else
                none
            else
              none
          else
            bif (l'.getD (Int.toNat (script.getD t27.toNat 0)) (0, 0, 0, ())).fst == 3 then
              bif inb (l'.getD (Int.toNat (script.getD t27.toNat 0)) (0, 0, 0, ())).snd.snd.fst to'.length then
                bif decide (to'.getD (Int.toNat (l'.getD (Int.toNat (script.getD t27.toNat 0)) (0, 0, 0, ())).snd.snd.fst) 0 ≥ 0) then
                  bif inb (to'.getD (Int.toNat (l'.getD (Int.toNat (script.getD t27.toNat 0)) (0, 0, 0, ())).snd.snd.fst) 0) to'.length then
                    bif inb (l'.getD (Int.toNat (script.getD t27.toNat 0)) (0, 0, 0, ())).snd.fst to'.length then
                      g0 (to'.set (Int.toNat (l'.getD (Int.toNat (script.getD t27.toNat 0)) (0, 0, 0, ())).snd.fst) (to'.getD (Int.toNat (to'.getD (Int.toNat (l'.getD (Int.toNat (script.getD t27.toNat 0)) (0, 0, 0, ())).snd.snd.fst) 0)) 0)) (IntKind.i64.wrap (t27 + 1))
                    else
                      none
                  else
                    none
                else
                  g0 to' (IntKind.i64.wrap (t27 + 1))
              else
                none
            else
              bif (l'.getD (Int.toNat (script.getD t27.toNat 0)) (0, 0, 0, ())).fst == 4 then
                bif inb (l'.getD (Int.toNat (script.getD t27.toNat 0)) (0, 0, 0, ())).snd.fst to'.length then
                  bif decide (to'.getD (Int.toNat (l'.getD (Int.toNat (script.getD t27.toNat 0)) (0, 0, 0, ())).snd.fst) 0 ≥ 0) then
                    bif inb (l'.getD (Int.toNat (script.getD t27.toNat 0)) (0, 0, 0, ())).snd.snd.fst to'.length then
                      bif inb (to'.getD (Int.toNat (l'.getD (Int.toNat (script.getD t27.toNat 0)) (0, 0, 0, ())).snd.fst) 0) to'.length then
                        g0 (to'.set (Int.toNat (to'.getD (Int.toNat (l'.getD (Int.toNat (script.getD t27.toNat 0)) (0, 0, 0, ())).snd.fst) 0)) (to'.getD (Int.toNat (l'.getD (Int.toNat (script.getD t27.toNat 0)) (0, 0, 0, ())).snd.snd.fst) 0)) (IntKind.i64.wrap (t27 + 1))
                      else
                        none
                    else
                      none
                  else
                    g0 to' (IntKind.i64.wrap (t27 + 1))
                else
                  none
              else
                g0 to' (IntKind.i64.wrap (t27 + 1))
      else
        none
    else
      none
  else
    some ((to', 0, ()))
def point_Run_p (nf : Nat) (l0 : List (Int × Int × Int × Unit) → List Int → List Int → Int → Option (List Int × Int × Unit)) (vars : Int) (l' : List (Int × Int × Int × Unit)) (script : List Int) : Option (List Int × Int × Unit) :=
  Option.bind (point_wrong_f nf vars l' script) fun r =>
  bif r.fst != 0 then
    some (([], r.fst, ()))
  else
    Option.bind (slices_Repeat_f nf ([-1]) vars) fun r2 =>
    l0 l' script r2.fst 0
def point_Run_l0 (nf : Nat) (l' : List (Int × Int × Int × Unit)) (script : List Int) : Nat → List Int → Int → Option (List Int × Int × Unit)
  | 0, _, _ => none
  | fu + 1, to', t27 => point_Run_b0 nf  l' script  (point_Run_l0 nf l' script  fu) to' t27
def point_Run_f (nf : Nat) (vars : Int) (l' : List (Int × Int × Int × Unit)) (script : List Int) : Option (List Int × Int × Unit) := point_Run_p nf (fun p0 p1 v0 v1 => point_Run_l0 nf p0 p1 nf v0 v1) vars l' script
noncomputable def point_Run_L0 (nf : Nat) : LC (List Int × Int × Unit) := theL (findL tab (point_Run_phi nf) (fun _ F => iter nf F) point_Run_keep 0 0 (codeOf Try.f34) (fin tab [((Ty.int IntKind.i64).sl, Md.own false (Md.bor false false)), (Ty.int IntKind.i64, Md.bor false true)] Try.f34.results.toList) (fun _ _ => none) (fin tab [((Ty.int IntKind.i64).sl, Md.own false (Md.bor false false)), (Ty.int IntKind.i64, Md.bor false true)] Try.f34.results.toList))
def point_Run_m0 (l' : List (Int × Int × Int × Unit)) (script : List Int) (to' : List Int) (t27 : Int) : St := ⟨fresh, [(1, AV.v ((Ty.int IntKind.i64).pair ((Ty.int IntKind.i64).pair ((Ty.int IntKind.i64).pair Ty.unit))).sl (Md.bor true false) l'), (2, AV.v (Ty.int IntKind.i64).sl (Md.bor true false) script), (9, AV.ow 500009 (Ty.int IntKind.i64).sl (Md.own false (Md.bor false false)) to'), (24, AV.dead), (25, AV.v (Ty.int IntKind.i64).sl (Md.bor true false) script), (26, AV.v (Ty.int IntKind.i64) (Md.bor false true) (↑script.length : Int)), (27, AV.v (Ty.int IntKind.i64) (Md.bor false true) t27)]⟩
theorem point_Run_h0 (nf : Nat)  (l' : List (Int × Int × Int × Unit)) (script : List Int) (fu : Nat) (to' : List Int) (t27 : Int) : iter (fu + 1) (LC.F tab (point_Run_phi nf) (fun _ F => iter nf F) point_Run_keep 0 (point_Run_L0 nf )) (point_Run_m0 l' script to' t27) = point_Run_b0 nf  l' script  (fun to' t27 => iter fu (LC.F tab (point_Run_phi nf) (fun _ F => iter nf F) point_Run_keep 0 (point_Run_L0 nf )) (point_Run_m0 l' script to' t27)) to' t27 := by kernel_rfl
theorem point_Run_e0 (nf : Nat)  (l' : List (Int × Int × Int × Unit)) (script : List Int) : ∀ (fu : Nat) (to' : List Int) (t27 : Int), iter fu (LC.F tab (point_Run_phi nf) (fun _ F => iter nf F) point_Run_keep 0 (point_Run_L0 nf )) (point_Run_m0 l' script to' t27) = point_Run_l0 nf l' script  fu to' t27 := by
  intro fu
  induction fu with
  | zero => intros; rfl
  | succ fu ih =>
    intro to' t27
    rw [point_Run_h0 nf  l' script fu to' t27]
    simp only [ih]
    rfl
theorem point_Run_eq (nf : Nat) (vars : Int) (l' : List (Int × Int × Int × Unit)) (script : List Int) : runF tab (point_Run_phi nf) point_Run_keep nf [PT.val (Ty.int IntKind.i64) (Md.bor true false), PT.val ((Ty.int IntKind.i64).pair ((Ty.int IntKind.i64).pair ((Ty.int IntKind.i64).pair Ty.unit))).sl (Md.bor true false), PT.val (Ty.int IntKind.i64).sl (Md.bor true false)] [((Ty.int IntKind.i64).sl, Md.own false (Md.bor false false)), (Ty.int IntKind.i64, Md.bor false true)] Try.f34.results.toList (codeOf Try.f34) ⟨vars, l', script, ()⟩ = point_Run_f nf vars l' script := by
  have h : runF tab (point_Run_phi nf) point_Run_keep nf [PT.val (Ty.int IntKind.i64) (Md.bor true false), PT.val ((Ty.int IntKind.i64).pair ((Ty.int IntKind.i64).pair ((Ty.int IntKind.i64).pair Ty.unit))).sl (Md.bor true false), PT.val (Ty.int IntKind.i64).sl (Md.bor true false)] [((Ty.int IntKind.i64).sl, Md.own false (Md.bor false false)), (Ty.int IntKind.i64, Md.bor false true)] Try.f34.results.toList (codeOf Try.f34) ⟨vars, l', script, ()⟩ = point_Run_p nf (fun p0 p1 v0 v1 => iter nf (LC.F tab (point_Run_phi nf) (fun _ F => iter nf F) point_Run_keep 0 (point_Run_L0 nf)) (point_Run_m0 p0 p1 v0 v1)) vars l' script := by kernel_rfl
  rw [h]
  simp only [point_Run_e0]
  rfl
def point_Run_F (nf : Nat) (x : denPs [.val (.int .i64) (.bor true false), .val (.sl (.pair (.int .i64) (.pair (.int .i64) (.pair (.int .i64) (.unit))))) (.bor true false), .val (.sl (.int .i64)) (.bor true false)]) : Option (denL [(.sl (.int .i64), .own false (.bor false false)), (.int .i64, .bor false true)]) := point_Run_f nf x.1 x.2.1 x.2.2.1
def point_Run_C (nf : Nat) : Contract := ⟨[.val (.int .i64) (.bor true false), .val (.sl (.pair (.int .i64) (.pair (.int .i64) (.pair (.int .i64) (.unit))))) (.bor true false), .val (.sl (.int .i64)) (.bor true false)], [(.sl (.int .i64), .own false (.bor false false)), (.int .i64, .bor false true)], point_Run_F nf⟩
theorem point_Run_ok : FnOK Try.prog 34 := ⟨Try.f34, codeOf Try.f34, Try.func34, by kernel_rfl, by kernel_rfl⟩
theorem point_Run_holds (nf : Nat) : Contract.Holds Try.prog 34 (point_Run_C nf) :=
  fn_holds (Φ := point_Run_phi nf) (keep := point_Run_keep) (n := nf) ⟨tabs.1, tabs.2, (ctx_cons point_wrong_ok (point_wrong_holds nf) (ctx_cons slices_Repeat_ok (slices_Repeat_holds nf) ctx_nil)), mixed⟩ (fn := Try.f34) ⟨Try.func34, by kernel_rfl, by kernel_rfl, by kernel_rfl⟩ (fun x => point_Run_eq nf x.1 x.2.1 x.2.2.1)

/-! codemason codemasonref.Inside -/
def ref_Inside_phi (nf : Nat) : Nat → Option Contract := lookC []
def ref_Inside_keep : Nat → List Nat := lookK [(0, [0, 1, 7, 8, 9])]
def ref_Inside_b0 (nf : Nat) (n' : Int) (l' : List Int) (g0 : Int → Option (Bool × Unit)) (t9 : Int) : Option (Bool × Unit) :=
  bif decide (t9 < (↑l'.length : Int)) then
    bif inb t9 l'.length then
      bif decide (l'.getD t9.toNat 0 < 0) then
        some ((false, ()))
      else
        bif decide (l'.getD t9.toNat 0 ≥ n') then
          some ((false, ()))
        else
          g0 (IntKind.i64.wrap (t9 + 1))
    else
      none
  else
    some ((true, ()))
def ref_Inside_p (nf : Nat) (l0 : Int → List Int → Int → Option (Bool × Unit)) (n' : Int) (l' : List Int) : Option (Bool × Unit) :=
  l0 n' l' 0
def ref_Inside_l0 (nf : Nat) (n' : Int) (l' : List Int) : Nat → Int → Option (Bool × Unit)
  | 0, _ => none
  | fu + 1, t9 => ref_Inside_b0 nf  n' l'  (ref_Inside_l0 nf n' l'  fu) t9
def ref_Inside_f (nf : Nat) (n' : Int) (l' : List Int) : Option (Bool × Unit) := ref_Inside_p nf (fun p0 p1 v0 => ref_Inside_l0 nf p0 p1 nf v0) n' l'
noncomputable def ref_Inside_L0 (nf : Nat) : LC (Bool × Unit) := theL (findL tab (ref_Inside_phi nf) (fun _ F => iter nf F) ref_Inside_keep 0 0 (codeOf Try.f39) (fin tab [(Ty.bool, Md.bor false true)] Try.f39.results.toList) (fun _ _ => none) (fin tab [(Ty.bool, Md.bor false true)] Try.f39.results.toList))
def ref_Inside_m0 (n' : Int) (l' : List Int) (t9 : Int) : St := ⟨fresh, [(0, AV.v (Ty.int IntKind.i64) (Md.bor false true) n'), (1, AV.v (Ty.int IntKind.i64).sl (Md.bor true false) l'), (7, AV.v (Ty.int IntKind.i64).sl (Md.bor true false) l'), (8, AV.v (Ty.int IntKind.i64) (Md.bor false true) (↑l'.length : Int)), (9, AV.v (Ty.int IntKind.i64) (Md.bor false true) t9)]⟩
theorem ref_Inside_h0 (nf : Nat)  (n' : Int) (l' : List Int) (fu : Nat) (t9 : Int) : iter (fu + 1) (LC.F tab (ref_Inside_phi nf) (fun _ F => iter nf F) ref_Inside_keep 0 (ref_Inside_L0 nf )) (ref_Inside_m0 n' l' t9) = ref_Inside_b0 nf  n' l'  (fun t9 => iter fu (LC.F tab (ref_Inside_phi nf) (fun _ F => iter nf F) ref_Inside_keep 0 (ref_Inside_L0 nf )) (ref_Inside_m0 n' l' t9)) t9 := by kernel_rfl
theorem ref_Inside_e0 (nf : Nat)  (n' : Int) (l' : List Int) : ∀ (fu : Nat) (t9 : Int), iter fu (LC.F tab (ref_Inside_phi nf) (fun _ F => iter nf F) ref_Inside_keep 0 (ref_Inside_L0 nf )) (ref_Inside_m0 n' l' t9) = ref_Inside_l0 nf n' l'  fu t9 := by
  intro fu
  induction fu with
  | zero => intros; rfl
  | succ fu ih =>
    intro t9
    rw [ref_Inside_h0 nf  n' l' fu t9]
    simp only [ih]
    rfl
theorem ref_Inside_eq (nf : Nat) (n' : Int) (l' : List Int) : runF tab (ref_Inside_phi nf) ref_Inside_keep nf [PT.val (Ty.int IntKind.i64) (Md.bor true false), PT.val (Ty.int IntKind.i64).sl (Md.bor true false)] [(Ty.bool, Md.bor false true)] Try.f39.results.toList (codeOf Try.f39) ⟨n', l', ()⟩ = ref_Inside_f nf n' l' := by
  have h : runF tab (ref_Inside_phi nf) ref_Inside_keep nf [PT.val (Ty.int IntKind.i64) (Md.bor true false), PT.val (Ty.int IntKind.i64).sl (Md.bor true false)] [(Ty.bool, Md.bor false true)] Try.f39.results.toList (codeOf Try.f39) ⟨n', l', ()⟩ = ref_Inside_p nf (fun p0 p1 v0 => iter nf (LC.F tab (ref_Inside_phi nf) (fun _ F => iter nf F) ref_Inside_keep 0 (ref_Inside_L0 nf)) (ref_Inside_m0 p0 p1 v0)) n' l' := by kernel_rfl
  rw [h]
  simp only [ref_Inside_e0]
  rfl
def ref_Inside_F (nf : Nat) (x : denPs [.val (.int .i64) (.bor true false), .val (.sl (.int .i64)) (.bor true false)]) : Option (denL [(.bool, .bor false true)]) := ref_Inside_f nf x.1 x.2.1
def ref_Inside_C (nf : Nat) : Contract := ⟨[.val (.int .i64) (.bor true false), .val (.sl (.int .i64)) (.bor true false)], [(.bool, .bor false true)], ref_Inside_F nf⟩
theorem ref_Inside_ok : FnOK Try.prog 39 := ⟨Try.f39, codeOf Try.f39, Try.func39, by kernel_rfl, by kernel_rfl⟩
theorem ref_Inside_holds (nf : Nat) : Contract.Holds Try.prog 39 (ref_Inside_C nf) :=
  fn_holds (Φ := ref_Inside_phi nf) (keep := ref_Inside_keep) (n := nf) ⟨tabs.1, tabs.2, ctx_nil, mixed⟩ (fn := Try.f39) ⟨Try.func39, by kernel_rfl, by kernel_rfl, by kernel_rfl⟩ (fun x => ref_Inside_eq nf x.1 x.2.1)

/-! codemason codemasonref.PointCheck -/
def ref_PointCheck_phi (nf : Nat) : Nat → Option Contract := lookC [(39, ref_Inside_C nf)]
def ref_PointCheck_keep : Nat → List Nat := lookK [(0, [0, 1, 2, 25, 26, 27])]
def ref_PointCheck_b0 (nf : Nat) (vars : Int) (l' : List (Int × Int × Int × Unit)) (script : List Int) (g0 : Int → Option (Int × Unit)) (t27 : Int) : Option (Int × Unit) :=
  bif decide (t27 < (↑l'.length : Int)) then
    bif inb t27 l'.length then
      bif decide ((l'.getD t27.toNat (0, 0, 0, ())).fst < 1) then
        some ((6, ()))
      else
        bif decide ((l'.getD t27.toNat (0, 0, 0, ())).fst > 4) then
          some ((6, ()))
        else
          Option.bind (ref_Inside_f nf vars ([(l'.getD t27.toNat (0, 0, 0, ())).snd.fst, (l'.getD t27.toNat (0, 0, 0, ())).snd.snd.fst])) fun r =>
          bif !r.fst then
            some ((2, ()))
          else
            g0 (IntKind.i64.wrap (t27 + 1))
    else
      none
  else
    Option.bind (ref_Inside_f nf ((↑l'.length : Int)) script) fun r2 =>
    bif !r2.fst then
      some ((5, ()))
    else
      some ((0, ()))
def ref_PointCheck_p (nf : Nat) (l0 : Int → List (Int × Int × Int × Unit) → List Int → Int → Option (Int × Unit)) (vars : Int) (l' : List (Int × Int × Int × Unit)) (script : List Int) : Option (Int × Unit) :=
  bif decide (vars < 1) then
    some ((1, ()))
  else
    bif decide (vars > 8) then
      some ((1, ()))
    else
      bif decide ((↑l'.length : Int) > 12) then
        some ((1, ()))
      else
        bif decide ((↑script.length : Int) > 200) then
          some ((1, ()))
        else
          l0 vars l' script 0
def ref_PointCheck_l0 (nf : Nat) (vars : Int) (l' : List (Int × Int × Int × Unit)) (script : List Int) : Nat → Int → Option (Int × Unit)
  | 0, _ => none
  | fu + 1, t27 => ref_PointCheck_b0 nf  vars l' script  (ref_PointCheck_l0 nf vars l' script  fu) t27
def ref_PointCheck_f (nf : Nat) (vars : Int) (l' : List (Int × Int × Int × Unit)) (script : List Int) : Option (Int × Unit) := ref_PointCheck_p nf (fun p0 p1 p2 v0 => ref_PointCheck_l0 nf p0 p1 p2 nf v0) vars l' script
noncomputable def ref_PointCheck_L0 (nf : Nat) : LC (Int × Unit) := theL (findL tab (ref_PointCheck_phi nf) (fun _ F => iter nf F) ref_PointCheck_keep 0 0 (codeOf Try.f35) (fin tab [(Ty.int IntKind.i64, Md.bor false true)] Try.f35.results.toList) (fun _ _ => none) (fin tab [(Ty.int IntKind.i64, Md.bor false true)] Try.f35.results.toList))
def ref_PointCheck_m0 (vars : Int) (l' : List (Int × Int × Int × Unit)) (script : List Int) (t27 : Int) : St := ⟨fresh, [(0, AV.v (Ty.int IntKind.i64) (Md.bor false true) vars), (1, AV.v ((Ty.int IntKind.i64).pair ((Ty.int IntKind.i64).pair ((Ty.int IntKind.i64).pair Ty.unit))).sl (Md.bor true false) l'), (2, AV.v (Ty.int IntKind.i64).sl (Md.bor true false) script), (25, AV.v ((Ty.int IntKind.i64).pair ((Ty.int IntKind.i64).pair ((Ty.int IntKind.i64).pair Ty.unit))).sl (Md.bor true false) l'), (26, AV.v (Ty.int IntKind.i64) (Md.bor false true) (↑l'.length : Int)), (27, AV.v (Ty.int IntKind.i64) (Md.bor false true) t27)]⟩
theorem ref_PointCheck_h0 (nf : Nat)  (vars : Int) (l' : List (Int × Int × Int × Unit)) (script : List Int) (fu : Nat) (t27 : Int) : iter (fu + 1) (LC.F tab (ref_PointCheck_phi nf) (fun _ F => iter nf F) ref_PointCheck_keep 0 (ref_PointCheck_L0 nf )) (ref_PointCheck_m0 vars l' script t27) = ref_PointCheck_b0 nf  vars l' script  (fun t27 => iter fu (LC.F tab (ref_PointCheck_phi nf) (fun _ F => iter nf F) ref_PointCheck_keep 0 (ref_PointCheck_L0 nf )) (ref_PointCheck_m0 vars l' script t27)) t27 := by kernel_rfl
theorem ref_PointCheck_e0 (nf : Nat)  (vars : Int) (l' : List (Int × Int × Int × Unit)) (script : List Int) : ∀ (fu : Nat) (t27 : Int), iter fu (LC.F tab (ref_PointCheck_phi nf) (fun _ F => iter nf F) ref_PointCheck_keep 0 (ref_PointCheck_L0 nf )) (ref_PointCheck_m0 vars l' script t27) = ref_PointCheck_l0 nf vars l' script  fu t27 := by
  intro fu
  induction fu with
  | zero => intros; rfl
  | succ fu ih =>
    intro t27
    rw [ref_PointCheck_h0 nf  vars l' script fu t27]
    simp only [ih]
    rfl
theorem ref_PointCheck_eq (nf : Nat) (vars : Int) (l' : List (Int × Int × Int × Unit)) (script : List Int) : runF tab (ref_PointCheck_phi nf) ref_PointCheck_keep nf [PT.val (Ty.int IntKind.i64) (Md.bor true false), PT.val ((Ty.int IntKind.i64).pair ((Ty.int IntKind.i64).pair ((Ty.int IntKind.i64).pair Ty.unit))).sl (Md.bor true false), PT.val (Ty.int IntKind.i64).sl (Md.bor true false)] [(Ty.int IntKind.i64, Md.bor false true)] Try.f35.results.toList (codeOf Try.f35) ⟨vars, l', script, ()⟩ = ref_PointCheck_f nf vars l' script := by
  have h : runF tab (ref_PointCheck_phi nf) ref_PointCheck_keep nf [PT.val (Ty.int IntKind.i64) (Md.bor true false), PT.val ((Ty.int IntKind.i64).pair ((Ty.int IntKind.i64).pair ((Ty.int IntKind.i64).pair Ty.unit))).sl (Md.bor true false), PT.val (Ty.int IntKind.i64).sl (Md.bor true false)] [(Ty.int IntKind.i64, Md.bor false true)] Try.f35.results.toList (codeOf Try.f35) ⟨vars, l', script, ()⟩ = ref_PointCheck_p nf (fun p0 p1 p2 v0 => iter nf (LC.F tab (ref_PointCheck_phi nf) (fun _ F => iter nf F) ref_PointCheck_keep 0 (ref_PointCheck_L0 nf)) (ref_PointCheck_m0 p0 p1 p2 v0)) vars l' script := by kernel_rfl
  rw [h]
  simp only [ref_PointCheck_e0]
  rfl
def ref_PointCheck_F (nf : Nat) (x : denPs [.val (.int .i64) (.bor true false), .val (.sl (.pair (.int .i64) (.pair (.int .i64) (.pair (.int .i64) (.unit))))) (.bor true false), .val (.sl (.int .i64)) (.bor true false)]) : Option (denL [(.int .i64, .bor false true)]) := ref_PointCheck_f nf x.1 x.2.1 x.2.2.1
def ref_PointCheck_C (nf : Nat) : Contract := ⟨[.val (.int .i64) (.bor true false), .val (.sl (.pair (.int .i64) (.pair (.int .i64) (.pair (.int .i64) (.unit))))) (.bor true false), .val (.sl (.int .i64)) (.bor true false)], [(.int .i64, .bor false true)], ref_PointCheck_F nf⟩
theorem ref_PointCheck_ok : FnOK Try.prog 35 := ⟨Try.f35, codeOf Try.f35, Try.func35, by kernel_rfl, by kernel_rfl⟩
theorem ref_PointCheck_holds (nf : Nat) : Contract.Holds Try.prog 35 (ref_PointCheck_C nf) :=
  fn_holds (Φ := ref_PointCheck_phi nf) (keep := ref_PointCheck_keep) (n := nf) ⟨tabs.1, tabs.2, (ctx_cons ref_Inside_ok (ref_Inside_holds nf) ctx_nil), mixed⟩ (fn := Try.f35) ⟨Try.func35, by kernel_rfl, by kernel_rfl, by kernel_rfl⟩ (fun x => ref_PointCheck_eq nf x.1 x.2.1 x.2.2.1)

/-! codemason codemasonref.Pointed -/
def ref_Pointed_phi (nf : Nat) : Nat → Option Contract := lookC []
def ref_Pointed_keep : Nat → List Nat := lookK [(2, [1, 2, 7, 13, 22, 23, 24]), (0, [0, 1, 2, 7, 8, 13])]
def ref_Pointed_b0 (nf : Nat) (l2 : List (Int × Int × Int × Unit) → List Int → List Int → Int → Option (List Int × Unit)) (vars : Int) (l' : List (Int × Int × Int × Unit)) (script : List Int) (g0 : List Int → Int → Option (List Int × Unit)) (to' : List Int) (i : Int) : Option (List Int × Unit) :=
  bif decide (i < vars) then
    bif inb i to'.length then
      g0 (to'.set i.toNat (-1)) (IntKind.i64.wrap (i + 1))
    else
      none
  else
    l2 l' script to' 0
def ref_Pointed_b2 (nf : Nat) (l' : List (Int × Int × Int × Unit)) (script : List Int) (g2 : List Int → Int → Option (List Int × Unit)) (to'2 : List Int) (t24 : Int) : Option (List Int × Unit) :=
  bif decide (t24 < (↑script.length : Int)) then
    bif inb t24 script.length then
      bif inb (script.getD t24.toNat 0) l'.length then
        bif (l'.getD (Int.toNat (script.getD t24.toNat 0)) (0, 0, 0, ())).fst == 1 then
          bif inb (l'.getD (Int.toNat (script.getD t24.toNat 0)) (0, 0, 0, ())).snd.fst to'2.length then
            bif (l'.getD (Int.toNat (script.getD t24.toNat 0)) (0, 0, 0, ())).fst == 2 then
              bif inb (l'.getD (Int.toNat (script.getD t24.toNat 0)) (0, 0, 0, ())).snd.snd.fst (to'2.set (Int.toNat (l'.getD (Int.toNat (script.getD t24.toNat 0)) (0, 0, 0, ())).snd.fst) (l'.getD (Int.toNat (script.getD t24.toNat 0)) (0, 0, 0, ())).snd.snd.fst).length then
                bif inb (l'.getD (Int.toNat (script.getD t24.toNat 0)) (0, 0, 0, ())).snd.fst (to'2.set (Int.toNat (l'.getD (Int.toNat (script.getD t24.toNat 0)) (0, 0, 0, ())).snd.fst) (l'.getD (Int.toNat (script.getD t24.toNat 0)) (0, 0, 0, ())).snd.snd.fst).length then
                  bif (l'.getD (Int.toNat (script.getD t24.toNat 0)) (0, 0, 0, ())).fst == 3 then
                    bif inb (l'.getD (Int.toNat (script.getD t24.toNat 0)) (0, 0, 0, ())).snd.snd.fst ((to'2.set (Int.toNat (l'.getD (Int.toNat (script.getD t24.toNat 0)) (0, 0, 0, ())).snd.fst) (l'.getD (Int.toNat (script.getD t24.toNat 0)) (0, 0, 0, ())).snd.snd.fst).set (Int.toNat (l'.getD (Int.toNat (script.getD t24.toNat 0)) (0, 0, 0, ())).snd.fst) ((to'2.set (Int.toNat (l'.getD (Int.toNat (script.getD t24.toNat 0)) (0, 0, 0, ())).snd.fst) (l'.getD (Int.toNat (script.getD t24.toNat 0)) (0, 0, 0, ())).snd.snd.fst).getD (Int.toNat (l'.getD (Int.toNat (script.getD t24.toNat 0)) (0, 0, 0, ())).snd.snd.fst) 0)).length then
                      bif decide (((to'2.set (Int.toNat (l'.getD (Int.toNat (script.getD t24.toNat 0)) (0, 0, 0, ())).snd.fst) (l'.getD (Int.toNat (script.getD t24.toNat 0)) (0, 0, 0, ())).snd.snd.fst).set (Int.toNat (l'.getD (Int.toNat (script.getD t24.toNat 0)) (0, 0, 0, ())).snd.fst) ((to'2.set (Int.toNat (l'.getD (Int.toNat (script.getD t24.toNat 0)) (0, 0, 0, ())).snd.fst) (l'.getD (Int.toNat (script.getD t24.toNat 0)) (0, 0, 0, ())).snd.snd.fst).getD (Int.toNat (l'.getD (Int.toNat (script.getD t24.toNat 0)) (0, 0, 0, ())).snd.snd.fst) 0)).getD (Int.toNat (l'.getD (Int.toNat (script.getD t24.toNat 0)) (0, 0, 0, ())).snd.snd.fst) 0 ≥ 0) then
                        bif inb (l'.getD (Int.toNat (script.getD t24.toNat 0)) (0, 0, 0, ())).snd.snd.fst ((to'2.set (Int.toNat (l'.getD (Int.toNat (script.getD t24.toNat 0)) (0, 0, 0, ())).snd.fst) (l'.getD (Int.toNat (script.getD t24.toNat 0)) (0, 0, 0, ())).snd.snd.fst).set (Int.toNat (l'.getD (Int.toNat (script.getD t24.toNat 0)) (0, 0, 0, ())).snd.fst) ((to'2.set (Int.toNat (l'.getD (Int.toNat (script.getD t24.toNat 0)) (0, 0, 0, ())).snd.fst) (l'.getD (Int.toNat (script.getD t24.toNat 0)) (0, 0, 0, ())).snd.snd.fst).getD (Int.toNat (l'.getD (Int.toNat (script.getD t24.toNat 0)) (0, 0, 0, ())).snd.snd.fst) 0)).length then
                          bif inb (((to'2.set (Int.toNat (l'.getD (Int.toNat (script.getD t24.toNat 0)) (0, 0, 0, ())).snd.fst) (l'.getD (Int.toNat (script.getD t24.toNat 0)) (0, 0, 0, ())).snd.snd.fst).set (Int.toNat (l'.getD (Int.toNat (script.getD t24.toNat 0)) (0, 0, 0, ())).snd.fst) ((to'2.set (Int.toNat (l'.getD (Int.toNat (script.getD t24.toNat 0)) (0, 0, 0, ())).snd.fst) (l'.getD (Int.toNat (script.getD t24.toNat 0)) (0, 0, 0, ())).snd.snd.fst).getD (Int.toNat (l'.getD (Int.toNat (script.getD t24.toNat 0)) (0, 0, 0, ())).snd.snd.fst) 0)).getD (Int.toNat (l'.getD (Int.toNat (script.getD t24.toNat 0)) (0, 0, 0, ())).snd.snd.fst) 0) ((to'2.set (Int.toNat (l'.getD (Int.toNat (script.getD t24.toNat 0)) (0, 0, 0, ())).snd.fst) (l'.getD (Int.toNat (script.getD t24.toNat 0)) (0, 0, 0, ())).snd.snd.fst).set (Int.toNat (l'.getD (Int.toNat (script.getD t24.toNat 0)) (0, 0, 0, ())).snd.fst) ((to'2.set (Int.toNat (l'.getD (Int.toNat (script.getD t24.toNat 0)) (0, 0, 0, ())).snd.fst) (l'.getD (Int.toNat (script.getD t24.toNat 0)) (0, 0, 0, ())).snd.snd.fst).getD (Int.toNat (l'.getD (Int.toNat (script.getD t24.toNat 0)) (0, 0, 0, ())).snd.snd.fst) 0)).length then
                            bif inb (l'.getD (Int.toNat (script.getD t24.toNat 0)) (0, 0, 0, ())).snd.fst ((to'2.set (Int.toNat (l'.getD (Int.toNat (script.getD t24.toNat 0)) (0, 0, 0, ())).snd.fst) (l'.getD (Int.toNat (script.getD t24.toNat 0)) (0, 0, 0, ())).snd.snd.fst).set (Int.toNat (l'.getD (Int.toNat (script.getD t24.toNat 0)) (0, 0, 0, ())).snd.fst) ((to'2.set (Int.toNat (l'.getD (Int.toNat (script.getD t24.toNat 0)) (0, 0, 0, ())).snd.fst) (l'.getD (Int.toNat (script.getD t24.toNat 0)) (0, 0, 0, ())).snd.snd.fst).getD (Int.toNat (l'.getD (Int.toNat (script.getD t24.toNat 0)) (0, 0, 0, ())).snd.snd.fst) 0)).length then
                              bif (l'.getD (Int.toNat (script.getD t24.toNat 0)) (0, 0, 0, ())).fst == 4 then
                                bif inb (l'.getD (Int.toNat (script.getD t24.toNat 0)) (0, 0, 0, ())).snd.fst (((to'2.set (Int.toNat (l'.getD (Int.toNat (script.getD t24.toNat 0)) (0, 0, 0, ())).snd.fst) (l'.getD (Int.toNat (script.getD t24.toNat 0)) (0, 0, 0, ())).snd.snd.fst).set (Int.toNat (l'.getD (Int.toNat (script.getD t24.toNat 0)) (0, 0, 0, ())).snd.fst) ((to'2.set (Int.toNat (l'.getD (Int.toNat (script.getD t24.toNat 0)) (0, 0, 0, ())).snd.fst) (l'.getD (Int.toNat (script.getD t24.toNat 0)) (0, 0, 0, ())).snd.snd.fst).getD (Int.toNat (l'.getD (Int.toNat (script.getD t24.toNat 0)) (0, 0, 0, ())).snd.snd.fst) 0)).set (Int.toNat (l'.getD (Int.toNat (script.getD t24.toNat 0)) (0, 0, 0, ())).snd.fst) (((to'2.set (Int.toNat (l'.getD (Int.toNat (script.getD t24.toNat 0)) (0, 0, 0, ())).snd.fst) (l'.getD (Int.toNat (script.getD t24.toNat 0)) (0, 0, 0, ())).snd.snd.fst).set (Int.toNat (l'.getD (Int.toNat (script.getD t24.toNat 0)) (0, 0, 0, ())).snd.fst) ((to'2.set (Int.toNat (l'.getD (Int.toNat (script.getD t24.toNat 0)) (0, 0, 0, ())).snd.fst) (l'.getD (Int.toNat (script.getD t24.toNat 0)) (0, 0, 0, ())).snd.snd.fst).getD (Int.toNat (l'.getD (Int.toNat (script.getD t24.toNat 0)) (0, 0, 0, ())).snd.snd.fst) 0)).getD (Int.toNat (((to'2.set (Int.toNat (l'.getD (Int.toNat (script.getD t24.toNat 0)) (0, 0, 0, ())).snd.fst) (l'.getD (Int.toNat (script.getD t24.toNat 0)) (0, 0, 0, ())).snd.snd.fst).set (Int.toNat (l'.getD (Int.toNat (script.getD t24.toNat 0)) (0, 0, 0, ())).snd.fst) ((to'2.set (Int.toNat (l'.getD (Int.toNat (script.getD t24.toNat 0)) (0, 0, 0, ())).snd.fst) (l'.getD (Int.toNat (script.getD t24.toNat 0)) (0, 0, 0, ())).snd.snd.fst).getD (Int.toNat (l'.getD (Int.toNat (script.getD t24.toNat 0)) (0, 0, 0, ())).snd.snd.fst) 0)).getD (Int.toNat (l'.getD (Int.toNat (script.getD t24.toNat 0)) (0, 0, 0, ())).snd.snd.fst) 0)) 0)).length then
                                  bif decide ((((to'2.set (Int.toNat (l'.getD (Int.toNat (script.getD t24.toNat 0)) (0, 0, 0, ())).snd.fst) (l'.getD (Int.toNat (script.getD t24.toNat 0)) (0, 0, 0, ())).snd.snd.fst).set (Int.toNat (l'.getD (Int.toNat (script.getD t24.toNat 0)) (0, 0, 0, ())).snd.fst) ((to'2.set (Int.toNat (l'.getD (Int.toNat (script.getD t24.toNat 0)) (0, 0, 0, ())).snd.fst) (l'.getD (Int.toNat (script.getD t24.toNat 0)) (0, 0, 0, ())).snd.snd.fst).getD (Int.toNat (l'.getD (Int.toNat (script.getD t24.toNat 0)) (0, 0, 0, ())).snd.snd.fst) 0)).set (Int.toNat (l'.getD (Int.toNat (script.getD t24.toNat 0)) (0, 0, 0, ())).snd.fst) (((to'2.set (Int.toNat (l'.getD (Int.toNat (script.getD t24.toNat 0)) (0, 0, 0, ())).snd.fst) (l'.getD (Int.toNat (script.getD t24.toNat 0)) (0, 0, 0, ())).snd.snd.fst).set (Int.toNat (l'.getD (Int.toNat (script.getD t24.toNat 0)) (0, 0, 0, ())).snd.fst) ((to'2.set (Int.toNat (l'.getD (Int.toNat (script.getD t24.toNat 0)) (0, 0, 0, ())).snd.fst) (l'.getD (Int.toNat (script.getD t24.toNat 0)) (0, 0, 0, ())).snd.snd.fst).getD (Int.toNat (l'.getD (Int.toNat (script.getD t24.toNat 0)) (0, 0, 0, ())).snd.snd.fst) 0)).getD (Int.toNat (((to'2.set (Int.toNat (l'.getD (Int.toNat (script.getD t24.toNat 0)) (0, 0, 0, ())).snd.fst) (l'.getD (Int.toNat (script.getD t24.toNat 0)) (0, 0, 0, ())).snd.snd.fst).set (Int.toNat (l'.getD (Int.toNat (script.getD t24.toNat 0)) (0, 0, 0, ())).snd.fst) ((to'2.set (Int.toNat (l'.getD (Int.toNat (script.getD t24.toNat 0)) (0, 0, 0, ())).snd.fst) (l'.getD (Int.toNat (script.getD t24.toNat 0)) (0, 0, 0, ())).snd.snd.fst).getD (Int.toNat (l'.getD (Int.toNat (script.getD t24.toNat 0)) (0, 0, 0, ())).snd.snd.fst) 0)).getD (Int.toNat (l'.getD (Int.toNat (script.getD t24.toNat 0)) (0, 0, 0, ())).snd.snd.fst) 0)) 0)).getD (Int.toNat (l'.getD (Int.toNat (script.getD t24.toNat 0)) (0, 0, 0, ())).snd.fst) 0 ≥ 0) then
                                    bif inb (l'.getD (Int.toNat (script.getD t24.toNat 0)) (0, 0, 0, ())).snd.fst (((to'2.set (Int.toNat (l'.getD (Int.toNat (script.getD t24.toNat 0)) (0, 0, 0, ())).snd.fst) (l'.getD (Int.toNat (script.getD t24.toNat 0)) (0, 0, 0, ())).snd.snd.fst).set (Int.toNat (l'.getD (Int.toNat (script.getD t24.toNat 0)) (0, 0, 0, ())).snd.fst) ((to'2.set (Int.toNat (l'.getD (Int.toNat (script.getD t24.toNat 0)) (0, 0, 0, ())).snd.fst) (l'.getD (Int.toNat (script.getD t24.toNat 0)) (0, 0, 0, ())).snd.snd.fst).getD (Int.toNat (l'.getD (Int.toNat (script.getD t24.toNat 0)) (0, 0, 0, ())).snd.snd.fst) 0)).set (Int.toNat (l'.getD (Int.toNat (script.getD t24.toNat 0)) (0, 0, 0, ())).snd.fst) (((to'2.set (Int.toNat (l'.getD (Int.toNat (script.getD t24.toNat 0)) (0, 0, 0, ())).snd.fst) (l'.getD (Int.toNat (script.getD t24.toNat 0)) (0, 0, 0, ())).snd.snd.fst).set (Int.toNat (l'.getD (Int.toNat (script.getD t24.toNat 0)) (0, 0, 0, ())).snd.fst) ((to'2.set (Int.toNat (l'.getD (Int.toNat (script.getD t24.toNat 0)) (0, 0, 0, ())).snd.fst) (l'.getD (Int.toNat (script.getD t24.toNat 0)) (0, 0, 0, ())).snd.snd.fst).getD (Int.toNat (l'.getD (Int.toNat (script.getD t24.toNat 0)) (0, 0, 0, ())).snd.snd.fst) 0)).getD (Int.toNat (((to'2.set (Int.toNat (l'.getD (Int.toNat (script.getD t24.toNat 0)) (0, 0, 0, ())).snd.fst) (l'.getD (Int.toNat (script.getD t24.toNat 0)) (0, 0, 0, ())).snd.snd.fst).set (Int.toNat (l'.getD (Int.toNat (script.getD t24.toNat 0)) (0, 0, 0, ())).snd.fst) ((to'2.set (Int.toNat (l'.getD (Int.toNat (script.getD t24.toNat 0)) (0, 0, 0, ())).snd.fst) (l'.getD (Int.toNat (script.getD t24.toNat 0)) (0, 0, 0, ())).snd.snd.fst).getD (Int.toNat (l'.getD (Int.toNat (script.getD t24.toNat 0)) (0, 0, 0, ())).snd.snd.fst) 0)).getD (Int.toNat (l'.getD (Int.toNat (script.getD t24.toNat 0)) (0, 0, 0, ())).snd.snd.fst) 0)) 0)).length then
                                      bif inb (l'.getD (Int.toNat (script.getD t24.toNat 0)) (0, 0, 0, ())).snd.snd.fst (((to'2.set (Int.toNat (l'.getD (Int.toNat (script.getD t24.toNat 0)) (0, 0, 0, ())).snd.fst) (l'.getD (Int.toNat (script.getD t24.toNat 0)) (0, 0, 0, ())).snd.snd.fst).set (Int.toNat (l'.getD (Int.toNat (script.getD t24.toNat 0)) (0, 0, 0, ())).snd.fst) ((to'2.set (Int.toNat (l'.getD (Int.toNat (script.getD t24.toNat 0)) (0, 0, 0, ())).snd.fst) (l'.getD (Int.toNat (script.getD t24.toNat 0)) (0, 0, 0, ())).snd.snd.fst).getD (Int.toNat (l'.getD (Int.toNat (script.getD t24.toNat 0)) (0, 0, 0, ())).snd.snd.fst) 0)).set (Int.toNat (l'.getD (Int.toNat (script.getD t24.toNat 0)) (0, 0, 0, ())).snd.fst) (((to'2.set (Int.toNat (l'.getD (Int.toNat (script.getD t24.toNat 0)) (0, 0, 0, ())).snd.fst) (l'.getD (Int.toNat (script.getD t24.toNat 0)) (0, 0, 0, ())).snd.snd.fst).set (Int.toNat (l'.getD (Int.toNat (script.getD t24.toNat 0)) (0, 0, 0, ())).snd.fst) ((to'2.set (Int.toNat (l'.getD (Int.toNat (script.getD t24.toNat 0)) (0, 0, 0, ())).snd.fst) (l'.getD (Int.toNat (script.getD t24.toNat 0)) (0, 0, 0, ())).snd.snd.fst).getD (Int.toNat (l'.getD (Int.toNat (script.getD t24.toNat 0)) (0, 0, 0, ())).snd.snd.fst) 0)).getD (Int.toNat (((to'2.set (Int.toNat (l'.getD (Int.toNat (script.getD t24.toNat 0)) (0, 0, 0, ())).snd.fst) (l'.getD (Int.toNat (script.getD t24.toNat 0)) (0, 0, 0, ())).snd.snd.fst).set (Int.toNat (l'.getD (Int.toNat (script.getD t24.toNat 0)) (0, 0, 0, ())).snd.fst) ((to'2.set (Int.toNat (l'.getD (Int.toNat (script.getD t24.toNat 0)) (0, 0, 0, ())).snd.fst) (l'.getD (Int.toNat (script.getD t24.toNat 0)) (0, 0, 0, ())).snd.snd.fst).getD (Int.toNat (l'.getD (Int.toNat (script.getD t24.toNat 0)) (0, 0, 0, ())).snd.snd.fst) 0)).getD (Int.toNat (l'.getD (Int.toNat (script.getD t24.toNat 0)) (0, 0, 0, ())).snd.snd.fst) 0)) 0)).length then
                                        bif inb ((((to'2.set (Int.toNat (l'.getD (Int.toNat (script.getD t24.toNat 0)) (0, 0, 0, ())).snd.fst) (l'.getD (Int.toNat (script.getD t24.toNat 0)) (0, 0, 0, ())).snd.snd.fst).set (Int.toNat (l'.getD (Int.toNat (script.getD t24.toNat 0)) (0, 0, 0, ())).snd.fst) ((to'2.set (Int.toNat (l'.getD (Int.toNat (script.getD t24.toNat 0)) (0, 0, 0, ())).snd.fst) (l'.getD (Int.toNat (script.getD t24.toNat 0)) (0, 0, 0, ())).snd.snd.fst).getD (Int.toNat (l'.getD (Int.toNat (script.getD t24.toNat 0)) (0, 0, 0, ())).snd.snd.fst) 0)).set (Int.toNat (l'.getD (Int.toNat (script.getD t24.toNat 0)) (0, 0, 0, ())).snd.fst) (((to'2.set (Int.toNat (l'.getD (Int.toNat (script.getD t24.toNat 0)) (0, 0, 0, ())).snd.fst) (l'.getD (Int.toNat (script.getD t24.toNat 0)) (0, 0, 0, ())).snd.snd.fst).set (Int.toNat (l'.getD (Int.toNat (script.getD t24.toNat 0)) (0, 0, 0, ())).snd.fst) ((to'2.set (Int.toNat (l'.getD (Int.toNat (script.getD t24.toNat 0)) (0, 0, 0, ())).snd.fst) (l'.getD (Int.toNat (script.getD t24.toNat 0)) (0, 0, 0, ())).snd.snd.fst).getD (Int.toNat (l'.getD (Int.toNat (script.getD t24.toNat 0)) (0, 0, 0, ())).snd.snd.fst) 0)).getD (Int.toNat (((to'2.set (Int.toNat (l'.getD (Int.toNat (script.getD t24.toNat 0)) (0, 0, 0, ())).snd.fst) (l'.getD (Int.toNat (script.getD t24.toNat 0)) (0, 0, 0, ())).snd.snd.fst).set (Int.toNat (l'.getD (Int.toNat (script.getD t24.toNat 0)) (0, 0, 0, ())).snd.fst) ((to'2.set (Int.toNat (l'.getD (Int.toNat (script.getD t24.toNat 0)) (0, 0, 0, ())).snd.fst) (l'.getD (Int.toNat (script.getD t24.toNat 0)) (0, 0, 0, ())).snd.snd.fst).getD (Int.toNat (l'.getD (Int.toNat (script.getD t24.toNat 0)) (0, 0, 0, ())).snd.snd.fst) 0)).getD (Int.toNat (l'.getD (Int.toNat (script.getD t24.toNat 0)) (0, 0, 0, ())).snd.snd.fst) 0)) 0)).getD (Int.toNat (l'.getD (Int.toNat (script.getD t24.toNat 0)) (0, 0, 0, ())).snd.fst) 0) (((to'2.set (Int.toNat (l'.getD (Int.toNat (script.getD t24.toNat 0)) (0, 0, 0, ())).snd.fst) (l'.getD (Int.toNat (script.getD t24.toNat 0)) (0, 0, 0, ())).snd.snd.fst).set (Int.toNat (l'.getD (Int.toNat (script.getD t24.toNat 0)) (0, 0, 0, ())).snd.fst) ((to'2.set (Int.toNat (l'.getD (Int.toNat (script.getD t24.toNat 0)) (0, 0, 0, ())).snd.fst) (l'.getD (Int.toNat (script.getD t24.toNat 0)) (0, 0, 0, ())).snd.snd.fst).getD (Int.toNat (l'.getD (Int.toNat (script.getD t24.toNat 0)) (0, 0, 0, ())).snd.snd.fst) 0)).set (Int.toNat (l'.getD (Int.toNat (script.getD t24.toNat 0)) (0, 0, 0, ())).snd.fst) (((to'2.set (Int.toNat (l'.getD (Int.toNat (script.getD t24.toNat 0)) (0, 0, 0, ())).snd.fst) (l'.getD (Int.toNat (script.getD t24.toNat 0)) (0, 0, 0, ())).snd.snd.fst).set (Int.toNat (l'.getD (Int.toNat (script.getD t24.toNat 0)) (0, 0, 0, ())).snd.fst) ((to'2.set (Int.toNat (l'.getD (Int.toNat (script.getD t24.toNat 0)) (0, 0, 0, ())).snd.fst) (l'.getD (Int.toNat (script.getD t24.toNat 0)) (0, 0, 0, ())).snd.snd.fst).getD (Int.toNat (l'.getD (Int.toNat (script.getD t24.toNat 0)) (0, 0, 0, ())).snd.snd.fst) 0)).getD (Int.toNat (((to'2.set (Int.toNat (l'.getD (Int.toNat (script.getD t24.toNat 0)) (0, 0, 0, ())).snd.fst) (l'.getD (Int.toNat (script.getD t24.toNat 0)) (0, 0, 0, ())).snd.snd.fst).set (Int.toNat (l'.getD (Int.toNat (script.getD t24.toNat 0)) (0, 0, 0, ())).snd.fst) ((to'2.set (Int.toNat (l'.getD (Int.toNat (script.getD t24.toNat 0)) (0, 0, 0, ())).snd.fst) (l'.getD (Int.toNat (script.getD t24.toNat 0)) (0, 0, 0, ())).snd.snd.fst).getD (Int.toNat (l'.getD (Int.toNat (script.getD t24.toNat 0)) (0, 0, 0, ())).snd.snd.fst) 0)).getD (Int.toNat (l'.getD (Int.toNat (script.getD t24.toNat 0)) (0, 0, 0, ())).snd.snd.fst) 0)) 0)).length then
                                          g2 ((((to'2.set (Int.toNat (l'.getD (Int.toNat (script.getD t24.toNat 0)) (0, 0, 0, ())).snd.fst) (l'.getD (Int.toNat (script.getD t24.toNat 0)) (0, 0, 0, ())).snd.snd.fst).set (Int.toNat (l'.getD (Int.toNat (script.getD t24.toNat 0)) (0, 0, 0, ())).snd.fst) ((to'2.set (Int.toNat (l'.getD (Int.toNat (script.getD t24.toNat 0)) (0, 0, 0, ())).snd.fst) (l'.getD (Int.toNat (script.getD t24.toNat 0)) (0, 0, 0, ())).snd.snd.fst).getD (Int.toNat (l'.getD (Int.toNat (script.getD t24.toNat 0)) (0, 0, 0, ())).snd.snd.fst) 0)).set (Int.toNat (l'.getD (Int.toNat (script.getD t24.toNat 0)) (0, 0, 0, ())).snd.fst) (((to'2.set (Int.toNat (l'.getD (Int.toNat (script.getD t24.toNat 0)) (0, 0, 0, ())).snd.fst) (l'.getD (Int.toNat (script.getD t24.toNat 0)) (0, 0, 0, ())).snd.snd.fst).set (Int.toNat (l'.getD (Int.toNat (script.getD t24.toNat 0)) (0, 0, 0, ())).snd.fst) ((to'2.set (Int.toNat (l'.getD (Int.toNat (script.getD t24.toNat 0)) (0, 0, 0, ())).snd.fst) (l'.getD (Int.toNat (script.getD t24.toNat 0)) (0, 0, 0, ())).snd.snd.fst).getD (Int.toNat (l'.getD (Int.toNat (script.getD t24.toNat 0)) (0, 0, 0, ())).snd.snd.fst) 0)).getD (Int.toNat (((to'2.set (Int.toNat (l'.getD (Int.toNat (script.getD t24.toNat 0)) (0, 0, 0, ())).snd.fst) (l'.getD (Int.toNat (script.getD t24.toNat 0)) (0, 0, 0, ())).snd.snd.fst).set (Int.toNat (l'.getD (Int.toNat (script.getD t24.toNat 0)) (0, 0, 0, ())).snd.fst) ((to'2.set (Int.toNat (l'.getD (Int.toNat (script.getD t24.toNat 0)) (0, 0, 0, ())).snd.fst) (l'.getD (Int.toNat (script.getD t24.toNat 0)) (0, 0, 0, ())).snd.snd.fst).getD (Int.toNat (l'.getD (Int.toNat (script.getD t24.toNat 0)) (0, 0, 0, ())).snd.snd.fst) 0)).getD (Int.toNat (l'.getD (Int.toNat (script.getD t24.toNat 0)) (0, 0, 0, ())).snd.snd.fst) 0)) 0)).set (Int.toNat ((((to'2.set (Int.toNat (l'.getD (Int.toNat (script.getD t24.toNat 0)) (0, 0, 0, ())).snd.fst) (l'.getD (Int.toNat (script.getD t24.toNat 0)) (0, 0, 0, ())).snd.snd.fst).set (Int.toNat (l'.getD (Int.toNat (script.getD t24.toNat 0)) (0, 0, 0, ())).snd.fst) ((to'2.set (Int.toNat (l'.getD (Int.toNat (script.getD t24.toNat 0)) (0, 0, 0, ())).snd.fst) (l'.getD (Int.toNat (script.getD t24.toNat 0)) (0, 0, 0, ())).snd.snd.fst).getD (Int.toNat (l'.getD (Int.toNat (script.getD t24.toNat 0)) (0, 0, 0, ())).snd.snd.fst) 0)).set (Int.toNat (l'.getD (Int.toNat (script.getD t24.toNat 0)) (0, 0, 0, ())).snd.fst) (((to'2.set (Int.toNat (l'.getD (Int.toNat (script.getD t24.toNat 0)) (0, 0, 0, ())).snd.fst) (l'.getD (Int.toNat (script.getD t24.toNat 0)) (0, 0, 0, ())).snd.snd.fst).set (Int.toNat (l'.getD (Int.toNat (script.getD t24.toNat 0)) (0, 0, 0, ())).snd.fst) ((to'2.set (Int.toNat (l'.getD (Int.toNat (script.getD t24.toNat 0)) (0, 0, 0, ())).snd.fst) (l'.getD (Int.toNat (script.getD t24.toNat 0)) (0, 0, 0, ())).snd.snd.fst).getD (Int.toNat (l'.getD (Int.toNat (script.getD t24.toNat 0)) (0, 0, 0, ())).snd.snd.fst) 0)).getD (Int.toNat (((to'2.set (Int.toNat (l'.getD (Int.toNat (script.getD t24.toNat 0)) (0, 0, 0, ())).snd.fst) (l'.getD (Int.toNat (script.getD t24.toNat 0)) (0, 0, 0, ())).snd.snd.fst).set (Int.toNat (l'.getD (Int.toNat (script.getD t24.toNat 0)) (0, 0, 0, ())).snd.fst) ((to'2.set (Int.toNat (l'.getD (Int.toNat (script.getD t24.toNat 0)) (0, 0, 0, ())).snd.fst) (l'.getD (Int.toNat (script.getD t24.toNat 0)) (0, 0, 0, ())).snd.snd.fst).getD (Int.toNat (l'.getD (Int.toNat (script.getD t24.toNat 0)) (0, 0, 0, ())).snd.snd.fst) 0)).getD (Int.toNat (l'.getD (Int.toNat (script.getD t24.toNat 0)) (0, 0, 0, ())).snd.snd.fst) 0)) 0)).getD (Int.toNat (l'.getD (Int.toNat (script.getD t24.toNat 0)) (0, 0, 0, ())).snd.fst) 0)) ((((to'2.set (Int.toNat (l'.getD (Int.toNat (script.getD t24.toNat 0)) (0, 0, 0, ())).snd.fst) (l'.getD (Int.toNat (script.getD t24.toNat 0)) (0, 0, 0, ())).snd.snd.fst).set (Int.toNat (l'.getD (Int.toNat (script.getD t24.toNat 0)) (0, 0, 0, ())).snd.fst) ((to'2.set (Int.toNat (l'.getD (Int.toNat (script.getD t24.toNat 0)) (0, 0, 0, ())).snd.fst) (l'.getD (Int.toNat (script.getD t24.toNat 0)) (0, 0, 0, ())).snd.snd.fst).getD (Int.toNat (l'.getD (Int.toNat (script.getD t24.toNat 0)) (0, 0, 0, ())).snd.snd.fst) 0)).set (Int.toNat (l'.getD (Int.toNat (script.getD t24.toNat 0)) (0, 0, 0, ())).snd.fst) (((to'2.set (Int.toNat (l'.getD (Int.toNat (script.getD t24.toNat 0)) (0, 0, 0, ())).snd.fst) (l'.getD (Int.toNat (script.getD t24.toNat 0)) (0, 0, 0, ())).snd.snd.fst).set (Int.toNat (l'.getD (Int.toNat (script.getD t24.toNat 0)) (0, 0, 0, ())).snd.fst) ((to'2.set (Int.toNat (l'.getD (Int.toNat (script.getD t24.toNat 0)) (0, 0, 0, ())).snd.fst) (l'.getD (Int.toNat (script.getD t24.toNat 0)) (0, 0, 0, ())).snd.snd.fst).getD (Int.toNat (l'.getD (Int.toNat (script.getD t24.toNat 0)) (0, 0, 0, ())).snd.snd.fst) 0)).getD (Int.toNat (((to'2.set (Int.toNat (l'.getD (Int.toNat (script.getD t24.toNat 0)) (0, 0, 0, ())).snd.fst) (l'.getD (Int.toNat (script.getD t24.toNat 0)) (0, 0, 0, ())).snd.snd.fst).set (Int.toNat (l'.getD (Int.toNat (script.getD t24.toNat 0)) (0, 0, 0, ())).snd.fst) ((to'2.set (Int.toNat (l'.getD (Int.toNat (script.getD t24.toNat 0)) (0, 0, 0, ())).snd.fst) (l'.getD (Int.toNat (script.getD t24.toNat 0)) (0, 0, 0, ())).snd.snd.fst).getD (Int.toNat (l'.getD (Int.toNat (script.getD t24.toNat 0)) (0, 0, 0, ())).snd.snd.fst) 0)).getD (Int.toNat (l'.getD (Int.toNat (script.getD t24.toNat 0)) (0, 0, 0, ())).snd.snd.fst) 0)) 0)).getD (Int.toNat (l'.getD (Int.toNat (script.getD t24.toNat 0)) (0, 0, 0, ())).snd.snd.fst) 0)) (IntKind.i64.wrap (t24 + 1))
                                        else
                                          none
                                      else
                                        none
                                    else
                                      none
                                  else
                                    g2 (((to'2.set (Int.toNat (l'.getD (Int.toNat (script.getD t24.toNat 0)) (0, 0, 0, ())).snd.fst) (l'.getD (Int.toNat (script.getD t24.toNat 0)) (0, 0, 0, ())).snd.snd.fst).set (Int.toNat (l'.getD (Int.toNat (script.getD t24.toNat 0)) (0, 0, 0, ())).snd.fst) ((to'2.set (Int.toNat (l'.getD (Int.toNat (script.getD t24.toNat 0)) (0, 0, 0, ())).snd.fst) (l'.getD (Int.toNat (script.getD t24.toNat 0)) (0, 0, 0, ())).snd.snd.fst).getD (Int.toNat (l'.getD (Int.toNat (script.getD t24.toNat 0)) (0, 0, 0, ())).snd.snd.fst) 0)).set (Int.toNat (l'.getD (Int.toNat (script.getD t24.toNat 0)) (0, 0, 0, ())).snd.fst) (((to'2.set (Int.toNat (l'.getD (Int.toNat (script.getD t24.toNat 0)) (0, 0, 0, ())).snd.fst) (l'.getD (Int.toNat (script.getD t24.toNat 0)) (0, 0, 0, ())).snd.snd.fst).set (Int.toNat (l'.getD (Int.toNat (script.getD t24.toNat 0)) (0, 0, 0, ())).snd.fst) ((to'2.set (Int.toNat (l'.getD (Int.toNat (script.getD t24.toNat 0)) (0, 0, 0, ())).snd.fst) (l'.getD (Int.toNat (script.getD t24.toNat 0)) (0, 0, 0, ())).snd.snd.fst).getD (Int.toNat (l'.getD (Int.toNat (script.getD t24.toNat 0)) (0, 0, 0, ())).snd.snd.fst) 0)).getD (Int.toNat (((to'2.set (Int.toNat (l'.getD (Int.toNat (script.getD t24.toNat 0)) (0, 0, 0, ())).snd.fst) (l'.getD (Int.toNat (script.getD t24.toNat 0)) (0, 0, 0, ())).snd.snd.fst).set (Int.toNat (l'.getD (Int.toNat (script.getD t24.toNat 0)) (0, 0, 0, ())).snd.fst) ((to'2.set (Int.toNat (l'.getD (Int.toNat (script.getD t24.toNat 0)) (0, 0, 0, ())).snd.fst) (l'.getD (Int.toNat (script.getD t24.toNat 0)) (0, 0, 0, ())).snd.snd.fst).getD (Int.toNat (l'.getD (Int.toNat (script.getD t24.toNat 0)) (0, 0, 0, ())).snd.snd.fst) 0)).getD (Int.toNat (l'.getD (Int.toNat (script.getD t24.toNat 0)) (0, 0, 0, ())).snd.snd.fst) 0)) 0)) (IntKind.i64.wrap (t24 + 1))
                                else
                                  none
                              else
                                g2 (((to'2.set (Int.toNat (l'.getD (Int.toNat (script.getD t24.toNat 0)) (0, 0, 0, ())).snd.fst) (l'.getD (Int.toNat (script.getD t24.toNat 0)) (0, 0, 0, ())).snd.snd.fst).set (Int.toNat (l'.getD (Int.toNat (script.getD t24.toNat 0)) (0, 0, 0, ())).snd.fst) ((to'2.set (Int.toNat (l'.getD (Int.toNat (script.getD t24.toNat 0)) (0, 0, 0, ())).snd.fst) (l'.getD (Int.toNat (script.getD t24.toNat 0)) (0, 0, 0, ())).snd.snd.fst).getD (Int.toNat (l'.getD (Int.toNat (script.getD t24.toNat 0)) (0, 0, 0, ())).snd.snd.fst) 0)).set (Int.toNat (l'.getD (Int.toNat (script.getD t24.toNat 0)) (0, 0, 0, ())).snd.fst) (((to'2.set (Int.toNat (l'.getD (Int.toNat (script.getD t24.toNat 0)) (0, 0, 0, ())).snd.fst) (l'.getD (Int.toNat (script.getD t24.toNat 0)) (0, 0, 0, ())).snd.snd.fst).set (Int.toNat (l'.getD (Int.toNat (script.getD t24.toNat 0)) (0, 0, 0, ())).snd.fst) ((to'2.set (Int.toNat (l'.getD (Int.toNat (script.getD t24.toNat 0)) (0, 0, 0, ())).snd.fst) (l'.getD (Int.toNat (script.getD t24.toNat 0)) (0, 0, 0, ())).snd.snd.fst).getD (Int.toNat (l'.getD (Int.toNat (script.getD t24.toNat 0)) (0, 0, 0, ())).snd.snd.fst) 0)).getD (Int.toNat (((to'2.set (Int.toNat (l'.getD (Int.toNat (script.getD t24.toNat 0)) (0, 0, 0, ())).snd.fst) (l'.getD (Int.toNat (script.getD t24.toNat 0)) (0, 0, 0, ())).snd.snd.fst).set (Int.toNat (l'.getD (Int.toNat (script.getD t24.toNat 0)) (0, 0, 0, ())).snd.fst) ((to'2.set (Int.toNat (l'.getD (Int.toNat (script.getD t24.toNat 0)) (0, 0, 0, ())).snd.fst) (l'.getD (Int.toNat (script.getD t24.toNat 0)) (0, 0, 0, ())).snd.snd.fst).getD (Int.toNat (l'.getD (Int.toNat (script.getD t24.toNat 0)) (0, 0, 0, ())).snd.snd.fst) 0)).getD (Int.toNat (l'.getD (Int.toNat (script.getD t24.toNat 0)) (0, 0, 0, ())).snd.snd.fst) 0)) 0)) (IntKind.i64.wrap (t24 + 1))
                            else
                              none
                          else
                            none
                        else
                          none
                      else
                        bif (l'.getD (Int.toNat (script.getD t24.toNat 0)) (0, 0, 0, ())).fst == 4 then
                          bif inb (l'.getD (Int.toNat (script.getD t24.toNat 0)) (0, 0, 0, ())).snd.fst ((to'2.set (Int.toNat (l'.getD (Int.toNat (script.getD t24.toNat 0)) (0, 0, 0, ())).snd.fst) (l'.getD (Int.toNat (script.getD t24.toNat 0)) (0, 0, 0, ())).snd.snd.fst).set (Int.toNat (l'.getD (Int.toNat (script.getD t24.toNat 0)) (0, 0, 0, ())).snd.fst) ((to'2.set (Int.toNat (l'.getD (Int.toNat (script.getD t24.toNat 0)) (0, 0, 0, ())).snd.fst) (l'.getD (Int.toNat (script.getD t24.toNat 0)) (0, 0, 0, ())).snd.snd.fst).getD (Int.toNat (l'.getD (Int.toNat (script.getD t24.toNat 0)) (0, 0, 0, ())).snd.snd.fst) 0)).length then
                            bif decide (((to'2.set (Int.toNat (l'.getD (Int.toNat (script.getD t24.toNat 0)) (0, 0, 0, ())).snd.fst) (l'.getD (Int.toNat (script.getD t24.toNat 0)) (0, 0, 0, ())).snd.snd.fst).set (Int.toNat (l'.getD (Int.toNat (script.getD t24.toNat 0)) (0, 0, 0, ())).snd.fst) ((to'2.set (Int.toNat (l'.getD (Int.toNat (script.getD t24.toNat 0)) (0, 0, 0, ())).snd.fst) (l'.getD (Int.toNat (script.getD t24.toNat 0)) (0, 0, 0, ())).snd.snd.fst).getD (Int.toNat (l'.getD (Int.toNat (script.getD t24.toNat 0)) (0, 0, 0, ())).snd.snd.fst) 0)).getD (Int.toNat (l'.getD (Int.toNat (script.getD t24.toNat 0)) (0, 0, 0, ())).snd.fst) 0 ≥ 0) then
                              bif inb (l'.getD (Int.toNat (script.getD t24.toNat 0)) (0, 0, 0, ())).snd.fst ((to'2.set (Int.toNat (l'.getD (Int.toNat (script.getD t24.toNat 0)) (0, 0, 0, ())).snd.fst) (l'.getD (Int.toNat (script.getD t24.toNat 0)) (0, 0, 0, ())).snd.snd.fst).set (Int.toNat (l'.getD (Int.toNat (script.getD t24.toNat 0)) (0, 0, 0, ())).snd.fst) ((to'2.set (Int.toNat (l'.getD (Int.toNat (script.getD t24.toNat 0)) (0, 0, 0, ())).snd.fst) (l'.getD (Int.toNat (script.getD t24.toNat 0)) (0, 0, 0, ())).snd.snd.fst).getD (Int.toNat (l'.getD (Int.toNat (script.getD t24.toNat 0)) (0, 0, 0, ())).snd.snd.fst) 0)).length then
                                bif inb (l'.getD (Int.toNat (script.getD t24.toNat 0)) (0, 0, 0, ())).snd.snd.fst ((to'2.set (Int.toNat (l'.getD (Int.toNat (script.getD t24.toNat 0)) (0, 0, 0, ())).snd.fst) (l'.getD (Int.toNat (script.getD t24.toNat 0)) (0, 0, 0, ())).snd.snd.fst).set (Int.toNat (l'.getD (Int.toNat (script.getD t24.toNat 0)) (0, 0, 0, ())).snd.fst) ((to'2.set (Int.toNat (l'.getD (Int.toNat (script.getD t24.toNat 0)) (0, 0, 0, ())).snd.fst) (l'.getD (Int.toNat (script.getD t24.toNat 0)) (0, 0, 0, ())).snd.snd.fst).getD (Int.toNat (l'.getD (Int.toNat (script.getD t24.toNat 0)) (0, 0, 0, ())).snd.snd.fst) 0)).length then
                                  bif inb (((to'2.set (Int.toNat (l'.getD (Int.toNat (script.getD t24.toNat 0)) (0, 0, 0, ())).snd.fst) (l'.getD (Int.toNat (script.getD t24.toNat 0)) (0, 0, 0, ())).snd.snd.fst).set (Int.toNat (l'.getD (Int.toNat (script.getD t24.toNat 0)) (0, 0, 0, ())).snd.fst) ((to'2.set (Int.toNat (l'.getD (Int.toNat (script.getD t24.toNat 0)) (0, 0, 0, ())).snd.fst) (l'.getD (Int.toNat (script.getD t24.toNat 0)) (0, 0, 0, ())).snd.snd.fst).getD (Int.toNat (l'.getD (Int.toNat (script.getD t24.toNat 0)) (0, 0, 0, ())).snd.snd.fst) 0)).getD (Int.toNat (l'.getD (Int.toNat (script.getD t24.toNat 0)) (0, 0, 0, ())).snd.fst) 0) ((to'2.set (Int.toNat (l'.getD (Int.toNat (script.getD t24.toNat 0)) (0, 0, 0, ())).snd.fst) (l'.getD (Int.toNat (script.getD t24.toNat 0)) (0, 0, 0, ())).snd.snd.fst).set (Int.toNat (l'.getD (Int.toNat (script.getD t24.toNat 0)) (0, 0, 0, ())).snd.fst) ((to'2.set (Int.toNat (l'.getD (Int.toNat (script.getD t24.toNat 0)) (0, 0, 0, ())).snd.fst) (l'.getD (Int.toNat (script.getD t24.toNat 0)) (0, 0, 0, ())).snd.snd.fst).getD (Int.toNat (l'.getD (Int.toNat (script.getD t24.toNat 0)) (0, 0, 0, ())).snd.snd.fst) 0)).length then
                                    g2 (((to'2.set (Int.toNat (l'.getD (Int.toNat (script.getD t24.toNat 0)) (0, 0, 0, ())).snd.fst) (l'.getD (Int.toNat (script.getD t24.toNat 0)) (0, 0, 0, ())).snd.snd.fst).set (Int.toNat (l'.getD (Int.toNat (script.getD t24.toNat 0)) (0, 0, 0, ())).snd.fst) ((to'2.set (Int.toNat (l'.getD (Int.toNat (script.getD t24.toNat 0)) (0, 0, 0, ())).snd.fst) (l'.getD (Int.toNat (script.getD t24.toNat 0)) (0, 0, 0, ())).snd.snd.fst).getD (Int.toNat (l'.getD (Int.toNat (script.getD t24.toNat 0)) (0, 0, 0, ())).snd.snd.fst) 0)).set (Int.toNat (((to'2.set (Int.toNat (l'.getD (Int.toNat (script.getD t24.toNat 0)) (0, 0, 0, ())).snd.fst) (l'.getD (Int.toNat (script.getD t24.toNat 0)) (0, 0, 0, ())).snd.snd.fst).set (Int.toNat (l'.getD (Int.toNat (script.getD t24.toNat 0)) (0, 0, 0, ())).snd.fst) ((to'2.set (Int.toNat (l'.getD (Int.toNat (script.getD t24.toNat 0)) (0, 0, 0, ())).snd.fst) (l'.getD (Int.toNat (script.getD t24.toNat 0)) (0, 0, 0, ())).snd.snd.fst).getD (Int.toNat (l'.getD (Int.toNat (script.getD t24.toNat 0)) (0, 0, 0, ())).snd.snd.fst) 0)).getD (Int.toNat (l'.getD (Int.toNat (script.getD t24.toNat 0)) (0, 0, 0, ())).snd.fst) 0)) (((to'2.set (Int.toNat (l'.getD (Int.toNat (script.getD t24.toNat 0)) (0, 0, 0, ())).snd.fst) (l'.getD (Int.toNat (script.getD t24.toNat 0)) (0, 0, 0, ())).snd.snd.fst).set (Int.toNat (l'.getD (Int.toNat (script.getD t24.toNat 0)) (0, 0, 0, ())).snd.fst) ((to'2.set (Int.toNat (l'.getD (Int.toNat (script.getD t24.toNat 0)) (0, 0, 0, ())).snd.fst) (l'.getD (Int.toNat (script.getD t24.toNat 0)) (0, 0, 0, ())).snd.snd.fst).getD (Int.toNat (l'.getD (Int.toNat (script.getD t24.toNat 0)) (0, 0, 0, ())).snd.snd.fst) 0)).getD (Int.toNat (l'.getD (Int.toNat (script.getD t24.toNat 0)) (0, 0, 0, ())).snd.snd.fst) 0)) (IntKind.i64.wrap (t24 + 1))
                                  else
                                    none
                                else
                                  none
                              else
                                none
                            else
                              g2 ((to'2.set (Int.toNat (l'.getD (Int.toNat (script.getD t24.toNat 0)) (0, 0, 0, ())).snd.fst) (l'.getD (Int.toNat (script.getD t24.toNat 0)) (0, 0, 0, ())).snd.snd.fst).set (Int.toNat (l'.getD (Int.toNat (script.getD t24.toNat 0)) (0, 0, 0, ())).snd.fst) ((to'2.set (Int.toNat (l'.getD (Int.toNat (script.getD t24.toNat 0)) (0, 0, 0, ())).snd.fst) (l'.getD (Int.toNat (script.getD t24.toNat 0)) (0, 0, 0, ())).snd.snd.fst).getD (Int.toNat (l'.getD (Int.toNat (script.getD t24.toNat 0)) (0, 0, 0, ())).snd.snd.fst) 0)) (IntKind.i64.wrap (t24 + 1))
                          else
                            none
                        else
                          g2 ((to'2.set (Int.toNat (l'.getD (Int.toNat (script.getD t24.toNat 0)) (0, 0, 0, ())).snd.fst) (l'.getD (Int.toNat (script.getD t24.toNat 0)) (0, 0, 0, ())).snd.snd.fst).set (Int.toNat (l'.getD (Int.toNat (script.getD t24.toNat 0)) (0, 0, 0, ())).snd.fst) ((to'2.set (Int.toNat (l'.getD (Int.toNat (script.getD t24.toNat 0)) (0, 0, 0, ())).snd.fst) (l'.getD (Int.toNat (script.getD t24.toNat 0)) (0, 0, 0, ())).snd.snd.fst).getD (Int.toNat (l'.getD (Int.toNat (script.getD t24.toNat 0)) (0, 0, 0, ())).snd.snd.fst) 0)) (IntKind.i64.wrap (t24 + 1))
                    else
                      none
                  else
                    bif (l'.getD (Int.toNat (script.getD t24.toNat 0)) (0, 0, 0, ())).fst == 4 then
                      bif inb (l'.getD (Int.toNat (script.getD t24.toNat 0)) (0, 0, 0, ())).snd.fst ((to'2.set (Int.toNat (l'.getD (Int.toNat (script.getD t24.toNat 0)) (0, 0, 0, ())).snd.fst) (l'.getD (Int.toNat (script.getD t24.toNat 0)) (0, 0, 0, ())).snd.snd.fst).set (Int.toNat (l'.getD (Int.toNat (script.getD t24.toNat 0)) (0, 0, 0, ())).snd.fst) ((to'2.set (Int.toNat (l'.getD (Int.toNat (script.getD t24.toNat 0)) (0, 0, 0, ())).snd.fst) (l'.getD (Int.toNat (script.getD t24.toNat 0)) (0, 0, 0, ())).snd.snd.fst).getD (Int.toNat (l'.getD (Int.toNat (script.getD t24.toNat 0)) (0, 0, 0, ())).snd.snd.fst) 0)).length then
                        bif decide (((to'2.set (Int.toNat (l'.getD (Int.toNat (script.getD t24.toNat 0)) (0, 0, 0, ())).snd.fst) (l'.getD (Int.toNat (script.getD t24.toNat 0)) (0, 0, 0, ())).snd.snd.fst).set (Int.toNat (l'.getD (Int.toNat (script.getD t24.toNat 0)) (0, 0, 0, ())).snd.fst) ((to'2.set (Int.toNat (l'.getD (Int.toNat (script.getD t24.toNat 0)) (0, 0, 0, ())).snd.fst) (l'.getD (Int.toNat (script.getD t24.toNat 0)) (0, 0, 0, ())).snd.snd.fst).getD (Int.toNat (l'.getD (Int.toNat (script.getD t24.toNat 0)) (0, 0, 0, ())).snd.snd.fst) 0)).getD (Int.toNat (l'.getD (Int.toNat (script.getD t24.toNat 0)) (0, 0, 0, ())).snd.fst) 0 ≥ 0) then
                          bif inb (l'.getD (Int.toNat (script.getD t24.toNat 0)) (0, 0, 0, ())).snd.fst ((to'2.set (Int.toNat (l'.getD (Int.toNat (script.getD t24.toNat 0)) (0, 0, 0, ())).snd.fst) (l'.getD (Int.toNat (script.getD t24.toNat 0)) (0, 0, 0, ())).snd.snd.fst).set (Int.toNat (l'.getD (Int.toNat (script.getD t24.toNat 0)) (0, 0, 0, ())).snd.fst) ((to'2.set (Int.toNat (l'.getD (Int.toNat (script.getD t24.toNat 0)) (0, 0, 0, ())).snd.fst) (l'.getD (Int.toNat (script.getD t24.toNat 0)) (0, 0, 0, ())).snd.snd.fst).getD (Int.toNat (l'.getD (Int.toNat (script.getD t24.toNat 0)) (0, 0, 0, ())).snd.snd.fst) 0)).length then
                            bif inb (l'.getD (Int.toNat (script.getD t24.toNat 0)) (0, 0, 0, ())).snd.snd.fst ((to'2.set (Int.toNat (l'.getD (Int.toNat (script.getD t24.toNat 0)) (0, 0, 0, ())).snd.fst) (l'.getD (Int.toNat (script.getD t24.toNat 0)) (0, 0, 0, ())).snd.snd.fst).set (Int.toNat (l'.getD (Int.toNat (script.getD t24.toNat 0)) (0, 0, 0, ())).snd.fst) ((to'2.set (Int.toNat (l'.getD (Int.toNat (script.getD t24.toNat 0)) (0, 0, 0, ())).snd.fst) (l'.getD (Int.toNat (script.getD t24.toNat 0)) (0, 0, 0, ())).snd.snd.fst).getD (Int.toNat (l'.getD (Int.toNat (script.getD t24.toNat 0)) (0, 0, 0, ())).snd.snd.fst) 0)).length then
                              bif inb (((to'2.set (Int.toNat (l'.getD (Int.toNat (script.getD t24.toNat 0)) (0, 0, 0, ())).snd.fst) (l'.getD (Int.toNat (script.getD t24.toNat 0)) (0, 0, 0, ())).snd.snd.fst).set (Int.toNat (l'.getD (Int.toNat (script.getD t24.toNat 0)) (0, 0, 0, ())).snd.fst) ((to'2.set (Int.toNat (l'.getD (Int.toNat (script.getD t24.toNat 0)) (0, 0, 0, ())).snd.fst) (l'.getD (Int.toNat (script.getD t24.toNat 0)) (0, 0, 0, ())).snd.snd.fst).getD (Int.toNat (l'.getD (Int.toNat (script.getD t24.toNat 0)) (0, 0, 0, ())).snd.snd.fst) 0)).getD (Int.toNat (l'.getD (Int.toNat (script.getD t24.toNat 0)) (0, 0, 0, ())).snd.fst) 0) ((to'2.set (Int.toNat (l'.getD (Int.toNat (script.getD t24.toNat 0)) (0, 0, 0, ())).snd.fst) (l'.getD (Int.toNat (script.getD t24.toNat 0)) (0, 0, 0, ())).snd.snd.fst).set (Int.toNat (l'.getD (Int.toNat (script.getD t24.toNat 0)) (0, 0, 0, ())).snd.fst) ((to'2.set (Int.toNat (l'.getD (Int.toNat (script.getD t24.toNat 0)) (0, 0, 0, ())).snd.fst) (l'.getD (Int.toNat (script.getD t24.toNat 0)) (0, 0, 0, ())).snd.snd.fst).getD (Int.toNat (l'.getD (Int.toNat (script.getD t24.toNat 0)) (0, 0, 0, ())).snd.snd.fst) 0)).length then
                                g2 (((to'2.set (Int.toNat (l'.getD (Int.toNat (script.getD t24.toNat 0)) (0, 0, 0, ())).snd.fst) (l'.getD (Int.toNat (script.getD t24.toNat 0)) (0, 0, 0, ())).snd.snd.fst).set (Int.toNat (l'.getD (Int.toNat (script.getD t24.toNat 0)) (0, 0, 0, ())).snd.fst) ((to'2.set (Int.toNat (l'.getD (Int.toNat (script.getD t24.toNat 0)) (0, 0, 0, ())).snd.fst) (l'.getD (Int.toNat (script.getD t24.toNat 0)) (0, 0, 0, ())).snd.snd.fst).getD (Int.toNat (l'.getD (Int.toNat (script.getD t24.toNat 0)) (0, 0, 0, ())).snd.snd.fst) 0)).set (Int.toNat (((to'2.set (Int.toNat (l'.getD (Int.toNat (script.getD t24.toNat 0)) (0, 0, 0, ())).snd.fst) (l'.getD (Int.toNat (script.getD t24.toNat 0)) (0, 0, 0, ())).snd.snd.fst).set (Int.toNat (l'.getD (Int.toNat (script.getD t24.toNat 0)) (0, 0, 0, ())).snd.fst) ((to'2.set (Int.toNat (l'.getD (Int.toNat (script.getD t24.toNat 0)) (0, 0, 0, ())).snd.fst) (l'.getD (Int.toNat (script.getD t24.toNat 0)) (0, 0, 0, ())).snd.snd.fst).getD (Int.toNat (l'.getD (Int.toNat (script.getD t24.toNat 0)) (0, 0, 0, ())).snd.snd.fst) 0)).getD (Int.toNat (l'.getD (Int.toNat (script.getD t24.toNat 0)) (0, 0, 0, ())).snd.fst) 0)) (((to'2.set (Int.toNat (l'.getD (Int.toNat (script.getD t24.toNat 0)) (0, 0, 0, ())).snd.fst) (l'.getD (Int.toNat (script.getD t24.toNat 0)) (0, 0, 0, ())).snd.snd.fst).set (Int.toNat (l'.getD (Int.toNat (script.getD t24.toNat 0)) (0, 0, 0, ())).snd.fst) ((to'2.set (Int.toNat (l'.getD (Int.toNat (script.getD t24.toNat 0)) (0, 0, 0, ())).snd.fst) (l'.getD (Int.toNat (script.getD t24.toNat 0)) (0, 0, 0, ())).snd.snd.fst).getD (Int.toNat (l'.getD (Int.toNat (script.getD t24.toNat 0)) (0, 0, 0, ())).snd.snd.fst) 0)).getD (Int.toNat (l'.getD (Int.toNat (script.getD t24.toNat 0)) (0, 0, 0, ())).snd.snd.fst) 0)) (IntKind.i64.wrap (t24 + 1))
                              else
                                none
                            else
                              none
                          else
                            none
                        else
                          g2 ((to'2.set (Int.toNat (l'.getD (Int.toNat (script.getD t24.toNat 0)) (0, 0, 0, ())).snd.fst) (l'.getD (Int.toNat (script.getD t24.toNat 0)) (0, 0, 0, ())).snd.snd.fst).set (Int.toNat (l'.getD (Int.toNat (script.getD t24.toNat 0)) (0, 0, 0, ())).snd.fst) ((to'2.set (Int.toNat (l'.getD (Int.toNat (script.getD t24.toNat 0)) (0, 0, 0, ())).snd.fst) (l'.getD (Int.toNat (script.getD t24.toNat 0)) (0, 0, 0, ())).snd.snd.fst).getD (Int.toNat (l'.getD (Int.toNat (script.getD t24.toNat 0)) (0, 0, 0, ())).snd.snd.fst) 0)) (IntKind.i64.wrap (t24 + 1))
                      else
                        none
                    else
                      g2 ((to'2.set (Int.toNat (l'.getD (Int.toNat (script.getD t24.toNat 0)) (0, 0, 0, ())).snd.fst) (l'.getD (Int.toNat (script.getD t24.toNat 0)) (0, 0, 0, ())).snd.snd.fst).set (Int.toNat (l'.getD (Int.toNat (script.getD t24.toNat 0)) (0, 0, 0, ())).snd.fst) ((to'2.set (Int.toNat (l'.getD (Int.toNat (script.getD t24.toNat 0)) (0, 0, 0, ())).snd.fst) (l'.getD (Int.toNat (script.getD t24.toNat 0)) (0, 0, 0, ())).snd.snd.fst).getD (Int.toNat (l'.getD (Int.toNat (script.getD t24.toNat 0)) (0, 0, 0, ())).snd.snd.fst) 0)) (IntKind.i64.wrap (t24 + 1))
                else
                  none
              else
                none
            else
              bif (l'.getD (Int.toNat (script.getD t24.toNat 0)) (0, 0, 0, ())).fst == 3 then
                bif inb (l'.getD (Int.toNat (script.getD t24.toNat 0)) (0, 0, 0, ())).snd.snd.fst (to'2.set (Int.toNat (l'.getD (Int.toNat (script.getD t24.toNat 0)) (0, 0, 0, ())).snd.fst) (l'.getD (Int.toNat (script.getD t24.toNat 0)) (0, 0, 0, ())).snd.snd.fst).length then
                  bif decide ((to'2.set (Int.toNat (l'.getD (Int.toNat (script.getD t24.toNat 0)) (0, 0, 0, ())).snd.fst) (l'.getD (Int.toNat (script.getD t24.toNat 0)) (0, 0, 0, ())).snd.snd.fst).getD (Int.toNat (l'.getD (Int.toNat (script.getD t24.toNat 0)) (0, 0, 0, ())).snd.snd.fst) 0 ≥ 0) then
                    bif inb (l'.getD (Int.toNat (script.getD t24.toNat 0)) (0, 0, 0, ())).snd.snd.fst (to'2.set (Int.toNat (l'.getD (Int.toNat (script.getD t24.toNat 0)) (0, 0, 0, ())).snd.fst) (l'.getD (Int.toNat (script.getD t24.toNat 0)) (0, 0, 0, ())).snd.snd.fst).length then
                      bif inb ((to'2.set (Int.toNat (l'.getD (Int.toNat (script.getD t24.toNat 0)) (0, 0, 0, ())).snd.fst) (l'.getD (Int.toNat (script.getD t24.toNat 0)) (0, 0, 0, ())).snd.snd.fst).getD (Int.toNat (l'.getD (Int.toNat (script.getD t24.toNat 0)) (0, 0, 0, ())).snd.snd.fst) 0) (to'2.set (Int.toNat (l'.getD (Int.toNat (script.getD t24.toNat 0)) (0, 0, 0, ())).snd.fst) (l'.getD (Int.toNat (script.getD t24.toNat 0)) (0, 0, 0, ())).snd.snd.fst).length then
                        bif inb (l'.getD (Int.toNat (script.getD t24.toNat 0)) (0, 0, 0, ())).snd.fst (to'2.set (Int.toNat (l'.getD (Int.toNat (script.getD t24.toNat 0)) (0, 0, 0, ())).snd.fst) (l'.getD (Int.toNat (script.getD t24.toNat 0)) (0, 0, 0, ())).snd.snd.fst).length then
                          bif (l'.getD (Int.toNat (script.getD t24.toNat 0)) (0, 0, 0, ())).fst == 4 then
                            bif inb (l'.getD (Int.toNat (script.getD t24.toNat 0)) (0, 0, 0, ())).snd.fst ((to'2.set (Int.toNat (l'.getD (Int.toNat (script.getD t24.toNat 0)) (0, 0, 0, ())).snd.fst) (l'.getD (Int.toNat (script.getD t24.toNat 0)) (0, 0, 0, ())).snd.snd.fst).set (Int.toNat (l'.getD (Int.toNat (script.getD t24.toNat 0)) (0, 0, 0, ())).snd.fst) ((to'2.set (Int.toNat (l'.getD (Int.toNat (script.getD t24.toNat 0)) (0, 0, 0, ())).snd.fst) (l'.getD (Int.toNat (script.getD t24.toNat 0)) (0, 0, 0, ())).snd.snd.fst).getD (Int.toNat ((to'2.set (Int.toNat (l'.getD (Int.toNat (script.getD t24.toNat 0)) (0, 0, 0, ())).snd.fst) (l'.getD (Int.toNat (script.getD t24.toNat 0)) (0, 0, 0, ())).snd.snd.fst).getD (Int.toNat (l'.getD (Int.toNat (script.getD t24.toNat 0)) (0, 0, 0, ())).snd.snd.fst) 0)) 0)).length then
                              bif decide (((to'2.set (Int.toNat (l'.getD (Int.toNat (script.getD t24.toNat 0)) (0, 0, 0, ())).snd.fst) (l'.getD (Int.toNat (script.getD t24.toNat 0)) (0, 0, 0, ())).snd.snd.fst).set (Int.toNat (l'.getD (Int.toNat (script.getD t24.toNat 0)) (0, 0, 0, ())).snd.fst) ((to'2.set (Int.toNat (l'.getD (Int.toNat (script.getD t24.toNat 0)) (0, 0, 0, ())).snd.fst) (l'.getD (Int.toNat (script.getD t24.toNat 0)) (0, 0, 0, ())).snd.snd.fst).getD (Int.toNat ((to'2.set (Int.toNat (l'.getD (Int.toNat (script.getD t24.toNat 0)) (0, 0, 0, ())).snd.fst) (l'.getD (Int.toNat (script.getD t24.toNat 0)) (0, 0, 0, ())).snd.snd.fst).getD (Int.toNat (l'.getD (Int.toNat (script.getD t24.toNat 0)) (0, 0, 0, ())).snd.snd.fst) 0)) 0)).getD (Int.toNat (l'.getD (Int.toNat (script.getD t24.toNat 0)) (0, 0, 0, ())).snd.fst) 0 ≥ 0) then
                                bif inb (l'.getD (Int.toNat (script.getD t24.toNat 0)) (0, 0, 0, ())).snd.fst ((to'2.set (Int.toNat (l'.getD (Int.toNat (script.getD t24.toNat 0)) (0, 0, 0, ())).snd.fst) (l'.getD (Int.toNat (script.getD t24.toNat 0)) (0, 0, 0, ())).snd.snd.fst).set (Int.toNat (l'.getD (Int.toNat (script.getD t24.toNat 0)) (0, 0, 0, ())).snd.fst) ((to'2.set (Int.toNat (l'.getD (Int.toNat (script.getD t24.toNat 0)) (0, 0, 0, ())).snd.fst) (l'.getD (Int.toNat (script.getD t24.toNat 0)) (0, 0, 0, ())).snd.snd.fst).getD (Int.toNat ((to'2.set (Int.toNat (l'.getD (Int.toNat (script.getD t24.toNat 0)) (0, 0, 0, ())).snd.fst) (l'.getD (Int.toNat (script.getD t24.toNat 0)) (0, 0, 0, ())).snd.snd.fst).getD (Int.toNat (l'.getD (Int.toNat (script.getD t24.toNat 0)) (0, 0, 0, ())).snd.snd.fst) 0)) 0)).length then
                                  bif inb (l'.getD (Int.toNat (script.getD t24.toNat 0)) (0, 0, 0, ())).snd.snd.fst ((to'2.set (Int.toNat (l'.getD (Int.toNat (script.getD t24.toNat 0)) (0, 0, 0, ())).snd.fst) (l'.getD (Int.toNat (script.getD t24.toNat 0)) (0, 0, 0, ())).snd.snd.fst).set (Int.toNat (l'.getD (Int.toNat (script.getD t24.toNat 0)) (0, 0, 0, ())).snd.fst) ((to'2.set (Int.toNat (l'.getD (Int.toNat (script.getD t24.toNat 0)) (0, 0, 0, ())).snd.fst) (l'.getD (Int.toNat (script.getD t24.toNat 0)) (0, 0, 0, ())).snd.snd.fst).getD (Int.toNat ((to'2.set (Int.toNat (l'.getD (Int.toNat (script.getD t24.toNat 0)) (0, 0, 0, ())).snd.fst) (l'.getD (Int.toNat (script.getD t24.toNat 0)) (0, 0, 0, ())).snd.snd.fst).getD (Int.toNat (l'.getD (Int.toNat (script.getD t24.toNat 0)) (0, 0, 0, ())).snd.snd.fst) 0)) 0)).length then
                                    bif inb (((to'2.set (Int.toNat (l'.getD (Int.toNat (script.getD t24.toNat 0)) (0, 0, 0, ())).snd.fst) (l'.getD (Int.toNat (script.getD t24.toNat 0)) (0, 0, 0, ())).snd.snd.fst).set (Int.toNat (l'.getD (Int.toNat (script.getD t24.toNat 0)) (0, 0, 0, ())).snd.fst) ((to'2.set (Int.toNat (l'.getD (Int.toNat (script.getD t24.toNat 0)) (0, 0, 0, ())).snd.fst) (l'.getD (Int.toNat (script.getD t24.toNat 0)) (0, 0, 0, ())).snd.snd.fst).getD (Int.toNat ((to'2.set (Int.toNat (l'.getD (Int.toNat (script.getD t24.toNat 0)) (0, 0, 0, ())).snd.fst) (l'.getD (Int.toNat (script.getD t24.toNat 0)) (0, 0, 0, ())).snd.snd.fst).getD (Int.toNat (l'.getD (Int.toNat (script.getD t24.toNat 0)) (0, 0, 0, ())).snd.snd.fst) 0)) 0)).getD (Int.toNat (l'.getD (Int.toNat (script.getD t24.toNat 0)) (0, 0, 0, ())).snd.fst) 0) ((to'2.set (Int.toNat (l'.getD (Int.toNat (script.getD t24.toNat 0)) (0, 0, 0, ())).snd.fst) (l'.getD (Int.toNat (script.getD t24.toNat 0)) (0, 0, 0, ())).snd.snd.fst).set (Int.toNat (l'.getD (Int.toNat (script.getD t24.toNat 0)) (0, 0, 0, ())).snd.fst) ((to'2.set (Int.toNat (l'.getD (Int.toNat (script.getD t24.toNat 0)) (0, 0, 0, ())).snd.fst) (l'.getD (Int.toNat (script.getD t24.toNat 0)) (0, 0, 0, ())).snd.snd.fst).getD (Int.toNat ((to'2.set (Int.toNat (l'.getD (Int.toNat (script.getD t24.toNat 0)) (0, 0, 0, ())).snd.fst) (l'.getD (Int.toNat (script.getD t24.toNat 0)) (0, 0, 0, ())).snd.snd.fst).getD (Int.toNat (l'.getD (Int.toNat (script.getD t24.toNat 0)) (0, 0, 0, ())).snd.snd.fst) 0)) 0)).length then
                                      g2 (((to'2.set (Int.toNat (l'.getD (Int.toNat (script.getD t24.toNat 0)) (0, 0, 0, ())).snd.fst) (l'.getD (Int.toNat (script.getD t24.toNat 0)) (0, 0, 0, ())).snd.snd.fst).set (Int.toNat (l'.getD (Int.toNat (script.getD t24.toNat 0)) (0, 0, 0, ())).snd.fst) ((to'2.set (Int.toNat (l'.getD (Int.toNat (script.getD t24.toNat 0)) (0, 0, 0, ())).snd.fst) (l'.getD (Int.toNat (script.getD t24.toNat 0)) (0, 0, 0, ())).snd.snd.fst).getD (Int.toNat ((to'2.set (Int.toNat (l'.getD (Int.toNat (script.getD t24.toNat 0)) (0, 0, 0, ())).snd.fst) (l'.getD (Int.toNat (script.getD t24.toNat 0)) (0, 0, 0, ())).snd.snd.fst).getD (Int.toNat (l'.getD (Int.toNat (script.getD t24.toNat 0)) (0, 0, 0, ())).snd.snd.fst) 0)) 0)).set (Int.toNat (((to'2.set (Int.toNat (l'.getD (Int.toNat (script.getD t24.toNat 0)) (0, 0, 0, ())).snd.fst) (l'.getD (Int.toNat (script.getD t24.toNat 0)) (0, 0, 0, ())).snd.snd.fst).set (Int.toNat (l'.getD (Int.toNat (script.getD t24.toNat 0)) (0, 0, 0, ())).snd.fst) ((to'2.set (Int.toNat (l'.getD (Int.toNat (script.getD t24.toNat 0)) (0, 0, 0, ())).snd.fst) (l'.getD (Int.toNat (script.getD t24.toNat 0)) (0, 0, 0, ())).snd.snd.fst).getD (Int.toNat ((to'2.set (Int.toNat (l'.getD (Int.toNat (script.getD t24.toNat 0)) (0, 0, 0, ())).snd.fst) (l'.getD (Int.toNat (script.getD t24.toNat 0)) (0, 0, 0, ())).snd.snd.fst).getD (Int.toNat (l'.getD (Int.toNat (script.getD t24.toNat 0)) (0, 0, 0, ())).snd.snd.fst) 0)) 0)).getD (Int.toNat (l'.getD (Int.toNat (script.getD t24.toNat 0)) (0, 0, 0, ())).snd.fst) 0)) (((to'2.set (Int.toNat (l'.getD (Int.toNat (script.getD t24.toNat 0)) (0, 0, 0, ())).snd.fst) (l'.getD (Int.toNat (script.getD t24.toNat 0)) (0, 0, 0, ())).snd.snd.fst).set (Int.toNat (l'.getD (Int.toNat (script.getD t24.toNat 0)) (0, 0, 0, ())).snd.fst) ((to'2.set (Int.toNat (l'.getD (Int.toNat (script.getD t24.toNat 0)) (0, 0, 0, ())).snd.fst) (l'.getD (Int.toNat (script.getD t24.toNat 0)) (0, 0, 0, ())).snd.snd.fst).getD (Int.toNat ((to'2.set (Int.toNat (l'.getD (Int.toNat (script.getD t24.toNat 0)) (0, 0, 0, ())).snd.fst) (l'.getD (Int.toNat (script.getD t24.toNat 0)) (0, 0, 0, ())).snd.snd.fst).getD (Int.toNat (l'.getD (Int.toNat (script.getD t24.toNat 0)) (0, 0, 0, ())).snd.snd.fst) 0)) 0)).getD (Int.toNat (l'.getD (Int.toNat (script.getD t24.toNat 0)) (0, 0, 0, ())).snd.snd.fst) 0)) (IntKind.i64.wrap (t24 + 1))
                                    else
                                      none
                                  else
                                    none
                                else
                                  none
                              else
                                g2 ((to'2.set (Int.toNat (l'.getD (Int.toNat (script.getD t24.toNat 0)) (0, 0, 0, ())).snd.fst) (l'.getD (Int.toNat (script.getD t24.toNat 0)) (0, 0, 0, ())).snd.snd.fst).set (Int.toNat (l'.getD (Int.toNat (script.getD t24.toNat 0)) (0, 0, 0, ())).snd.fst) ((to'2.set (Int.toNat (l'.getD (Int.toNat (script.getD t24.toNat 0)) (0, 0, 0, ())).snd.fst) (l'.getD (Int.toNat (script.getD t24.toNat 0)) (0, 0, 0, ())).snd.snd.fst).getD (Int.toNat ((to'2.set (Int.toNat (l'.getD (Int.toNat (script.getD t24.toNat 0)) (0, 0, 0, ())).snd.fst) (l'.getD (Int.toNat (script.getD t24.toNat 0)) (0, 0, 0, ())).snd.snd.fst).getD (Int.toNat (l'.getD (Int.toNat (script.getD t24.toNat 0)) (0, 0, 0, ())).snd.snd.fst) 0)) 0)) (IntKind.i64.wrap (t24 + 1))
                            else
                              none
                          else
                            g2 ((to'2.set (Int.toNat (l'.getD (Int.toNat (script.getD t24.toNat 0)) (0, 0, 0, ())).snd.fst) (l'.getD (Int.toNat (script.getD t24.toNat 0)) (0, 0, 0, ())).snd.snd.fst).set (Int.toNat (l'.getD (Int.toNat (script.getD t24.toNat 0)) (0, 0, 0, ())).snd.fst) ((to'2.set (Int.toNat (l'.getD (Int.toNat (script.getD t24.toNat 0)) (0, 0, 0, ())).snd.fst) (l'.getD (Int.toNat (script.getD t24.toNat 0)) (0, 0, 0, ())).snd.snd.fst).getD (Int.toNat ((to'2.set (Int.toNat (l'.getD (Int.toNat (script.getD t24.toNat 0)) (0, 0, 0, ())).snd.fst) (l'.getD (Int.toNat (script.getD t24.toNat 0)) (0, 0, 0, ())).snd.snd.fst).getD (Int.toNat (l'.getD (Int.toNat (script.getD t24.toNat 0)) (0, 0, 0, ())).snd.snd.fst) 0)) 0)) (IntKind.i64.wrap (t24 + 1))
                        else
                          none
                      else
                        none
                    else
                      none
                  else
                    bif (l'.getD (Int.toNat (script.getD t24.toNat 0)) (0, 0, 0, ())).fst == 4 then
                      bif inb (l'.getD (Int.toNat (script.getD t24.toNat 0)) (0, 0, 0, ())).snd.fst (to'2.set (Int.toNat (l'.getD (Int.toNat (script.getD t24.toNat 0)) (0, 0, 0, ())).snd.fst) (l'.getD (Int.toNat (script.getD t24.toNat 0)) (0, 0, 0, ())).snd.snd.fst).length then
                        bif decide ((to'2.set (Int.toNat (l'.getD (Int.toNat (script.getD t24.toNat 0)) (0, 0, 0, ())).snd.fst) (l'.getD (Int.toNat (script.getD t24.toNat 0)) (0, 0, 0, ())).snd.snd.fst).getD (Int.toNat (l'.getD (Int.toNat (script.getD t24.toNat 0)) (0, 0, 0, ())).snd.fst) 0 ≥ 0) then
                          bif inb (l'.getD (Int.toNat (script.getD t24.toNat 0)) (0, 0, 0, ())).snd.fst (to'2.set (Int.toNat (l'.getD (Int.toNat (script.getD t24.toNat 0)) (0, 0, 0, ())).snd.fst) (l'.getD (Int.toNat (script.getD t24.toNat 0)) (0, 0, 0, ())).snd.snd.fst).length then
                            bif inb (l'.getD (Int.toNat (script.getD t24.toNat 0)) (0, 0, 0, ())).snd.snd.fst (to'2.set (Int.toNat (l'.getD (Int.toNat (script.getD t24.toNat 0)) (0, 0, 0, ())).snd.fst) (l'.getD (Int.toNat (script.getD t24.toNat 0)) (0, 0, 0, ())).snd.snd.fst).length then
                              bif inb ((to'2.set (Int.toNat (l'.getD (Int.toNat (script.getD t24.toNat 0)) (0, 0, 0, ())).snd.fst) (l'.getD (Int.toNat (script.getD t24.toNat 0)) (0, 0, 0, ())).snd.snd.fst).getD (Int.toNat (l'.getD (Int.toNat (script.getD t24.toNat 0)) (0, 0, 0, ())).snd.fst) 0) (to'2.set (Int.toNat (l'.getD (Int.toNat (script.getD t24.toNat 0)) (0, 0, 0, ())).snd.fst) (l'.getD (Int.toNat (script.getD t24.toNat 0)) (0, 0, 0, ())).snd.snd.fst).length then
                                g2 ((to'2.set (Int.toNat (l'.getD (Int.toNat (script.getD t24.toNat 0)) (0, 0, 0, ())).snd.fst) (l'.getD (Int.toNat (script.getD t24.toNat 0)) (0, 0, 0, ())).snd.snd.fst).set (Int.toNat ((to'2.set (Int.toNat (l'.getD (Int.toNat (script.getD t24.toNat 0)) (0, 0, 0, ())).snd.fst) (l'.getD (Int.toNat (script.getD t24.toNat 0)) (0, 0, 0, ())).snd.snd.fst).getD (Int.toNat (l'.getD (Int.toNat (script.getD t24.toNat 0)) (0, 0, 0, ())).snd.fst) 0)) ((to'2.set (Int.toNat (l'.getD (Int.toNat (script.getD t24.toNat 0)) (0, 0, 0, ())).snd.fst) (l'.getD (Int.toNat (script.getD t24.toNat 0)) (0, 0, 0, ())).snd.snd.fst).getD (Int.toNat (l'.getD (Int.toNat (script.getD t24.toNat 0)) (0, 0, 0, ())).snd.snd.fst) 0)) (IntKind.i64.wrap (t24 + 1))
                              else
                                none
                            else
                              none
                          else
                            none
                        else
                          g2 (to'2.set (Int.toNat (l'.getD (Int.toNat (script.getD t24.toNat 0)) (0, 0, 0, ())).snd.fst) (l'.getD (Int.toNat (script.getD t24.toNat 0)) (0, 0, 0, ())).snd.snd.fst) (IntKind.i64.wrap (t24 + 1))
                      else
                        none
                    else
                      g2 (to'2.set (Int.toNat (l'.getD (Int.toNat (script.getD t24.toNat 0)) (0, 0, 0, ())).snd.fst) (l'.getD (Int.toNat (script.getD t24.toNat 0)) (0, 0, 0, ())).snd.snd.fst) (IntKind.i64.wrap (t24 + 1))
                else
                  none
              else
                bif (l'.getD (Int.toNat (script.getD t24.toNat 0)) (0, 0, 0, ())).fst == 4 then
                  bif inb (l'.getD (Int.toNat (script.getD t24.toNat 0)) (0, 0, 0, ())).snd.fst (to'2.set (Int.toNat (l'.getD (Int.toNat (script.getD t24.toNat 0)) (0, 0, 0, ())).snd.fst) (l'.getD (Int.toNat (script.getD t24.toNat 0)) (0, 0, 0, ())).snd.snd.fst).length then
                    bif decide ((to'2.set (Int.toNat (l'.getD (Int.toNat (script.getD t24.toNat 0)) (0, 0, 0, ())).snd.fst) (l'.getD (Int.toNat (script.getD t24.toNat 0)) (0, 0, 0, ())).snd.snd.fst).getD (Int.toNat (l'.getD (Int.toNat (script.getD t24.toNat 0)) (0, 0, 0, ())).snd.fst) 0 ≥ 0) then
                      bif inb (l'.getD (Int.toNat (script.getD t24.toNat 0)) (0, 0, 0, ())).snd.fst (to'2.set (Int.toNat (l'.getD (Int.toNat (script.getD t24.toNat 0)) (0, 0, 0, ())).snd.fst) (l'.getD (Int.toNat (script.getD t24.toNat 0)) (0, 0, 0, ())).snd.snd.fst).length then
                        bif inb (l'.getD (Int.toNat (script.getD t24.toNat 0)) (0, 0, 0, ())).snd.snd.fst (to'2.set (Int.toNat (l'.getD (Int.toNat (script.getD t24.toNat 0)) (0, 0, 0, ())).snd.fst) (l'.getD (Int.toNat (script.getD t24.toNat 0)) (0, 0, 0, ())).snd.snd.fst).length then
                          bif inb ((to'2.set (Int.toNat (l'.getD (Int.toNat (script.getD t24.toNat 0)) (0, 0, 0, ())).snd.fst) (l'.getD (Int.toNat (script.getD t24.toNat 0)) (0, 0, 0, ())).snd.snd.fst).getD (Int.toNat (l'.getD (Int.toNat (script.getD t24.toNat 0)) (0, 0, 0, ())).snd.fst) 0) (to'2.set (Int.toNat (l'.getD (Int.toNat (script.getD t24.toNat 0)) (0, 0, 0, ())).snd.fst) (l'.getD (Int.toNat (script.getD t24.toNat 0)) (0, 0, 0, ())).snd.snd.fst).length then
                            g2 ((to'2.set (Int.toNat (l'.getD (Int.toNat (script.getD t24.toNat 0)) (0, 0, 0, ())).snd.fst) (l'.getD (Int.toNat (script.getD t24.toNat 0)) (0, 0, 0, ())).snd.snd.fst).set (Int.toNat ((to'2.set (Int.toNat (l'.getD (Int.toNat (script.getD t24.toNat 0)) (0, 0, 0, ())).snd.fst) (l'.getD (Int.toNat (script.getD t24.toNat 0)) (0, 0, 0, ())).snd.snd.fst).getD (Int.toNat (l'.getD (Int.toNat (script.getD t24.toNat 0)) (0, 0, 0, ())).snd.fst) 0)) ((to'2.set (Int.toNat (l'.getD (Int.toNat (script.getD t24.toNat 0)) (0, 0, 0, ())).snd.fst) (l'.getD (Int.toNat (script.getD t24.toNat 0)) (0, 0, 0, ())).snd.snd.fst).getD (Int.toNat (l'.getD (Int.toNat (script.getD t24.toNat 0)) (0, 0, 0, ())).snd.snd.fst) 0)) (IntKind.i64.wrap (t24 + 1))
                          else
                            none
                        else
                          none
                      else
                        none
                    else
                      g2 (to'2.set (Int.toNat (l'.getD (Int.toNat (script.getD t24.toNat 0)) (0, 0, 0, ())).snd.fst) (l'.getD (Int.toNat (script.getD t24.toNat 0)) (0, 0, 0, ())).snd.snd.fst) (IntKind.i64.wrap (t24 + 1))
                  else
                    none
                else
                  g2 (to'2.set (Int.toNat (l'.getD (Int.toNat (script.getD t24.toNat 0)) (0, 0, 0, ())).snd.fst) (l'.getD (Int.toNat (script.getD t24.toNat 0)) (0, 0, 0, ())).snd.snd.fst) (IntKind.i64.wrap (t24 + 1))
          else
            none
        else
          bif (l'.getD (Int.toNat (script.getD t24.toNat 0)) (0, 0, 0, ())).fst == 2 then
            bif inb (l'.getD (Int.toNat (script.getD t24.toNat 0)) (0, 0, 0, ())).snd.snd.fst to'2.length then
              bif inb (l'.getD (Int.toNat (script.getD t24.toNat 0)) (0, 0, 0, ())).snd.fst to'2.length then
                bif (l'.getD (Int.toNat (script.getD t24.toNat 0)) (0, 0, 0, ())).fst == 3 then
                  bif inb (l'.getD (Int.toNat (script.getD t24.toNat 0)) (0, 0, 0, ())).snd.snd.fst (to'2.set (Int.toNat (l'.getD (Int.toNat (script.getD t24.toNat 0)) (0, 0, 0, ())).snd.fst) (to'2.getD (Int.toNat (l'.getD (Int.toNat (script.getD t24.toNat 0)) (0, 0, 0, ())).snd.snd.fst) 0)).length then
                    bif decide ((to'2.set (Int.toNat (l'.getD (Int.toNat (script.getD t24.toNat 0)) (0, 0, 0, ())).snd.fst) (to'2.getD (Int.toNat (l'.getD (Int.toNat (script.getD t24.toNat 0)) (0, 0, 0, ())).snd.snd.fst) 0)).getD (Int.toNat (l'.getD (Int.toNat (script.getD t24.toNat 0)) (0, 0, 0, ())).snd.snd.fst) 0 ≥ 0) then
                      bif inb (l'.getD (Int.toNat (script.getD t24.toNat 0)) (0, 0, 0, ())).snd.snd.fst (to'2.set (Int.toNat (l'.getD (Int.toNat (script.getD t24.toNat 0)) (0, 0, 0, ())).snd.fst) (to'2.getD (Int.toNat (l'.getD (Int.toNat (script.getD t24.toNat 0)) (0, 0, 0, ())).snd.snd.fst) 0)).length then
                        bif inb ((to'2.set (Int.toNat (l'.getD (Int.toNat (script.getD t24.toNat 0)) (0, 0, 0, ())).snd.fst) (to'2.getD (Int.toNat (l'.getD (Int.toNat (script.getD t24.toNat 0)) (0, 0, 0, ())).snd.snd.fst) 0)).getD (Int.toNat (l'.getD (Int.toNat (script.getD t24.toNat 0)) (0, 0, 0, ())).snd.snd.fst) 0) (to'2.set (Int.toNat (l'.getD (Int.toNat (script.getD t24.toNat 0)) (0, 0, 0, ())).snd.fst) (to'2.getD (Int.toNat (l'.getD (Int.toNat (script.getD t24.toNat 0)) (0, 0, 0, ())).snd.snd.fst) 0)).length then
                          bif inb (l'.getD (Int.toNat (script.getD t24.toNat 0)) (0, 0, 0, ())).snd.fst (to'2.set (Int.toNat (l'.getD (Int.toNat (script.getD t24.toNat 0)) (0, 0, 0, ())).snd.fst) (to'2.getD (Int.toNat (l'.getD (Int.toNat (script.getD t24.toNat 0)) (0, 0, 0, ())).snd.snd.fst) 0)).length then
                            bif (l'.getD (Int.toNat (script.getD t24.toNat 0)) (0, 0, 0, ())).fst == 4 then
                              bif inb (l'.getD (Int.toNat (script.getD t24.toNat 0)) (0, 0, 0, ())).snd.fst ((to'2.set (Int.toNat (l'.getD (Int.toNat (script.getD t24.toNat 0)) (0, 0, 0, ())).snd.fst) (to'2.getD (Int.toNat (l'.getD (Int.toNat (script.getD t24.toNat 0)) (0, 0, 0, ())).snd.snd.fst) 0)).set (Int.toNat (l'.getD (Int.toNat (script.getD t24.toNat 0)) (0, 0, 0, ())).snd.fst) ((to'2.set (Int.toNat (l'.getD (Int.toNat (script.getD t24.toNat 0)) (0, 0, 0, ())).snd.fst) (to'2.getD (Int.toNat (l'.getD (Int.toNat (script.getD t24.toNat 0)) (0, 0, 0, ())).snd.snd.fst) 0)).getD (Int.toNat ((to'2.set (Int.toNat (l'.getD (Int.toNat (script.getD t24.toNat 0)) (0, 0, 0, ())).snd.fst) (to'2.getD (Int.toNat (l'.getD (Int.toNat (script.getD t24.toNat 0)) (0, 0, 0, ())).snd.snd.fst) 0)).getD (Int.toNat (l'.getD (Int.toNat (script.getD t24.toNat 0)) (0, 0, 0, ())).snd.snd.fst) 0)) 0)).length then
                                bif decide (((to'2.set (Int.toNat (l'.getD (Int.toNat (script.getD t24.toNat 0)) (0, 0, 0, ())).snd.fst) (to'2.getD (Int.toNat (l'.getD (Int.toNat (script.getD t24.toNat 0)) (0, 0, 0, ())).snd.snd.fst) 0)).set (Int.toNat (l'.getD (Int.toNat (script.getD t24.toNat 0)) (0, 0, 0, ())).snd.fst) ((to'2.set (Int.toNat (l'.getD (Int.toNat (script.getD t24.toNat 0)) (0, 0, 0, ())).snd.fst) (to'2.getD (Int.toNat (l'.getD (Int.toNat (script.getD t24.toNat 0)) (0, 0, 0, ())).snd.snd.fst) 0)).getD (Int.toNat ((to'2.set (Int.toNat (l'.getD (Int.toNat (script.getD t24.toNat 0)) (0, 0, 0, ())).snd.fst) (to'2.getD (Int.toNat (l'.getD (Int.toNat (script.getD t24.toNat 0)) (0, 0, 0, ())).snd.snd.fst) 0)).getD (Int.toNat (l'.getD (Int.toNat (script.getD t24.toNat 0)) (0, 0, 0, ())).snd.snd.fst) 0)) 0)).getD (Int.toNat (l'.getD (Int.toNat (script.getD t24.toNat 0)) (0, 0, 0, ())).snd.fst) 0 ≥ 0) then
                                  bif inb (l'.getD (Int.toNat (script.getD t24.toNat 0)) (0, 0, 0, ())).snd.fst ((to'2.set (Int.toNat (l'.getD (Int.toNat (script.getD t24.toNat 0)) (0, 0, 0, ())).snd.fst) (to'2.getD (Int.toNat (l'.getD (Int.toNat (script.getD t24.toNat 0)) (0, 0, 0, ())).snd.snd.fst) 0)).set (Int.toNat (l'.getD (Int.toNat (script.getD t24.toNat 0)) (0, 0, 0, ())).snd.fst) ((to'2.set (Int.toNat (l'.getD (Int.toNat (script.getD t24.toNat 0)) (0, 0, 0, ())).snd.fst) (to'2.getD (Int.toNat (l'.getD (Int.toNat (script.getD t24.toNat 0)) (0, 0, 0, ())).snd.snd.fst) 0)).getD (Int.toNat ((to'2.set (Int.toNat (l'.getD (Int.toNat (script.getD t24.toNat 0)) (0, 0, 0, ())).snd.fst) (to'2.getD (Int.toNat (l'.getD (Int.toNat (script.getD t24.toNat 0)) (0, 0, 0, ())).snd.snd.fst) 0)).getD (Int.toNat (l'.getD (Int.toNat (script.getD t24.toNat 0)) (0, 0, 0, ())).snd.snd.fst) 0)) 0)).length then
                                    bif inb (l'.getD (Int.toNat (script.getD t24.toNat 0)) (0, 0, 0, ())).snd.snd.fst ((to'2.set (Int.toNat (l'.getD (Int.toNat (script.getD t24.toNat 0)) (0, 0, 0, ())).snd.fst) (to'2.getD (Int.toNat (l'.getD (Int.toNat (script.getD t24.toNat 0)) (0, 0, 0, ())).snd.snd.fst) 0)).set (Int.toNat (l'.getD (Int.toNat (script.getD t24.toNat 0)) (0, 0, 0, ())).snd.fst) ((to'2.set (Int.toNat (l'.getD (Int.toNat (script.getD t24.toNat 0)) (0, 0, 0, ())).snd.fst) (to'2.getD (Int.toNat (l'.getD (Int.toNat (script.getD t24.toNat 0)) (0, 0, 0, ())).snd.snd.fst) 0)).getD (Int.toNat ((to'2.set (Int.toNat (l'.getD (Int.toNat (script.getD t24.toNat 0)) (0, 0, 0, ())).snd.fst) (to'2.getD (Int.toNat (l'.getD (Int.toNat (script.getD t24.toNat 0)) (0, 0, 0, ())).snd.snd.fst) 0)).getD (Int.toNat (l'.getD (Int.toNat (script.getD t24.toNat 0)) (0, 0, 0, ())).snd.snd.fst) 0)) 0)).length then
                                      bif inb (((to'2.set (Int.toNat (l'.getD (Int.toNat (script.getD t24.toNat 0)) (0, 0, 0, ())).snd.fst) (to'2.getD (Int.toNat (l'.getD (Int.toNat (script.getD t24.toNat 0)) (0, 0, 0, ())).snd.snd.fst) 0)).set (Int.toNat (l'.getD (Int.toNat (script.getD t24.toNat 0)) (0, 0, 0, ())).snd.fst) ((to'2.set (Int.toNat (l'.getD (Int.toNat (script.getD t24.toNat 0)) (0, 0, 0, ())).snd.fst) (to'2.getD (Int.toNat (l'.getD (Int.toNat (script.getD t24.toNat 0)) (0, 0, 0, ())).snd.snd.fst) 0)).getD (Int.toNat ((to'2.set (Int.toNat (l'.getD (Int.toNat (script.getD t24.toNat 0)) (0, 0, 0, ())).snd.fst) (to'2.getD (Int.toNat (l'.getD (Int.toNat (script.getD t24.toNat 0)) (0, 0, 0, ())).snd.snd.fst) 0)).getD (Int.toNat (l'.getD (Int.toNat (script.getD t24.toNat 0)) (0, 0, 0, ())).snd.snd.fst) 0)) 0)).getD (Int.toNat (l'.getD (Int.toNat (script.getD t24.toNat 0)) (0, 0, 0, ())).snd.fst) 0) ((to'2.set (Int.toNat (l'.getD (Int.toNat (script.getD t24.toNat 0)) (0, 0, 0, ())).snd.fst) (to'2.getD (Int.toNat (l'.getD (Int.toNat (script.getD t24.toNat 0)) (0, 0, 0, ())).snd.snd.fst) 0)).set (Int.toNat (l'.getD (Int.toNat (script.getD t24.toNat 0)) (0, 0, 0, ())).snd.fst) ((to'2.set (Int.toNat (l'.getD (Int.toNat (script.getD t24.toNat 0)) (0, 0, 0, ())).snd.fst) (to'2.getD (Int.toNat (l'.getD (Int.toNat (script.getD t24.toNat 0)) (0, 0, 0, ())).snd.snd.fst) 0)).getD (Int.toNat ((to'2.set (Int.toNat (l'.getD (Int.toNat (script.getD t24.toNat 0)) (0, 0, 0, ())).snd.fst) (to'2.getD (Int.toNat (l'.getD (Int.toNat (script.getD t24.toNat 0)) (0, 0, 0, ())).snd.snd.fst) 0)).getD (Int.toNat (l'.getD (Int.toNat (script.getD t24.toNat 0)) (0, 0, 0, ())).snd.snd.fst) 0)) 0)).length then
                                        g2 (((to'2.set (Int.toNat (l'.getD (Int.toNat (script.getD t24.toNat 0)) (0, 0, 0, ())).snd.fst) (to'2.getD (Int.toNat (l'.getD (Int.toNat (script.getD t24.toNat 0)) (0, 0, 0, ())).snd.snd.fst) 0)).set (Int.toNat (l'.getD (Int.toNat (script.getD t24.toNat 0)) (0, 0, 0, ())).snd.fst) ((to'2.set (Int.toNat (l'.getD (Int.toNat (script.getD t24.toNat 0)) (0, 0, 0, ())).snd.fst) (to'2.getD (Int.toNat (l'.getD (Int.toNat (script.getD t24.toNat 0)) (0, 0, 0, ())).snd.snd.fst) 0)).getD (Int.toNat ((to'2.set (Int.toNat (l'.getD (Int.toNat (script.getD t24.toNat 0)) (0, 0, 0, ())).snd.fst) (to'2.getD (Int.toNat (l'.getD (Int.toNat (script.getD t24.toNat 0)) (0, 0, 0, ())).snd.snd.fst) 0)).getD (Int.toNat (l'.getD (Int.toNat (script.getD t24.toNat 0)) (0, 0, 0, ())).snd.snd.fst) 0)) 0)).set (Int.toNat (((to'2.set (Int.toNat (l'.getD (Int.toNat (script.getD t24.toNat 0)) (0, 0, 0, ())).snd.fst) (to'2.getD (Int.toNat (l'.getD (Int.toNat (script.getD t24.toNat 0)) (0, 0, 0, ())).snd.snd.fst) 0)).set (Int.toNat (l'.getD (Int.toNat (script.getD t24.toNat 0)) (0, 0, 0, ())).snd.fst) ((to'2.set (Int.toNat (l'.getD (Int.toNat (script.getD t24.toNat 0)) (0, 0, 0, ())).snd.fst) (to'2.getD (Int.toNat (l'.getD (Int.toNat (script.getD t24.toNat 0)) (0, 0, 0, ())).snd.snd.fst) 0)).getD (Int.toNat ((to'2.set (Int.toNat (l'.getD (Int.toNat (script.getD t24.toNat 0)) (0, 0, 0, ())).snd.fst) (to'2.getD (Int.toNat (l'.getD (Int.toNat (script.getD t24.toNat 0)) (0, 0, 0, ())).snd.snd.fst) 0)).getD (Int.toNat (l'.getD (Int.toNat (script.getD t24.toNat 0)) (0, 0, 0, ())).snd.snd.fst) 0)) 0)).getD (Int.toNat (l'.getD (Int.toNat (script.getD t24.toNat 0)) (0, 0, 0, ())).snd.fst) 0)) (((to'2.set (Int.toNat (l'.getD (Int.toNat (script.getD t24.toNat 0)) (0, 0, 0, ())).snd.fst) (to'2.getD (Int.toNat (l'.getD (Int.toNat (script.getD t24.toNat 0)) (0, 0, 0, ())).snd.snd.fst) 0)).set (Int.toNat (l'.getD (Int.toNat (script.getD t24.toNat 0)) (0, 0, 0, ())).snd.fst) ((to'2.set (Int.toNat (l'.getD (Int.toNat (script.getD t24.toNat 0)) (0, 0, 0, ())).snd.fst) (to'2.getD (Int.toNat (l'.getD (Int.toNat (script.getD t24.toNat 0)) (0, 0, 0, ())).snd.snd.fst) 0)).getD (Int.toNat ((to'2.set (Int.toNat (l'.getD (Int.toNat (script.getD t24.toNat 0)) (0, 0, 0, ())).snd.fst) (to'2.getD (Int.toNat (l'.getD (Int.toNat (script.getD t24.toNat 0)) (0, 0, 0, ())).snd.snd.fst) 0)).getD (Int.toNat (l'.getD (Int.toNat (script.getD t24.toNat 0)) (0, 0, 0, ())).snd.snd.fst) 0)) 0)).getD (Int.toNat (l'.getD (Int.toNat (script.getD t24.toNat 0)) (0, 0, 0, ())).snd.snd.fst) 0)) (IntKind.i64.wrap (t24 + 1))
                                      else
                                        none
                                    else
                                      none
                                  else
                                    none
                                else
                                  g2 ((to'2.set (Int.toNat (l'.getD (Int.toNat (script.getD t24.toNat 0)) (0, 0, 0, ())).snd.fst) (to'2.getD (Int.toNat (l'.getD (Int.toNat (script.getD t24.toNat 0)) (0, 0, 0, ())).snd.snd.fst) 0)).set (Int.toNat (l'.getD (Int.toNat (script.getD t24.toNat 0)) (0, 0, 0, ())).snd.fst) ((to'2.set (Int.toNat (l'.getD (Int.toNat (script.getD t24.toNat 0)) (0, 0, 0, ())).snd.fst) (to'2.getD (Int.toNat (l'.getD (Int.toNat (script.getD t24.toNat 0)) (0, 0, 0, ())).snd.snd.fst) 0)).getD (Int.toNat ((to'2.set (Int.toNat (l'.getD (Int.toNat (script.getD t24.toNat 0)) (0, 0, 0, ())).snd.fst) (to'2.getD (Int.toNat (l'.getD (Int.toNat (script.getD t24.toNat 0)) (0, 0, 0, ())).snd.snd.fst) 0)).getD (Int.toNat (l'.getD (Int.toNat (script.getD t24.toNat 0)) (0, 0, 0, ())).snd.snd.fst) 0)) 0)) (IntKind.i64.wrap (t24 + 1))
                              else
                                none
                            else
                              g2 ((to'2.set (Int.toNat (l'.getD (Int.toNat (script.getD t24.toNat 0)) (0, 0, 0, ())).snd.fst) (to'2.getD (Int.toNat (l'.getD (Int.toNat (script.getD t24.toNat 0)) (0, 0, 0, ())).snd.snd.fst) 0)).set (Int.toNat (l'.getD (Int.toNat (script.getD t24.toNat 0)) (0, 0, 0, ())).snd.fst) ((to'2.set (Int.toNat (l'.getD (Int.toNat (script.getD t24.toNat 0)) (0, 0, 0, ())).snd.fst) (to'2.getD (Int.toNat (l'.getD (Int.toNat (script.getD t24.toNat 0)) (0, 0, 0, ())).snd.snd.fst) 0)).getD (Int.toNat ((to'2.set (Int.toNat (l'.getD (Int.toNat (script.getD t24.toNat 0)) (0, 0, 0, ())).snd.fst) (to'2.getD (Int.toNat (l'.getD (Int.toNat (script.getD t24.toNat 0)) (0, 0, 0, ())).snd.snd.fst) 0)).getD (Int.toNat (l'.getD (Int.toNat (script.getD t24.toNat 0)) (0, 0, 0, ())).snd.snd.fst) 0)) 0)) (IntKind.i64.wrap (t24 + 1))
                          else
                            none
                        else
                          none
                      else
                        none
                    else
                      bif (l'.getD (Int.toNat (script.getD t24.toNat 0)) (0, 0, 0, ())).fst == 4 then
                        bif inb (l'.getD (Int.toNat (script.getD t24.toNat 0)) (0, 0, 0, ())).snd.fst (to'2.set (Int.toNat (l'.getD (Int.toNat (script.getD t24.toNat 0)) (0, 0, 0, ())).snd.fst) (to'2.getD (Int.toNat (l'.getD (Int.toNat (script.getD t24.toNat 0)) (0, 0, 0, ())).snd.snd.fst) 0)).length then
                          bif decide ((to'2.set (Int.toNat (l'.getD (Int.toNat (script.getD t24.toNat 0)) (0, 0, 0, ())).snd.fst) (to'2.getD (Int.toNat (l'.getD (Int.toNat (script.getD t24.toNat 0)) (0, 0, 0, ())).snd.snd.fst) 0)).getD (Int.toNat (l'.getD (Int.toNat (script.getD t24.toNat 0)) (0, 0, 0, ())).snd.fst) 0 ≥ 0) then
                            bif inb (l'.getD (Int.toNat (script.getD t24.toNat 0)) (0, 0, 0, ())).snd.fst (to'2.set (Int.toNat (l'.getD (Int.toNat (script.getD t24.toNat 0)) (0, 0, 0, ())).snd.fst) (to'2.getD (Int.toNat (l'.getD (Int.toNat (script.getD t24.toNat 0)) (0, 0, 0, ())).snd.snd.fst) 0)).length then
                              bif inb (l'.getD (Int.toNat (script.getD t24.toNat 0)) (0, 0, 0, ())).snd.snd.fst (to'2.set (Int.toNat (l'.getD (Int.toNat (script.getD t24.toNat 0)) (0, 0, 0, ())).snd.fst) (to'2.getD (Int.toNat (l'.getD (Int.toNat (script.getD t24.toNat 0)) (0, 0, 0, ())).snd.snd.fst) 0)).length then
                                bif inb ((to'2.set (Int.toNat (l'.getD (Int.toNat (script.getD t24.toNat 0)) (0, 0, 0, ())).snd.fst) (to'2.getD (Int.toNat (l'.getD (Int.toNat (script.getD t24.toNat 0)) (0, 0, 0, ())).snd.snd.fst) 0)).getD (Int.toNat (l'.getD (Int.toNat (script.getD t24.toNat 0)) (0, 0, 0, ())).snd.fst) 0) (to'2.set (Int.toNat (l'.getD (Int.toNat (script.getD t24.toNat 0)) (0, 0, 0, ())).snd.fst) (to'2.getD (Int.toNat (l'.getD (Int.toNat (script.getD t24.toNat 0)) (0, 0, 0, ())).snd.snd.fst) 0)).length then
                                  g2 ((to'2.set (Int.toNat (l'.getD (Int.toNat (script.getD t24.toNat 0)) (0, 0, 0, ())).snd.fst) (to'2.getD (Int.toNat (l'.getD (Int.toNat (script.getD t24.toNat 0)) (0, 0, 0, ())).snd.snd.fst) 0)).set (Int.toNat ((to'2.set (Int.toNat (l'.getD (Int.toNat (script.getD t24.toNat 0)) (0, 0, 0, ())).snd.fst) (to'2.getD (Int.toNat (l'.getD (Int.toNat (script.getD t24.toNat 0)) (0, 0, 0, ())).snd.snd.fst) 0)).getD (Int.toNat (l'.getD (Int.toNat (script.getD t24.toNat 0)) (0, 0, 0, ())).snd.fst) 0)) ((to'2.set (Int.toNat (l'.getD (Int.toNat (script.getD t24.toNat 0)) (0, 0, 0, ())).snd.fst) (to'2.getD (Int.toNat (l'.getD (Int.toNat (script.getD t24.toNat 0)) (0, 0, 0, ())).snd.snd.fst) 0)).getD (Int.toNat (l'.getD (Int.toNat (script.getD t24.toNat 0)) (0, 0, 0, ())).snd.snd.fst) 0)) (IntKind.i64.wrap (t24 + 1))
                                else
                                  none
                              else
                                none
                            else
                              none
                          else
                            g2 (to'2.set (Int.toNat (l'.getD (Int.toNat (script.getD t24.toNat 0)) (0, 0, 0, ())).snd.fst) (to'2.getD (Int.toNat (l'.getD (Int.toNat (script.getD t24.toNat 0)) (0, 0, 0, ())).snd.snd.fst) 0)) (IntKind.i64.wrap (t24 + 1))
                        else
                          none
                      else
                        g2 (to'2.set (Int.toNat (l'.getD (Int.toNat (script.getD t24.toNat 0)) (0, 0, 0, ())).snd.fst) (to'2.getD (Int.toNat (l'.getD (Int.toNat (script.getD t24.toNat 0)) (0, 0, 0, ())).snd.snd.fst) 0)) (IntKind.i64.wrap (t24 + 1))
                  else
                    none
                else
                  bif (l'.getD (Int.toNat (script.getD t24.toNat 0)) (0, 0, 0, ())).fst == 4 then
                    bif inb (l'.getD (Int.toNat (script.getD t24.toNat 0)) (0, 0, 0, ())).snd.fst (to'2.set (Int.toNat (l'.getD (Int.toNat (script.getD t24.toNat 0)) (0, 0, 0, ())).snd.fst) (to'2.getD (Int.toNat (l'.getD (Int.toNat (script.getD t24.toNat 0)) (0, 0, 0, ())).snd.snd.fst) 0)).length then
                      bif decide ((to'2.set (Int.toNat (l'.getD (Int.toNat (script.getD t24.toNat 0)) (0, 0, 0, ())).snd.fst) (to'2.getD (Int.toNat (l'.getD (Int.toNat (script.getD t24.toNat 0)) (0, 0, 0, ())).snd.snd.fst) 0)).getD (Int.toNat (l'.getD (Int.toNat (script.getD t24.toNat 0)) (0, 0, 0, ())).snd.fst) 0 ≥ 0) then
                        bif inb (l'.getD (Int.toNat (script.getD t24.toNat 0)) (0, 0, 0, ())).snd.fst (to'2.set (Int.toNat (l'.getD (Int.toNat (script.getD t24.toNat 0)) (0, 0, 0, ())).snd.fst) (to'2.getD (Int.toNat (l'.getD (Int.toNat (script.getD t24.toNat 0)) (0, 0, 0, ())).snd.snd.fst) 0)).length then
                          bif inb (l'.getD (Int.toNat (script.getD t24.toNat 0)) (0, 0, 0, ())).snd.snd.fst (to'2.set (Int.toNat (l'.getD (Int.toNat (script.getD t24.toNat 0)) (0, 0, 0, ())).snd.fst) (to'2.getD (Int.toNat (l'.getD (Int.toNat (script.getD t24.toNat 0)) (0, 0, 0, ())).snd.snd.fst) 0)).length then
                            bif inb ((to'2.set (Int.toNat (l'.getD (Int.toNat (script.getD t24.toNat 0)) (0, 0, 0, ())).snd.fst) (to'2.getD (Int.toNat (l'.getD (Int.toNat (script.getD t24.toNat 0)) (0, 0, 0, ())).snd.snd.fst) 0)).getD (Int.toNat (l'.getD (Int.toNat (script.getD t24.toNat 0)) (0, 0, 0, ())).snd.fst) 0) (to'2.set (Int.toNat (l'.getD (Int.toNat (script.getD t24.toNat 0)) (0, 0, 0, ())).snd.fst) (to'2.getD (Int.toNat (l'.getD (Int.toNat (script.getD t24.toNat 0)) (0, 0, 0, ())).snd.snd.fst) 0)).length then
                              g2 ((to'2.set (Int.toNat (l'.getD (Int.toNat (script.getD t24.toNat 0)) (0, 0, 0, ())).snd.fst) (to'2.getD (Int.toNat (l'.getD (Int.toNat (script.getD t24.toNat 0)) (0, 0, 0, ())).snd.snd.fst) 0)).set (Int.toNat ((to'2.set (Int.toNat (l'.getD (Int.toNat (script.getD t24.toNat 0)) (0, 0, 0, ())).snd.fst) (to'2.getD (Int.toNat (l'.getD (Int.toNat (script.getD t24.toNat 0)) (0, 0, 0, ())).snd.snd.fst) 0)).getD (Int.toNat (l'.getD (Int.toNat (script.getD t24.toNat 0)) (0, 0, 0, ())).snd.fst) 0)) ((to'2.set (Int.toNat (l'.getD (Int.toNat (script.getD t24.toNat 0)) (0, 0, 0, ())).snd.fst) (to'2.getD (Int.toNat (l'.getD (Int.toNat (script.getD t24.toNat 0)) (0, 0, 0, ())).snd.snd.fst) 0)).getD (Int.toNat (l'.getD (Int.toNat (script.getD t24.toNat 0)) (0, 0, 0, ())).snd.snd.fst) 0)) (IntKind.i64.wrap (t24 + 1))
                            else
                              none
                          else
                            none
                        else
                          none
                      else
                        g2 (to'2.set (Int.toNat (l'.getD (Int.toNat (script.getD t24.toNat 0)) (0, 0, 0, ())).snd.fst) (to'2.getD (Int.toNat (l'.getD (Int.toNat (script.getD t24.toNat 0)) (0, 0, 0, ())).snd.snd.fst) 0)) (IntKind.i64.wrap (t24 + 1))
                    else
                      none
                  else
                    g2 (to'2.set (Int.toNat (l'.getD (Int.toNat (script.getD t24.toNat 0)) (0, 0, 0, ())).snd.fst) (to'2.getD (Int.toNat (l'.getD (Int.toNat (script.getD t24.toNat 0)) (0, 0, 0, ())).snd.snd.fst) 0)) (IntKind.i64.wrap (t24 + 1))
              else
                none
            else
              none
          else
            bif (l'.getD (Int.toNat (script.getD t24.toNat 0)) (0, 0, 0, ())).fst == 3 then
              bif inb (l'.getD (Int.toNat (script.getD t24.toNat 0)) (0, 0, 0, ())).snd.snd.fst to'2.length then
                bif decide (to'2.getD (Int.toNat (l'.getD (Int.toNat (script.getD t24.toNat 0)) (0, 0, 0, ())).snd.snd.fst) 0 ≥ 0) then
                  bif inb (l'.getD (Int.toNat (script.getD t24.toNat 0)) (0, 0, 0, ())).snd.snd.fst to'2.length then
                    bif inb (to'2.getD (Int.toNat (l'.getD (Int.toNat (script.getD t24.toNat 0)) (0, 0, 0, ())).snd.snd.fst) 0) to'2.length then
                      bif inb (l'.getD (Int.toNat (script.getD t24.toNat 0)) (0, 0, 0, ())).snd.fst to'2.length then
                        bif (l'.getD (Int.toNat (script.getD t24.toNat 0)) (0, 0, 0, ())).fst == 4 then
                          bif inb (l'.getD (Int.toNat (script.getD t24.toNat 0)) (0, 0, 0, ())).snd.fst (to'2.set (Int.toNat (l'.getD (Int.toNat (script.getD t24.toNat 0)) (0, 0, 0, ())).snd.fst) (to'2.getD (Int.toNat (to'2.getD (Int.toNat (l'.getD (Int.toNat (script.getD t24.toNat 0)) (0, 0, 0, ())).snd.snd.fst) 0)) 0)).length then
                            bif decide ((to'2.set (Int.toNat (l'.getD (Int.toNat (script.getD t24.toNat 0)) (0, 0, 0, ())).snd.fst) (to'2.getD (Int.toNat (to'2.getD (Int.toNat (l'.getD (Int.toNat (script.getD t24.toNat 0)) (0, 0, 0, ())).snd.snd.fst) 0)) 0)).getD (Int.toNat (l'.getD (Int.toNat (script.getD t24.toNat 0)) (0, 0, 0, ())).snd.fst) 0 ≥ 0) then
                              bif inb (l'.getD (Int.toNat (script.getD t24.toNat 0)) (0, 0, 0, ())).snd.fst (to'2.set (Int.toNat (l'.getD (Int.toNat (script.getD t24.toNat 0)) (0, 0, 0, ())).snd.fst) (to'2.getD (Int.toNat (to'2.getD (Int.toNat (l'.getD (Int.toNat (script.getD t24.toNat 0)) (0, 0, 0, ())).snd.snd.fst) 0)) 0)).length then
                                bif inb (l'.getD (Int.toNat (script.getD t24.toNat 0)) (0, 0, 0, ())).snd.snd.fst (to'2.set (Int.toNat (l'.getD (Int.toNat (script.getD t24.toNat 0)) (0, 0, 0, ())).snd.fst) (to'2.getD (Int.toNat (to'2.getD (Int.toNat (l'.getD (Int.toNat (script.getD t24.toNat 0)) (0, 0, 0, ())).snd.snd.fst) 0)) 0)).length then
                                  bif inb ((to'2.set (Int.toNat (l'.getD (Int.toNat (script.getD t24.toNat 0)) (0, 0, 0, ())).snd.fst) (to'2.getD (Int.toNat (to'2.getD (Int.toNat (l'.getD (Int.toNat (script.getD t24.toNat 0)) (0, 0, 0, ())).snd.snd.fst) 0)) 0)).getD (Int.toNat (l'.getD (Int.toNat (script.getD t24.toNat 0)) (0, 0, 0, ())).snd.fst) 0) (to'2.set (Int.toNat (l'.getD (Int.toNat (script.getD t24.toNat 0)) (0, 0, 0, ())).snd.fst) (to'2.getD (Int.toNat (to'2.getD (Int.toNat (l'.getD (Int.toNat (script.getD t24.toNat 0)) (0, 0, 0, ())).snd.snd.fst) 0)) 0)).length then
                                    g2 ((to'2.set (Int.toNat (l'.getD (Int.toNat (script.getD t24.toNat 0)) (0, 0, 0, ())).snd.fst) (to'2.getD (Int.toNat (to'2.getD (Int.toNat (l'.getD (Int.toNat (script.getD t24.toNat 0)) (0, 0, 0, ())).snd.snd.fst) 0)) 0)).set (Int.toNat ((to'2.set (Int.toNat (l'.getD (Int.toNat (script.getD t24.toNat 0)) (0, 0, 0, ())).snd.fst) (to'2.getD (Int.toNat (to'2.getD (Int.toNat (l'.getD (Int.toNat (script.getD t24.toNat 0)) (0, 0, 0, ())).snd.snd.fst) 0)) 0)).getD (Int.toNat (l'.getD (Int.toNat (script.getD t24.toNat 0)) (0, 0, 0, ())).snd.fst) 0)) ((to'2.set (Int.toNat (l'.getD (Int.toNat (script.getD t24.toNat 0)) (0, 0, 0, ())).snd.fst) (to'2.getD (Int.toNat (to'2.getD (Int.toNat (l'.getD (Int.toNat (script.getD t24.toNat 0)) (0, 0, 0, ())).snd.snd.fst) 0)) 0)).getD (Int.toNat (l'.getD (Int.toNat (script.getD t24.toNat 0)) (0, 0, 0, ())).snd.snd.fst) 0)) (IntKind.i64.wrap (t24 + 1))
                                  else
                                    none
                                else
                                  none
                              else
                                none
                            else
                              g2 (to'2.set (Int.toNat (l'.getD (Int.toNat (script.getD t24.toNat 0)) (0, 0, 0, ())).snd.fst) (to'2.getD (Int.toNat (to'2.getD (Int.toNat (l'.getD (Int.toNat (script.getD t24.toNat 0)) (0, 0, 0, ())).snd.snd.fst) 0)) 0)) (IntKind.i64.wrap (t24 + 1))
                          else
                            none
                        else
                          g2 (to'2.set (Int.toNat (l'.getD (Int.toNat (script.getD t24.toNat 0)) (0, 0, 0, ())).snd.fst) (to'2.getD (Int.toNat (to'2.getD (Int.toNat (l'.getD (Int.toNat (script.getD t24.toNat 0)) (0, 0, 0, ())).snd.snd.fst) 0)) 0)) (IntKind.i64.wrap (t24 + 1))
                      else
                        none
                    else
                      none
                  else
                    none
                else
                  bif (l'.getD (Int.toNat (script.getD t24.toNat 0)) (0, 0, 0, ())).fst == 4 then
                    bif inb (l'.getD (Int.toNat (script.getD t24.toNat 0)) (0, 0, 0, ())).snd.fst to'2.length then
                      bif decide (to'2.getD (Int.toNat (l'.getD (Int.toNat (script.getD t24.toNat 0)) (0, 0, 0, ())).snd.fst) 0 ≥ 0) then
                        bif inb (l'.getD (Int.toNat (script.getD t24.toNat 0)) (0, 0, 0, ())).snd.fst to'2.length then
                          bif inb (l'.getD (Int.toNat (script.getD t24.toNat 0)) (0, 0, 0, ())).snd.snd.fst to'2.length then
                            bif inb (to'2.getD (Int.toNat (l'.getD (Int.toNat (script.getD t24.toNat 0)) (0, 0, 0, ())).snd.fst) 0) to'2.length then
                              g2 (to'2.set (Int.toNat (to'2.getD (Int.toNat (l'.getD (Int.toNat (script.getD t24.toNat 0)) (0, 0, 0, ())).snd.fst) 0)) (to'2.getD (Int.toNat (l'.getD (Int.toNat (script.getD t24.toNat 0)) (0, 0, 0, ())).snd.snd.fst) 0)) (IntKind.i64.wrap (t24 + 1))
                            else
                              none
                          else
                            none
                        else
                          none
                      else
                        g2 to'2 (IntKind.i64.wrap (t24 + 1))
                    else
                      none
                  else
                    g2 to'2 (IntKind.i64.wrap (t24 + 1))
              else
                none
            else
              bif (l'.getD (Int.toNat (script.getD t24.toNat 0)) (0, 0, 0, ())).fst == 4 then
                bif inb (l'.getD (Int.toNat (script.getD t24.toNat 0)) (0, 0, 0, ())).snd.fst to'2.length then
                  bif decide (to'2.getD (Int.toNat (l'.getD (Int.toNat (script.getD t24.toNat 0)) (0, 0, 0, ())).snd.fst) 0 ≥ 0) then
                    bif inb (l'.getD (Int.toNat (script.getD t24.toNat 0)) (0, 0, 0, ())).snd.fst to'2.length then
                      bif inb (l'.getD (Int.toNat (script.getD t24.toNat 0)) (0, 0, 0, ())).snd.snd.fst to'2.length then
                        bif inb (to'2.getD (Int.toNat (l'.getD (Int.toNat (script.getD t24.toNat 0)) (0, 0, 0, ())).snd.fst) 0) to'2.length then
                          g2 (to'2.set (Int.toNat (to'2.getD (Int.toNat (l'.getD (Int.toNat (script.getD t24.toNat 0)) (0, 0, 0, ())).snd.fst) 0)) (to'2.getD (Int.toNat (l'.getD (Int.toNat (script.getD t24.toNat 0)) (0, 0, 0, ())).snd.snd.fst) 0)) (IntKind.i64.wrap (t24 + 1))
                        else
                          none
                      else
                        none
                    else
                      none
                  else
                    g2 to'2 (IntKind.i64.wrap (t24 + 1))
                else
                  none
              else
                g2 to'2 (IntKind.i64.wrap (t24 + 1))
      else
        none
    else
      none
  else
    some ((to'2, ()))
def ref_Pointed_p (nf : Nat) (l0 : Int → List (Int × Int × Int × Unit) → List Int → List Int → Int → Option (List Int × Unit)) (vars : Int) (l' : List (Int × Int × Int × Unit)) (script : List Int) : Option (List Int × Unit) :=
  bif decide (0 ≤ vars) && decide (vars ≤ vars) && decide (vars ≤ (↑lim : Int)) then
    l0 vars l' script (List.replicate vars.toNat 0) 0
  else
    none
def ref_Pointed_l2 (nf : Nat) (l' : List (Int × Int × Int × Unit)) (script : List Int) : Nat → List Int → Int → Option (List Int × Unit)
  | 0, _, _ => none
  | fu + 1, to'2, t24 => ref_Pointed_b2 nf  l' script  (ref_Pointed_l2 nf l' script  fu) to'2 t24
def ref_Pointed_l0 (nf : Nat) (vars : Int) (l' : List (Int × Int × Int × Unit)) (script : List Int) : Nat → List Int → Int → Option (List Int × Unit)
  | 0, _, _ => none
  | fu + 1, to', i => ref_Pointed_b0 nf (fun _ _ v0 v1 => ref_Pointed_l2 nf l' script  nf v0 v1) vars l' script  (ref_Pointed_l0 nf vars l' script  fu) to' i
def ref_Pointed_f (nf : Nat) (vars : Int) (l' : List (Int × Int × Int × Unit)) (script : List Int) : Option (List Int × Unit) := ref_Pointed_p nf (fun p0 p1 p2 v0 v1 => ref_Pointed_l0 nf p0 p1 p2 nf v0 v1) vars l' script
noncomputable def ref_Pointed_L0 (nf : Nat) : LC (List Int × Unit) := theL (findL tab (ref_Pointed_phi nf) (fun _ F => iter nf F) ref_Pointed_keep 0 0 (codeOf Try.f36) (fin tab [((Ty.int IntKind.i64).sl, Md.own false (Md.bor false false))] Try.f36.results.toList) (fun _ _ => none) (fin tab [((Ty.int IntKind.i64).sl, Md.own false (Md.bor false false))] Try.f36.results.toList))
def ref_Pointed_m0 (vars : Int) (l' : List (Int × Int × Int × Unit)) (script : List Int) (to' : List Int) (i : Int) : St := ⟨fresh, [(0, AV.v (Ty.int IntKind.i64) (Md.bor false true) vars), (1, AV.v ((Ty.int IntKind.i64).pair ((Ty.int IntKind.i64).pair ((Ty.int IntKind.i64).pair Ty.unit))).sl (Md.bor true false) l'), (2, AV.v (Ty.int IntKind.i64).sl (Md.bor true false) script), (7, AV.ow 500007 (Ty.int IntKind.i64).sl (Md.own false (Md.bor false false)) to'), (8, AV.v (Ty.int IntKind.i64) (Md.bor false true) i), (13, AV.dead)]⟩
noncomputable def ref_Pointed_L2 (nf : Nat) : LC (List Int × Unit) := theL (findL tab (ref_Pointed_phi nf) (fun _ F => iter nf F) ref_Pointed_keep 2 0 (codeOf Try.f36) (fin tab [((Ty.int IntKind.i64).sl, Md.own false (Md.bor false false))] Try.f36.results.toList) (fun _ _ => none) (fin tab [((Ty.int IntKind.i64).sl, Md.own false (Md.bor false false))] Try.f36.results.toList))
def ref_Pointed_m2 (l' : List (Int × Int × Int × Unit)) (script : List Int) (to'2 : List Int) (t24 : Int) : St := ⟨fresh, [(1, AV.v ((Ty.int IntKind.i64).pair ((Ty.int IntKind.i64).pair ((Ty.int IntKind.i64).pair Ty.unit))).sl (Md.bor true false) l'), (2, AV.v (Ty.int IntKind.i64).sl (Md.bor true false) script), (7, AV.ow 500007 (Ty.int IntKind.i64).sl (Md.own false (Md.bor false false)) to'2), (13, AV.dead), (22, AV.v (Ty.int IntKind.i64).sl (Md.bor true false) script), (23, AV.v (Ty.int IntKind.i64) (Md.bor false true) (↑script.length : Int)), (24, AV.v (Ty.int IntKind.i64) (Md.bor false true) t24)]⟩
theorem ref_Pointed_h2 (nf : Nat)  (l' : List (Int × Int × Int × Unit)) (script : List Int) (fu : Nat) (to'2 : List Int) (t24 : Int) : iter (fu + 1) (LC.F tab (ref_Pointed_phi nf) (fun _ F => iter nf F) ref_Pointed_keep 2 (ref_Pointed_L2 nf )) (ref_Pointed_m2 l' script to'2 t24) = ref_Pointed_b2 nf  l' script  (fun to'2 t24 => iter fu (LC.F tab (ref_Pointed_phi nf) (fun _ F => iter nf F) ref_Pointed_keep 2 (ref_Pointed_L2 nf )) (ref_Pointed_m2 l' script to'2 t24)) to'2 t24 := by kernel_rfl
theorem ref_Pointed_e2 (nf : Nat)  (l' : List (Int × Int × Int × Unit)) (script : List Int) : ∀ (fu : Nat) (to'2 : List Int) (t24 : Int), iter fu (LC.F tab (ref_Pointed_phi nf) (fun _ F => iter nf F) ref_Pointed_keep 2 (ref_Pointed_L2 nf )) (ref_Pointed_m2 l' script to'2 t24) = ref_Pointed_l2 nf l' script  fu to'2 t24 := by
  intro fu
  induction fu with
  | zero => intros; rfl
  | succ fu ih =>
    intro to'2 t24
    rw [ref_Pointed_h2 nf  l' script fu to'2 t24]
    simp only [ih]
    rfl
theorem ref_Pointed_h0 (nf : Nat)  (vars : Int) (l' : List (Int × Int × Int × Unit)) (script : List Int) (fu : Nat) (to' : List Int) (i : Int) : iter (fu + 1) (LC.F tab (ref_Pointed_phi nf) (fun _ F => iter nf F) ref_Pointed_keep 0 (ref_Pointed_L0 nf )) (ref_Pointed_m0 vars l' script to' i) = ref_Pointed_b0 nf (fun _ _ v0 v1 => iter nf (LC.F tab (ref_Pointed_phi nf) (fun _ F => iter nf F) ref_Pointed_keep 2 (ref_Pointed_L2 nf )) (ref_Pointed_m2 l' script v0 v1)) vars l' script  (fun to' i => iter fu (LC.F tab (ref_Pointed_phi nf) (fun _ F => iter nf F) ref_Pointed_keep 0 (ref_Pointed_L0 nf )) (ref_Pointed_m0 vars l' script to' i)) to' i := by kernel_rfl
theorem ref_Pointed_e0 (nf : Nat)  (vars : Int) (l' : List (Int × Int × Int × Unit)) (script : List Int) : ∀ (fu : Nat) (to' : List Int) (i : Int), iter fu (LC.F tab (ref_Pointed_phi nf) (fun _ F => iter nf F) ref_Pointed_keep 0 (ref_Pointed_L0 nf )) (ref_Pointed_m0 vars l' script to' i) = ref_Pointed_l0 nf vars l' script  fu to' i := by
  intro fu
  induction fu with
  | zero => intros; rfl
  | succ fu ih =>
    intro to' i
    rw [ref_Pointed_h0 nf  vars l' script fu to' i]
    simp only [ih, ref_Pointed_e2]
    rfl
theorem ref_Pointed_eq (nf : Nat) (vars : Int) (l' : List (Int × Int × Int × Unit)) (script : List Int) : runF tab (ref_Pointed_phi nf) ref_Pointed_keep nf [PT.val (Ty.int IntKind.i64) (Md.bor true false), PT.val ((Ty.int IntKind.i64).pair ((Ty.int IntKind.i64).pair ((Ty.int IntKind.i64).pair Ty.unit))).sl (Md.bor true false), PT.val (Ty.int IntKind.i64).sl (Md.bor true false)] [((Ty.int IntKind.i64).sl, Md.own false (Md.bor false false))] Try.f36.results.toList (codeOf Try.f36) ⟨vars, l', script, ()⟩ = ref_Pointed_f nf vars l' script := by
  have h : runF tab (ref_Pointed_phi nf) ref_Pointed_keep nf [PT.val (Ty.int IntKind.i64) (Md.bor true false), PT.val ((Ty.int IntKind.i64).pair ((Ty.int IntKind.i64).pair ((Ty.int IntKind.i64).pair Ty.unit))).sl (Md.bor true false), PT.val (Ty.int IntKind.i64).sl (Md.bor true false)] [((Ty.int IntKind.i64).sl, Md.own false (Md.bor false false))] Try.f36.results.toList (codeOf Try.f36) ⟨vars, l', script, ()⟩ = ref_Pointed_p nf (fun p0 p1 p2 v0 v1 => iter nf (LC.F tab (ref_Pointed_phi nf) (fun _ F => iter nf F) ref_Pointed_keep 0 (ref_Pointed_L0 nf)) (ref_Pointed_m0 p0 p1 p2 v0 v1)) vars l' script := by kernel_rfl
  rw [h]
  simp only [ref_Pointed_e0]
  rfl
def ref_Pointed_F (nf : Nat) (x : denPs [.val (.int .i64) (.bor true false), .val (.sl (.pair (.int .i64) (.pair (.int .i64) (.pair (.int .i64) (.unit))))) (.bor true false), .val (.sl (.int .i64)) (.bor true false)]) : Option (denL [(.sl (.int .i64), .own false (.bor false false))]) := ref_Pointed_f nf x.1 x.2.1 x.2.2.1
def ref_Pointed_C (nf : Nat) : Contract := ⟨[.val (.int .i64) (.bor true false), .val (.sl (.pair (.int .i64) (.pair (.int .i64) (.pair (.int .i64) (.unit))))) (.bor true false), .val (.sl (.int .i64)) (.bor true false)], [(.sl (.int .i64), .own false (.bor false false))], ref_Pointed_F nf⟩
theorem ref_Pointed_ok : FnOK Try.prog 36 := ⟨Try.f36, codeOf Try.f36, Try.func36, by kernel_rfl, by kernel_rfl⟩
theorem ref_Pointed_holds (nf : Nat) : Contract.Holds Try.prog 36 (ref_Pointed_C nf) :=
  fn_holds (Φ := ref_Pointed_phi nf) (keep := ref_Pointed_keep) (n := nf) ⟨tabs.1, tabs.2, ctx_nil, mixed⟩ (fn := Try.f36) ⟨Try.func36, by kernel_rfl, by kernel_rfl, by kernel_rfl⟩ (fun x => ref_Pointed_eq nf x.1 x.2.1 x.2.2.1)

/-! codemason codemasonlaw.PointRuns -/
def law_PointRuns_phi (nf : Nat) : Nat → Option Contract := lookC [(22, ref_Ints_C nf), (34, point_Run_C nf), (35, ref_PointCheck_C nf), (36, ref_Pointed_C nf)]
def law_PointRuns_keep : Nat → List Nat := lookK []
def law_PointRuns_p (nf : Nat)  (vars : Int) (l' : List (Int × Int × Int × Unit)) (script : List Int) : Option (Bool × Unit) :=
  Option.bind (point_Run_f nf vars l' script) fun r =>
  Option.bind (ref_PointCheck_f nf vars l' script) fun r2 =>
  bif r2.fst != 0 then
    bif r.snd.fst == r2.fst then
      some (((↑(List.length r.fst) : Int) == 0, ()))
    else
      some ((false, ()))
  else
    bif r.snd.fst == 0 then
      Option.bind (ref_Pointed_f nf vars l' script) fun r3 =>
      Option.bind (ref_Ints_f nf r.fst r3.fst) fun r4 =>
      some ((r4.fst, ()))
    else
      some ((false, ()))
def law_PointRuns_f (nf : Nat) (vars : Int) (l' : List (Int × Int × Int × Unit)) (script : List Int) : Option (Bool × Unit) := law_PointRuns_p nf  vars l' script
theorem law_PointRuns_eq (nf : Nat) (vars : Int) (l' : List (Int × Int × Int × Unit)) (script : List Int) : runF tab (law_PointRuns_phi nf) law_PointRuns_keep nf [PT.val (Ty.int IntKind.i64) (Md.bor true false), PT.val ((Ty.int IntKind.i64).pair ((Ty.int IntKind.i64).pair ((Ty.int IntKind.i64).pair Ty.unit))).sl (Md.bor true false), PT.val (Ty.int IntKind.i64).sl (Md.bor true false)] [(Ty.bool, Md.bor false true)] Try.f10.results.toList (codeOf Try.f10) ⟨vars, l', script, ()⟩ = law_PointRuns_f nf vars l' script := by
  have h : runF tab (law_PointRuns_phi nf) law_PointRuns_keep nf [PT.val (Ty.int IntKind.i64) (Md.bor true false), PT.val ((Ty.int IntKind.i64).pair ((Ty.int IntKind.i64).pair ((Ty.int IntKind.i64).pair Ty.unit))).sl (Md.bor true false), PT.val (Ty.int IntKind.i64).sl (Md.bor true false)] [(Ty.bool, Md.bor false true)] Try.f10.results.toList (codeOf Try.f10) ⟨vars, l', script, ()⟩ = law_PointRuns_p nf  vars l' script := by kernel_rfl
  exact h
def law_PointRuns_F (nf : Nat) (x : denPs [.val (.int .i64) (.bor true false), .val (.sl (.pair (.int .i64) (.pair (.int .i64) (.pair (.int .i64) (.unit))))) (.bor true false), .val (.sl (.int .i64)) (.bor true false)]) : Option (denL [(.bool, .bor false true)]) := law_PointRuns_f nf x.1 x.2.1 x.2.2.1
def law_PointRuns_C (nf : Nat) : Contract := ⟨[.val (.int .i64) (.bor true false), .val (.sl (.pair (.int .i64) (.pair (.int .i64) (.pair (.int .i64) (.unit))))) (.bor true false), .val (.sl (.int .i64)) (.bor true false)], [(.bool, .bor false true)], law_PointRuns_F nf⟩
theorem law_PointRuns_ok : FnOK Try.prog 10 := ⟨Try.f10, codeOf Try.f10, Try.func10, by kernel_rfl, by kernel_rfl⟩
theorem law_PointRuns_holds (nf : Nat) : Contract.Holds Try.prog 10 (law_PointRuns_C nf) :=
  fn_holds (Φ := law_PointRuns_phi nf) (keep := law_PointRuns_keep) (n := nf) ⟨tabs.1, tabs.2, (ctx_cons ref_Ints_ok (ref_Ints_holds nf) (ctx_cons point_Run_ok (point_Run_holds nf) (ctx_cons ref_PointCheck_ok (ref_PointCheck_holds nf) (ctx_cons ref_Pointed_ok (ref_Pointed_holds nf) ctx_nil)))), mixed⟩ (fn := Try.f10) ⟨Try.func10, by kernel_rfl, by kernel_rfl, by kernel_rfl⟩ (fun x => law_PointRuns_eq nf x.1 x.2.1 x.2.2.1)
end Go.Proofs.Ytgbldmehdipfaaa.S
