/- The functions of the code, as plain functions, and the theorems that say so: made by a program of this proof's own. -/
import Derived.Test.YtmndifhjmbiodaaAbCheck
import Derived.Test.YtmndifhjmbiodaaChecked
namespace Go.Proofs.Ytmndifhjmbiodaa.S
open Go Go.Ab
noncomputable section
def bkl : List (Nat × Bk) := []
def tab : Tab := ⟨lookT [(2, .int .i64), (3, .int .i64), (4, .bool), (5, .int .u8), (6, .int .u8), (7, .pair (.int .i64) (.pair (.int .i64) (.pair (.bool) (.pair (.int .u8) (.unit))))), (8, .pair (.int .i64) (.pair (.int .i64) (.pair (.bool) (.pair (.int .u8) (.unit))))), (12, .int .u64), (21, .int .i32), (22, .sl (.int .i64)), (23, .int .i64), (29, .sl (.pair (.sl (.int .u8)) (.pair (.sl (.pair (.int .i64) (.pair (.int .i64) (.unit)))) (.pair (.sl (.pair (.int .i64) (.pair (.int .i64) (.unit)))) (.unit))))), (34, .int .u32), (39, .sl (.int .u8)), (45, .sl (.pair (.int .i64) (.pair (.int .i64) (.unit)))), (50, .pair (.int .i64) (.pair (.int .i64) (.unit))), (51, .pair (.int .i64) (.pair (.int .i64) (.unit))), (56, .sl (.pair (.int .i64) (.pair (.int .i64) (.pair (.int .i64) (.unit))))), (57, .sl (.int .u32)), (66, .mp (.int .u32) (.int .i64)), (67, .int .u64), (75, .mp (.int .i64) (.int .i64)), (76, .pair (.sl (.int .i64)) (.pair (.mp (.int .i64) (.int .i64)) (.pair (.mp (.int .i64) (.int .i64)) (.unit)))), (77, .pair (.sl (.int .i64)) (.pair (.mp (.int .i64) (.int .i64)) (.pair (.mp (.int .i64) (.int .i64)) (.unit)))), (78, .sl (.pair (.int .i64) (.pair (.int .i64) (.unit)))), (79, .pair (.sl (.int .u8)) (.pair (.sl (.pair (.int .i64) (.pair (.int .i64) (.unit)))) (.pair (.sl (.pair (.int .i64) (.pair (.int .i64) (.unit)))) (.unit)))), (80, .pair (.sl (.int .u8)) (.pair (.sl (.pair (.int .i64) (.pair (.int .i64) (.unit)))) (.pair (.sl (.pair (.int .i64) (.pair (.int .i64) (.unit)))) (.unit)))), (81, .pair (.int .i64) (.pair (.int .i64) (.unit))), (82, .sl (.sl (.int .i64))), (89, .pair (.sl (.int .i64)) (.pair (.sl (.int .i64)) (.unit))), (90, .pair (.sl (.int .i64)) (.pair (.sl (.int .i64)) (.unit))), (92, .pair (.int .i64) (.pair (.int .i64) (.pair (.int .i64) (.unit)))), (93, .pair (.int .i64) (.pair (.int .i64) (.pair (.int .i64) (.unit)))), (94, .mp (.pair (.int .i64) (.pair (.int .i64) (.unit))) (.bool)), (98, .pair (.sl (.int .i64)) (.pair (.sl (.int .i64)) (.unit))), (99, .pair (.sl (.int .i64)) (.pair (.sl (.int .i64)) (.unit))), (106, .sl (.bool)), (114, .int .u64), (124, .int .u8), (125, .int .u8), (128, .int .i32), (129, .int .i32)], lookM [(2, .bor false true), (3, .bor false true), (4, .bor false true), (5, .bor false true), (6, .bor false true), (7, .bor false true), (8, .bor false true), (12, .bor false true), (21, .bor false true), (22, .own false (.bor false false)), (23, .bor false true), (29, .own false (.bor false false)), (34, .bor false true), (39, .own false (.bor false false)), (45, .own false (.bor false false)), (50, .bor false true), (51, .bor false true), (56, .own false (.bor false false)), (57, .own false (.bor false false)), (66, .own false (.bor false false)), (67, .bor false true), (75, .own false (.bor false false)), (76, .bor true false), (77, .pair (.own false (.bor false false)) (.pair (.own true (.bor false false)) (.pair (.own true (.bor false false)) (.bor false false)))), (78, .own false (.bor false false)), (79, .bor true false), (80, .bor true false), (81, .bor false true), (82, .own false (.bor false false)), (89, .bor true false), (90, .pair (.own false (.bor false false)) (.pair (.own false (.bor false false)) (.bor false false))), (92, .bor false true), (93, .bor false true), (94, .own false (.bor false false)), (98, .bor true false), (99, .pair (.own false (.bor false false)) (.pair (.own false (.bor false false)) (.bor false false))), (106, .own false (.bor false false)), (114, .bor false true), (124, .bor false true), (125, .bor false true), (128, .bor false true), (129, .bor false true)], hasT [81, 120], hasT [9, 10, 11], fun _ => none, lookB bkl⟩
theorem bkls : BkL Try.prog bkl := fun _ h => by cases h
theorem tabs : TabOK Try.prog tab ∧ EqOK Try.prog tab := tab_ok (by kernel_rfl) (by kernel_rfl)
theorem mixed : Try.prog.follows .mixedOrders = true := by kernel_rfl

/-! codemason link.places -/
def link_places_phi (nf : Nat) : Nat → Option Contract := lookC []
def link_places_keep : Nat → List Nat := lookK [(2, [0, 1, 26, 27, 28, 29]), (0, [0, 1, 7, 8, 9, 10])]
def link_places_b0 (nf : Nat) (l2 : List Int × List (Int × Int × Unit) × List (Int × Int × Unit) × Unit → List Int × List (Int × Int × Unit) × List (Int × Int × Unit) × Unit → List Int × List (Int × Int × Unit) × List (Int × Int × Unit) × Unit → Int → Option (Int × Unit)) (o : List Int × List (Int × Int × Unit) × List (Int × Int × Unit) × Unit) (g0 : List Int × List (Int × Int × Unit) × List (Int × Int × Unit) × Unit → Int → Option (Int × Unit)) (o2 : List Int × List (Int × Int × Unit) × List (Int × Int × Unit) × Unit) (t10 : Int) : Option (Int × Unit) :=
  bif decide (t10 < (↑(List.length o.snd.fst) : Int)) then
    bif inb t10 (List.length o.snd.fst) then
      bif decide ((List.getD o.snd.fst t10.toNat (0, 0, ())).snd.fst < 0) then
        some ((4, ()))
      else
        bif decide ((List.getD o.snd.fst t10.toNat (0, 0, ())).snd.fst > (↑(List.length o2.fst) : Int)) then
          some ((4, ()))
        else
          g0 o2 (IntKind.i64.wrap (t10 + 1))
    else
      none
  else
    l2 o o2 o2 0
def link_places_b2 (nf : Nat) (o : List Int × List (Int × Int × Unit) × List (Int × Int × Unit) × Unit) (o2 : List Int × List (Int × Int × Unit) × List (Int × Int × Unit) × Unit) (g2 : List Int × List (Int × Int × Unit) × List (Int × Int × Unit) × Unit → Int → Option (Int × Unit)) (o3 : List Int × List (Int × Int × Unit) × List (Int × Int × Unit) × Unit) (t29 : Int) : Option (Int × Unit) :=
  bif decide (t29 < (↑(List.length o2.snd.snd.fst) : Int)) then
    bif inb t29 (List.length o2.snd.snd.fst) then
      bif decide ((List.getD o2.snd.snd.fst t29.toNat (0, 0, ())).snd.fst < 0) then
        some ((4, ()))
      else
        bif decide ((List.getD o2.snd.snd.fst t29.toNat (0, 0, ())).snd.fst > IntKind.i64.wrap ((↑(List.length o3.fst) : Int) - 2)) then
          some ((4, ()))
        else
          g2 o3 (IntKind.i64.wrap (t29 + 1))
    else
      none
  else
    some ((0, ()))
def link_places_p (nf : Nat) (l0 : List Int × List (Int × Int × Unit) × List (Int × Int × Unit) × Unit → List Int × List (Int × Int × Unit) × List (Int × Int × Unit) × Unit → Int → Option (Int × Unit)) (o : List Int × List (Int × Int × Unit) × List (Int × Int × Unit) × Unit) : Option (Int × Unit) :=
  l0 o o 0
def link_places_l2 (nf : Nat) (o : List Int × List (Int × Int × Unit) × List (Int × Int × Unit) × Unit) (o2 : List Int × List (Int × Int × Unit) × List (Int × Int × Unit) × Unit) : Nat → List Int × List (Int × Int × Unit) × List (Int × Int × Unit) × Unit → Int → Option (Int × Unit)
  | 0, _, _ => none
  | fu + 1, o3, t29 => link_places_b2 nf  o o2  (link_places_l2 nf o o2  fu) o3 t29
def link_places_l0 (nf : Nat) (o : List Int × List (Int × Int × Unit) × List (Int × Int × Unit) × Unit) : Nat → List Int × List (Int × Int × Unit) × List (Int × Int × Unit) × Unit → Int → Option (Int × Unit)
  | 0, _, _ => none
  | fu + 1, o2, t10 => link_places_b0 nf (fun _ p1 v0 v1 => link_places_l2 nf o p1  nf v0 v1) o  (link_places_l0 nf o  fu) o2 t10
def link_places_f (nf : Nat) (o : List Int × List (Int × Int × Unit) × List (Int × Int × Unit) × Unit) : Option (Int × Unit) := link_places_p nf (fun p0 v0 v1 => link_places_l0 nf p0 nf v0 v1) o
noncomputable def link_places_L0 (nf : Nat) : LC (Int × Unit) := theL (findL tab (link_places_phi nf) (fun _ F => iter nf F) link_places_keep 0 0 (codeOf Try.f56) (fin tab [(Ty.int IntKind.i64, Md.bor false true)] (resL ([]) Try.f56)) (fun _ _ => none) (fin tab [(Ty.int IntKind.i64, Md.bor false true)] (resL ([]) Try.f56)))
def link_places_m0 (o : List Int × List (Int × Int × Unit) × List (Int × Int × Unit) × Unit) (o2 : List Int × List (Int × Int × Unit) × List (Int × Int × Unit) × Unit) (t10 : Int) : St := ⟨fresh, [(0, AV.v ((Ty.int IntKind.u8).sl.pair (((Ty.int IntKind.i64).pair ((Ty.int IntKind.i64).pair Ty.unit)).sl.pair (((Ty.int IntKind.i64).pair ((Ty.int IntKind.i64).pair Ty.unit)).sl.pair Ty.unit))) (Md.bor true false) o), (1, AV.box 1 500001 ((Ty.int IntKind.u8).sl.pair (((Ty.int IntKind.i64).pair ((Ty.int IntKind.i64).pair Ty.unit)).sl.pair (((Ty.int IntKind.i64).pair ((Ty.int IntKind.i64).pair Ty.unit)).sl.pair Ty.unit))) (Md.bor true false) o2), (7, AV.pl 1 1 [Stp.dr, Stp.fld 1]), (8, AV.v ((Ty.int IntKind.i64).pair ((Ty.int IntKind.i64).pair Ty.unit)).sl (Md.bor true false) o.snd.fst), (9, AV.v (Ty.int IntKind.i64) (Md.bor false true) (↑(List.length o.snd.fst) : Int)), (10, AV.v (Ty.int IntKind.i64) (Md.bor false true) t10)]⟩
noncomputable def link_places_L2 (nf : Nat) : LC (Int × Unit) := theL (findL tab (link_places_phi nf) (fun _ F => iter nf F) link_places_keep 2 0 (codeOf Try.f56) (fin tab [(Ty.int IntKind.i64, Md.bor false true)] (resL ([]) Try.f56)) (fun _ _ => none) (fin tab [(Ty.int IntKind.i64, Md.bor false true)] (resL ([]) Try.f56)))
def link_places_m2 (o : List Int × List (Int × Int × Unit) × List (Int × Int × Unit) × Unit) (o2 : List Int × List (Int × Int × Unit) × List (Int × Int × Unit) × Unit) (o3 : List Int × List (Int × Int × Unit) × List (Int × Int × Unit) × Unit) (t29 : Int) : St := ⟨fresh, [(0, AV.v ((Ty.int IntKind.u8).sl.pair (((Ty.int IntKind.i64).pair ((Ty.int IntKind.i64).pair Ty.unit)).sl.pair (((Ty.int IntKind.i64).pair ((Ty.int IntKind.i64).pair Ty.unit)).sl.pair Ty.unit))) (Md.bor true false) o), (1, AV.box 1 500001 ((Ty.int IntKind.u8).sl.pair (((Ty.int IntKind.i64).pair ((Ty.int IntKind.i64).pair Ty.unit)).sl.pair (((Ty.int IntKind.i64).pair ((Ty.int IntKind.i64).pair Ty.unit)).sl.pair Ty.unit))) (Md.bor true false) o3), (26, AV.pl 1 1 [Stp.dr, Stp.fld 2]), (27, AV.v ((Ty.int IntKind.i64).pair ((Ty.int IntKind.i64).pair Ty.unit)).sl (Md.bor true false) o2.snd.snd.fst), (28, AV.v (Ty.int IntKind.i64) (Md.bor false true) (↑(List.length o2.snd.snd.fst) : Int)), (29, AV.v (Ty.int IntKind.i64) (Md.bor false true) t29)]⟩
theorem link_places_h2 (nf : Nat)  (o : List Int × List (Int × Int × Unit) × List (Int × Int × Unit) × Unit) (o2 : List Int × List (Int × Int × Unit) × List (Int × Int × Unit) × Unit) (fu : Nat) (o3 : List Int × List (Int × Int × Unit) × List (Int × Int × Unit) × Unit) (t29 : Int) : iter (fu + 1) (LC.F tab (link_places_phi nf) (fun _ F => iter nf F) link_places_keep 2 (link_places_L2 nf )) (link_places_m2 o o2 o3 t29) = link_places_b2 nf  o o2  (fun o3 t29 => iter fu (LC.F tab (link_places_phi nf) (fun _ F => iter nf F) link_places_keep 2 (link_places_L2 nf )) (link_places_m2 o o2 o3 t29)) o3 t29 := by kernel_rfl
theorem link_places_e2 (nf : Nat)  (o : List Int × List (Int × Int × Unit) × List (Int × Int × Unit) × Unit) (o2 : List Int × List (Int × Int × Unit) × List (Int × Int × Unit) × Unit) : ∀ (fu : Nat) (o3 : List Int × List (Int × Int × Unit) × List (Int × Int × Unit) × Unit) (t29 : Int), iter fu (LC.F tab (link_places_phi nf) (fun _ F => iter nf F) link_places_keep 2 (link_places_L2 nf )) (link_places_m2 o o2 o3 t29) = link_places_l2 nf o o2  fu o3 t29 := by
  intro fu
  induction fu with
  | zero => intros; rfl
  | succ fu ih =>
    intro o3 t29
    rw [link_places_h2 nf  o o2 fu o3 t29]
    simp only [ih]
    rfl
theorem link_places_h0 (nf : Nat)  (o : List Int × List (Int × Int × Unit) × List (Int × Int × Unit) × Unit) (fu : Nat) (o2 : List Int × List (Int × Int × Unit) × List (Int × Int × Unit) × Unit) (t10 : Int) : iter (fu + 1) (LC.F tab (link_places_phi nf) (fun _ F => iter nf F) link_places_keep 0 (link_places_L0 nf )) (link_places_m0 o o2 t10) = link_places_b0 nf (fun _ p1 v0 v1 => iter nf (LC.F tab (link_places_phi nf) (fun _ F => iter nf F) link_places_keep 2 (link_places_L2 nf )) (link_places_m2 o p1 v0 v1)) o  (fun o2 t10 => iter fu (LC.F tab (link_places_phi nf) (fun _ F => iter nf F) link_places_keep 0 (link_places_L0 nf )) (link_places_m0 o o2 t10)) o2 t10 := by kernel_rfl
theorem link_places_e0 (nf : Nat)  (o : List Int × List (Int × Int × Unit) × List (Int × Int × Unit) × Unit) : ∀ (fu : Nat) (o2 : List Int × List (Int × Int × Unit) × List (Int × Int × Unit) × Unit) (t10 : Int), iter fu (LC.F tab (link_places_phi nf) (fun _ F => iter nf F) link_places_keep 0 (link_places_L0 nf )) (link_places_m0 o o2 t10) = link_places_l0 nf o  fu o2 t10 := by
  intro fu
  induction fu with
  | zero => intros; rfl
  | succ fu ih =>
    intro o2 t10
    rw [link_places_h0 nf  o fu o2 t10]
    simp only [ih, link_places_e2]
    rfl
theorem link_places_eq (nf : Nat) (o : List Int × List (Int × Int × Unit) × List (Int × Int × Unit) × Unit) : runF tab (link_places_phi nf) link_places_keep nf [PT.val ((Ty.int IntKind.u8).sl.pair (((Ty.int IntKind.i64).pair ((Ty.int IntKind.i64).pair Ty.unit)).sl.pair (((Ty.int IntKind.i64).pair ((Ty.int IntKind.i64).pair Ty.unit)).sl.pair Ty.unit))) (Md.bor true false)] [(Ty.int IntKind.i64, Md.bor false true)] (resL ([]) Try.f56) (codeOf Try.f56) ⟨o, ()⟩ = link_places_f nf o := by
  have h : runF tab (link_places_phi nf) link_places_keep nf [PT.val ((Ty.int IntKind.u8).sl.pair (((Ty.int IntKind.i64).pair ((Ty.int IntKind.i64).pair Ty.unit)).sl.pair (((Ty.int IntKind.i64).pair ((Ty.int IntKind.i64).pair Ty.unit)).sl.pair Ty.unit))) (Md.bor true false)] [(Ty.int IntKind.i64, Md.bor false true)] (resL ([]) Try.f56) (codeOf Try.f56) ⟨o, ()⟩ = link_places_p nf (fun p0 v0 v1 => iter nf (LC.F tab (link_places_phi nf) (fun _ F => iter nf F) link_places_keep 0 (link_places_L0 nf)) (link_places_m0 p0 v0 v1)) o := by kernel_rfl
  rw [h]
  simp only [link_places_e0]
  rfl
def link_places_F (nf : Nat) (x : denPs [.val (.pair (.sl (.int .u8)) (.pair (.sl (.pair (.int .i64) (.pair (.int .i64) (.unit)))) (.pair (.sl (.pair (.int .i64) (.pair (.int .i64) (.unit)))) (.unit)))) (.bor true false)]) : Option (denL [(.int .i64, .bor false true)]) := link_places_f nf x.1
def link_places_C (nf : Nat) : Contract := ⟨[.val (.pair (.sl (.int .u8)) (.pair (.sl (.pair (.int .i64) (.pair (.int .i64) (.unit)))) (.pair (.sl (.pair (.int .i64) (.pair (.int .i64) (.unit)))) (.unit)))) (.bor true false)], [(.int .i64, .bor false true)], link_places_F nf, []⟩
theorem link_places_ok : FnOK Try.prog 56 := ⟨Try.f56, codeOf Try.f56, Try.func56, by kernel_rfl, by kernel_rfl⟩
theorem link_places_holds (nf : Nat) : Contract.Holds Try.prog 56 (link_places_C nf) :=
  fn_holds (Φ := link_places_phi nf) (keep := link_places_keep) (n := nf) ⟨tabs.1, tabs.2, ctx_nil, mixed, bk_ok bkls rfl⟩ (fn := Try.f56) ⟨Try.func56, by kernel_rfl, by kernel_rfl, by kernel_rfl⟩ (fun x => link_places_eq nf x.1)

/-! codemason link.build -/
def link_build_phi (nf : Nat) : Nat → Option Contract := lookC [(56, link_places_C nf)]
def link_build_keep : Nat → List Nat := lookK [(6, [0, 9, 10, 11, 12, 55, 56, 57, 58, 59, 64, 65, 66, 67]), (4, [0, 9, 10, 55, 56, 57, 58, 59]), (2, [0, 41, 42, 43]), (0, [0, 20, 21, 22])]
def link_build_b0 (nf : Nat) (l2 : List (List Int × List (Int × Int × Unit) × List (Int × Int × Unit) × Unit) → Int → Option (Option (List Int × List (Int × Int) × List (Int × Int) × Unit) × Int × Unit)) (l' : List (List Int × List (Int × Int × Unit) × List (Int × Int × Unit) × Unit)) (g0 : Int → Option (Option (List Int × List (Int × Int) × List (Int × Int) × Unit) × Int × Unit)) (t22 : Int) : Option (Option (List Int × List (Int × Int) × List (Int × Int) × Unit) × Int × Unit) :=
  bif decide (t22 < (↑l'.length : Int)) then
    bif inb t22 l'.length then
      bif decide ((↑(List.length (l'.getD t22.toNat ([], [], [], ())).fst) : Int) > 200) then
        some ((none, 1, ()))
      else
        bif decide ((if (↑(List.length (l'.getD t22.toNat ([], [], [], ())).snd.snd.fst) : Int) > (↑(List.length (l'.getD t22.toNat ([], [], [], ())).snd.fst) : Int) then (↑(List.length (l'.getD t22.toNat ([], [], [], ())).snd.snd.fst) : Int) else (↑(List.length (l'.getD t22.toNat ([], [], [], ())).snd.fst) : Int)) > 12) then
          some ((none, 1, ()))
        else
          g0 (IntKind.i64.wrap (t22 + 1))
    else
      none
  else
    l2 l' 0
def link_build_b2 (nf : Nat) (l4 : List (List Int × List (Int × Int × Unit) × List (Int × Int × Unit) × Unit) → Int → List Int × List (Int × Int) × List (Int × Int) × Unit → Int → Option (Option (List Int × List (Int × Int) × List (Int × Int) × Unit) × Int × Unit)) (l' : List (List Int × List (Int × Int × Unit) × List (Int × Int × Unit) × Unit)) (g2 : Int → Option (Option (List Int × List (Int × Int) × List (Int × Int) × Unit) × Int × Unit)) (t43 : Int) : Option (Option (List Int × List (Int × Int) × List (Int × Int) × Unit) × Int × Unit) :=
  bif decide (t43 < (↑l'.length : Int)) then
    bif inb t43 l'.length then
      Option.bind (link_places_f nf (l'.getD t43.toNat ([], [], [], ()))) fun r =>
      bif r.fst != 0 then
        some ((none, r.fst, ()))
      else
        g2 (IntKind.i64.wrap (t43 + 1))
    else
      none
  else
    l4 l' 0 (([], [], [], ())) 0
def link_build_b4 (nf : Nat) (l6 : List (List Int × List (Int × Int × Unit) × List (Int × Int × Unit) × Unit) → Int → Int → List Int × List (Int × Int × Unit) × List (Int × Int × Unit) × Unit → List Int × List (Int × Int) × List (Int × Int) × Unit → Int → Option (Option (List Int × List (Int × Int) × List (Int × Int) × Unit) × Int × Unit)) (l' : List (List Int × List (Int × Int × Unit) × List (Int × Int × Unit) × Unit)) (g4 : Int → List Int × List (Int × Int) × List (Int × Int) × Unit → Int → Option (Option (List Int × List (Int × Int) × List (Int × Int) × Unit) × Int × Unit)) (at' : Int) (t56 : List Int × List (Int × Int) × List (Int × Int) × Unit) (t59 : Int) : Option (Option (List Int × List (Int × Int) × List (Int × Int) × Unit) × Int × Unit) :=
  bif decide (t59 < (↑l'.length : Int)) then
    bif inb t59 l'.length then
      l6 l' at' t59 (l'.getD t59.toNat ([], [], [], ())) t56 0
    else
      none
  else
    some ((some t56, 0, ()))
def link_build_b6 (nf : Nat) (l' : List (List Int × List (Int × Int × Unit) × List (Int × Int × Unit) × Unit)) (at' : Int) (t59 : Int) (g4 : Int → List Int × List (Int × Int) × List (Int × Int) × Unit → Int → Option (Option (List Int × List (Int × Int) × List (Int × Int) × Unit) × Int × Unit)) (g6 : List Int × List (Int × Int × Unit) × List (Int × Int × Unit) × Unit → List Int × List (Int × Int) × List (Int × Int) × Unit → Int → Option (Option (List Int × List (Int × Int) × List (Int × Int) × Unit) × Int × Unit)) (o : List Int × List (Int × Int × Unit) × List (Int × Int × Unit) × Unit) (t562 : List Int × List (Int × Int) × List (Int × Int) × Unit) (t67 : Int) : Option (Option (List Int × List (Int × Int) × List (Int × Int) × Unit) × Int × Unit) :=
  bif decide (t67 < (↑(List.length (l'.getD t59.toNat ([], [], [], ())).snd.fst) : Int)) then
    bif inb t67 (List.length (l'.getD t59.toNat ([], [], [], ())).snd.fst) then
      both (both (bif (getM (Ty.int IntKind.i64) (Ty.int IntKind.i64) t562.snd.fst (List.getD (l'.getD t59.toNat ([], [], [], ())).snd.fst t67.toNat (0, 0, ())).fst).isSome then
        some ((none, 3, ()))
      else
        g6 o ((t562.fst, insM (Ty.int IntKind.i64) (Ty.int IntKind.i64) (insM (Ty.int IntKind.i64) (Ty.int IntKind.i64) t562.snd.fst (List.getD (l'.getD t59.toNat ([], [], [], ())).snd.fst t67.toNat (0, 0, ())).fst ((getM (Ty.int IntKind.i64) (Ty.int IntKind.i64) t562.snd.fst (List.getD (l'.getD t59.toNat ([], [], [], ())).snd.fst t67.toNat (0, 0, ())).fst).getD 0)) (List.getD (l'.getD t59.toNat ([], [], [], ())).snd.fst t67.toNat (0, 0, ())).fst t59, insM (Ty.int IntKind.i64) (Ty.int IntKind.i64) (insM (Ty.int IntKind.i64) (Ty.int IntKind.i64) t562.snd.snd.fst (List.getD (l'.getD t59.toNat ([], [], [], ())).snd.fst t67.toNat (0, 0, ())).fst ((getM (Ty.int IntKind.i64) (Ty.int IntKind.i64) t562.snd.snd.fst (List.getD (l'.getD t59.toNat ([], [], [], ())).snd.fst t67.toNat (0, 0, ())).fst).getD 0)) (List.getD (l'.getD t59.toNat ([], [], [], ())).snd.fst t67.toNat (0, 0, ())).fst (IntKind.i64.wrap (at' + (List.getD (l'.getD t59.toNat ([], [], [], ())).snd.fst t67.toNat (0, 0, ())).snd.fst)), t562.snd.snd.snd)) (IntKind.i64.wrap (t67 + 1))) (bif (getM (Ty.int IntKind.i64) (Ty.int IntKind.i64) t562.snd.fst (List.getD (l'.getD t59.toNat ([], [], [], ())).snd.fst t67.toNat (0, 0, ())).fst).isSome then
        some ((none, 3, ()))
      else
        g6 o ((t562.fst, insM (Ty.int IntKind.i64) (Ty.int IntKind.i64) (insM (Ty.int IntKind.i64) (Ty.int IntKind.i64) t562.snd.fst (List.getD (l'.getD t59.toNat ([], [], [], ())).snd.fst t67.toNat (0, 0, ())).fst ((getM (Ty.int IntKind.i64) (Ty.int IntKind.i64) t562.snd.fst (List.getD (l'.getD t59.toNat ([], [], [], ())).snd.fst t67.toNat (0, 0, ())).fst).getD 0)) (List.getD (l'.getD t59.toNat ([], [], [], ())).snd.fst t67.toNat (0, 0, ())).fst t59, insM (Ty.int IntKind.i64) (Ty.int IntKind.i64) (insM (Ty.int IntKind.i64) (Ty.int IntKind.i64) t562.snd.snd.fst (List.getD (l'.getD t59.toNat ([], [], [], ())).snd.fst t67.toNat (0, 0, ())).fst ((getM (Ty.int IntKind.i64) (Ty.int IntKind.i64) t562.snd.snd.fst (List.getD (l'.getD t59.toNat ([], [], [], ())).snd.fst t67.toNat (0, 0, ())).fst).getD 0)) (List.getD (l'.getD t59.toNat ([], [], [], ())).snd.fst t67.toNat (0, 0, ())).fst (IntKind.i64.wrap (at' + (List.getD (l'.getD t59.toNat ([], [], [], ())).snd.fst t67.toNat (0, 0, ())).snd.fst)), t562.snd.snd.snd)) (IntKind.i64.wrap (t67 + 1)))) (bif (getM (Ty.int IntKind.i64) (Ty.int IntKind.i64) t562.snd.fst (List.getD (l'.getD t59.toNat ([], [], [], ())).snd.fst t67.toNat (0, 0, ())).fst).isSome then
        some ((none, 3, ()))
      else
        g6 o ((t562.fst, insM (Ty.int IntKind.i64) (Ty.int IntKind.i64) (insM (Ty.int IntKind.i64) (Ty.int IntKind.i64) t562.snd.fst (List.getD (l'.getD t59.toNat ([], [], [], ())).snd.fst t67.toNat (0, 0, ())).fst ((getM (Ty.int IntKind.i64) (Ty.int IntKind.i64) t562.snd.fst (List.getD (l'.getD t59.toNat ([], [], [], ())).snd.fst t67.toNat (0, 0, ())).fst).getD 0)) (List.getD (l'.getD t59.toNat ([], [], [], ())).snd.fst t67.toNat (0, 0, ())).fst t59, insM (Ty.int IntKind.i64) (Ty.int IntKind.i64) (insM (Ty.int IntKind.i64) (Ty.int IntKind.i64) t562.snd.snd.fst (List.getD (l'.getD t59.toNat ([], [], [], ())).snd.fst t67.toNat (0, 0, ())).fst ((getM (Ty.int IntKind.i64) (Ty.int IntKind.i64) t562.snd.snd.fst (List.getD (l'.getD t59.toNat ([], [], [], ())).snd.fst t67.toNat (0, 0, ())).fst).getD 0)) (List.getD (l'.getD t59.toNat ([], [], [], ())).snd.fst t67.toNat (0, 0, ())).fst (IntKind.i64.wrap (at' + (List.getD (l'.getD t59.toNat ([], [], [], ())).snd.fst t67.toNat (0, 0, ())).snd.fst)), t562.snd.snd.snd)) (IntKind.i64.wrap (t67 + 1)))
    else
      none
  else
    bif ![at'].isEmpty && (List.length t562.fst + [at'].length).ble lim then
      g4 (IntKind.i64.wrap (at' + (↑(List.length o.fst) : Int))) ((t562.fst ++ [at'], t562.snd)) (IntKind.i64.wrap (t59 + 1))
    else
      none
def link_build_p (nf : Nat) (l0 : List (List Int × List (Int × Int × Unit) × List (Int × Int × Unit) × Unit) → Int → Option (Option (List Int × List (Int × Int) × List (Int × Int) × Unit) × Int × Unit)) (l' : List (List Int × List (Int × Int × Unit) × List (Int × Int × Unit) × Unit)) : Option (Option (List Int × List (Int × Int) × List (Int × Int) × Unit) × Int × Unit) :=
  bif decide ((↑l'.length : Int) > 5) then
    some ((none, 1, ()))
  else
    l0 l' 0
def link_build_l6 (nf : Nat) (l' : List (List Int × List (Int × Int × Unit) × List (Int × Int × Unit) × Unit)) (at' : Int) (t59 : Int) (g4 : Int → List Int × List (Int × Int) × List (Int × Int) × Unit → Int → Option (Option (List Int × List (Int × Int) × List (Int × Int) × Unit) × Int × Unit)) : Nat → List Int × List (Int × Int × Unit) × List (Int × Int × Unit) × Unit → List Int × List (Int × Int) × List (Int × Int) × Unit → Int → Option (Option (List Int × List (Int × Int) × List (Int × Int) × Unit) × Int × Unit)
  | 0, _, _, _ => none
  | fu + 1, o, t562, t67 => link_build_b6 nf  l' at' t59 g4 (link_build_l6 nf l' at' t59 g4 fu) o t562 t67
def link_build_l4 (nf : Nat) (l' : List (List Int × List (Int × Int × Unit) × List (Int × Int × Unit) × Unit)) : Nat → Int → List Int × List (Int × Int) × List (Int × Int) × Unit → Int → Option (Option (List Int × List (Int × Int) × List (Int × Int) × Unit) × Int × Unit)
  | 0, _, _, _ => none
  | fu + 1, at', t56, t59 => link_build_b4 nf (fun _ p1 p2 v0 v1 v2 => link_build_l6 nf l' p1 p2 (fun at' t56 t59 => link_build_l4 nf l'  fu at' t56 t59) nf v0 v1 v2) l'  (link_build_l4 nf l'  fu) at' t56 t59
def link_build_l2 (nf : Nat) (l' : List (List Int × List (Int × Int × Unit) × List (Int × Int × Unit) × Unit)) : Nat → Int → Option (Option (List Int × List (Int × Int) × List (Int × Int) × Unit) × Int × Unit)
  | 0, _ => none
  | fu + 1, t43 => link_build_b2 nf (fun _ v0 v1 v2 => link_build_l4 nf l'  nf v0 v1 v2) l'  (link_build_l2 nf l'  fu) t43
def link_build_l0 (nf : Nat) (l' : List (List Int × List (Int × Int × Unit) × List (Int × Int × Unit) × Unit)) : Nat → Int → Option (Option (List Int × List (Int × Int) × List (Int × Int) × Unit) × Int × Unit)
  | 0, _ => none
  | fu + 1, t22 => link_build_b0 nf (fun _ v0 => link_build_l2 nf l'  nf v0) l'  (link_build_l0 nf l'  fu) t22
def link_build_f (nf : Nat) (l' : List (List Int × List (Int × Int × Unit) × List (Int × Int × Unit) × Unit)) : Option (Option (List Int × List (Int × Int) × List (Int × Int) × Unit) × Int × Unit) := link_build_p nf (fun p0 v0 => link_build_l0 nf p0 nf v0) l'
noncomputable def link_build_L0 (nf : Nat) : LC (Option (List Int × List (Int × Int) × List (Int × Int) × Unit) × Int × Unit) := theL (findL tab (link_build_phi nf) (fun _ F => iter nf F) link_build_keep 0 0 (codeOf Try.f41) (fin tab [(((Ty.int IntKind.i64).sl.pair (((Ty.int IntKind.i64).mp (Ty.int IntKind.i64)).pair (((Ty.int IntKind.i64).mp (Ty.int IntKind.i64)).pair Ty.unit))).bx, Md.own false ((Md.own false (Md.bor false false)).pair ((Md.own true (Md.bor false false)).pair ((Md.own true (Md.bor false false)).pair (Md.bor false false))))), (Ty.int IntKind.i64, Md.bor false true)] (resL ([]) Try.f41)) (fun _ _ => none) (fin tab [(((Ty.int IntKind.i64).sl.pair (((Ty.int IntKind.i64).mp (Ty.int IntKind.i64)).pair (((Ty.int IntKind.i64).mp (Ty.int IntKind.i64)).pair Ty.unit))).bx, Md.own false ((Md.own false (Md.bor false false)).pair ((Md.own true (Md.bor false false)).pair ((Md.own true (Md.bor false false)).pair (Md.bor false false))))), (Ty.int IntKind.i64, Md.bor false true)] (resL ([]) Try.f41)))
def link_build_m0 (l' : List (List Int × List (Int × Int × Unit) × List (Int × Int × Unit) × Unit)) (t22 : Int) : St := ⟨fresh, [(0, AV.v ((Ty.int IntKind.u8).sl.pair (((Ty.int IntKind.i64).pair ((Ty.int IntKind.i64).pair Ty.unit)).sl.pair (((Ty.int IntKind.i64).pair ((Ty.int IntKind.i64).pair Ty.unit)).sl.pair Ty.unit))).sl (Md.bor true false) l'), (20, AV.v ((Ty.int IntKind.u8).sl.pair (((Ty.int IntKind.i64).pair ((Ty.int IntKind.i64).pair Ty.unit)).sl.pair (((Ty.int IntKind.i64).pair ((Ty.int IntKind.i64).pair Ty.unit)).sl.pair Ty.unit))).sl (Md.bor true false) l'), (21, AV.v (Ty.int IntKind.i64) (Md.bor false true) (↑l'.length : Int)), (22, AV.v (Ty.int IntKind.i64) (Md.bor false true) t22)]⟩
noncomputable def link_build_L2 (nf : Nat) : LC (Option (List Int × List (Int × Int) × List (Int × Int) × Unit) × Int × Unit) := theL (findL tab (link_build_phi nf) (fun _ F => iter nf F) link_build_keep 2 0 (codeOf Try.f41) (fin tab [(((Ty.int IntKind.i64).sl.pair (((Ty.int IntKind.i64).mp (Ty.int IntKind.i64)).pair (((Ty.int IntKind.i64).mp (Ty.int IntKind.i64)).pair Ty.unit))).bx, Md.own false ((Md.own false (Md.bor false false)).pair ((Md.own true (Md.bor false false)).pair ((Md.own true (Md.bor false false)).pair (Md.bor false false))))), (Ty.int IntKind.i64, Md.bor false true)] (resL ([]) Try.f41)) (fun _ _ => none) (fin tab [(((Ty.int IntKind.i64).sl.pair (((Ty.int IntKind.i64).mp (Ty.int IntKind.i64)).pair (((Ty.int IntKind.i64).mp (Ty.int IntKind.i64)).pair Ty.unit))).bx, Md.own false ((Md.own false (Md.bor false false)).pair ((Md.own true (Md.bor false false)).pair ((Md.own true (Md.bor false false)).pair (Md.bor false false))))), (Ty.int IntKind.i64, Md.bor false true)] (resL ([]) Try.f41)))
def link_build_m2 (l' : List (List Int × List (Int × Int × Unit) × List (Int × Int × Unit) × Unit)) (t43 : Int) : St := ⟨fresh, [(0, AV.v ((Ty.int IntKind.u8).sl.pair (((Ty.int IntKind.i64).pair ((Ty.int IntKind.i64).pair Ty.unit)).sl.pair (((Ty.int IntKind.i64).pair ((Ty.int IntKind.i64).pair Ty.unit)).sl.pair Ty.unit))).sl (Md.bor true false) l'), (41, AV.v ((Ty.int IntKind.u8).sl.pair (((Ty.int IntKind.i64).pair ((Ty.int IntKind.i64).pair Ty.unit)).sl.pair (((Ty.int IntKind.i64).pair ((Ty.int IntKind.i64).pair Ty.unit)).sl.pair Ty.unit))).sl (Md.bor true false) l'), (42, AV.v (Ty.int IntKind.i64) (Md.bor false true) (↑l'.length : Int)), (43, AV.v (Ty.int IntKind.i64) (Md.bor false true) t43)]⟩
noncomputable def link_build_L4 (nf : Nat) : LC (Option (List Int × List (Int × Int) × List (Int × Int) × Unit) × Int × Unit) := theL (findL tab (link_build_phi nf) (fun _ F => iter nf F) link_build_keep 4 0 (codeOf Try.f41) (fin tab [(((Ty.int IntKind.i64).sl.pair (((Ty.int IntKind.i64).mp (Ty.int IntKind.i64)).pair (((Ty.int IntKind.i64).mp (Ty.int IntKind.i64)).pair Ty.unit))).bx, Md.own false ((Md.own false (Md.bor false false)).pair ((Md.own true (Md.bor false false)).pair ((Md.own true (Md.bor false false)).pair (Md.bor false false))))), (Ty.int IntKind.i64, Md.bor false true)] (resL ([]) Try.f41)) (fun _ _ => none) (fin tab [(((Ty.int IntKind.i64).sl.pair (((Ty.int IntKind.i64).mp (Ty.int IntKind.i64)).pair (((Ty.int IntKind.i64).mp (Ty.int IntKind.i64)).pair Ty.unit))).bx, Md.own false ((Md.own false (Md.bor false false)).pair ((Md.own true (Md.bor false false)).pair ((Md.own true (Md.bor false false)).pair (Md.bor false false))))), (Ty.int IntKind.i64, Md.bor false true)] (resL ([]) Try.f41)))
def link_build_m4 (l' : List (List Int × List (Int × Int × Unit) × List (Int × Int × Unit) × Unit)) (at' : Int) (t56 : List Int × List (Int × Int) × List (Int × Int) × Unit) (t59 : Int) : St := ⟨fresh, [(0, AV.v ((Ty.int IntKind.u8).sl.pair (((Ty.int IntKind.i64).pair ((Ty.int IntKind.i64).pair Ty.unit)).sl.pair (((Ty.int IntKind.i64).pair ((Ty.int IntKind.i64).pair Ty.unit)).sl.pair Ty.unit))).sl (Md.bor true false) l'), (9, AV.pl 56 56 [Stp.dr]), (10, AV.v (Ty.int IntKind.i64) (Md.bor false true) at'), (55, AV.dead), (56, AV.box 56 500056 ((Ty.int IntKind.i64).sl.pair (((Ty.int IntKind.i64).mp (Ty.int IntKind.i64)).pair (((Ty.int IntKind.i64).mp (Ty.int IntKind.i64)).pair Ty.unit))) ((Md.own false (Md.bor false false)).pair ((Md.own true (Md.bor false false)).pair ((Md.own true (Md.bor false false)).pair (Md.bor false false)))) t56), (57, AV.v ((Ty.int IntKind.u8).sl.pair (((Ty.int IntKind.i64).pair ((Ty.int IntKind.i64).pair Ty.unit)).sl.pair (((Ty.int IntKind.i64).pair ((Ty.int IntKind.i64).pair Ty.unit)).sl.pair Ty.unit))).sl (Md.bor true false) l'), (58, AV.v (Ty.int IntKind.i64) (Md.bor false true) (↑l'.length : Int)), (59, AV.v (Ty.int IntKind.i64) (Md.bor false true) t59)]⟩
noncomputable def link_build_L6 (nf : Nat) (G4 : St → Option (Option (List Int × List (Int × Int) × List (Int × Int) × Unit) × Int × Unit)) : LC (Option (List Int × List (Int × Int) × List (Int × Int) × Unit) × Int × Unit) := theL (findL tab (link_build_phi nf) (fun _ F => iter nf F) link_build_keep 6 4 (link_build_L4 nf ).c (fun st => norm (link_build_keep 4) st G4) (link_build_L4 nf ).Kx (link_build_L4 nf ).Kr)
def link_build_m6 (l' : List (List Int × List (Int × Int × Unit) × List (Int × Int × Unit) × Unit)) (at' : Int) (t59 : Int) (o : List Int × List (Int × Int × Unit) × List (Int × Int × Unit) × Unit) (t562 : List Int × List (Int × Int) × List (Int × Int) × Unit) (t67 : Int) : St := ⟨fresh, [(0, AV.v ((Ty.int IntKind.u8).sl.pair (((Ty.int IntKind.i64).pair ((Ty.int IntKind.i64).pair Ty.unit)).sl.pair (((Ty.int IntKind.i64).pair ((Ty.int IntKind.i64).pair Ty.unit)).sl.pair Ty.unit))).sl (Md.bor true false) l'), (9, AV.pl 56 56 [Stp.dr]), (10, AV.v (Ty.int IntKind.i64) (Md.bor false true) at'), (11, AV.v (Ty.int IntKind.i64) (Md.bor false true) t59), (12, AV.box 12 500012 ((Ty.int IntKind.u8).sl.pair (((Ty.int IntKind.i64).pair ((Ty.int IntKind.i64).pair Ty.unit)).sl.pair (((Ty.int IntKind.i64).pair ((Ty.int IntKind.i64).pair Ty.unit)).sl.pair Ty.unit))) (Md.bor true false) o), (55, AV.dead), (56, AV.box 56 500056 ((Ty.int IntKind.i64).sl.pair (((Ty.int IntKind.i64).mp (Ty.int IntKind.i64)).pair (((Ty.int IntKind.i64).mp (Ty.int IntKind.i64)).pair Ty.unit))) ((Md.own false (Md.bor false false)).pair ((Md.own true (Md.bor false false)).pair ((Md.own true (Md.bor false false)).pair (Md.bor false false)))) t562), (57, AV.v ((Ty.int IntKind.u8).sl.pair (((Ty.int IntKind.i64).pair ((Ty.int IntKind.i64).pair Ty.unit)).sl.pair (((Ty.int IntKind.i64).pair ((Ty.int IntKind.i64).pair Ty.unit)).sl.pair Ty.unit))).sl (Md.bor true false) l'), (58, AV.v (Ty.int IntKind.i64) (Md.bor false true) (↑l'.length : Int)), (59, AV.v (Ty.int IntKind.i64) (Md.bor false true) t59), (64, AV.pl 12 12 [Stp.dr, Stp.fld 1]), (65, AV.v ((Ty.int IntKind.i64).pair ((Ty.int IntKind.i64).pair Ty.unit)).sl (Md.bor true false) (l'.getD t59.toNat ([], [], [], ())).snd.fst), (66, AV.v (Ty.int IntKind.i64) (Md.bor false true) (↑(List.length (l'.getD t59.toNat ([], [], [], ())).snd.fst) : Int)), (67, AV.v (Ty.int IntKind.i64) (Md.bor false true) t67)]⟩
theorem link_build_h6 (nf : Nat) (G4 : St → Option (Option (List Int × List (Int × Int) × List (Int × Int) × Unit) × Int × Unit)) (l' : List (List Int × List (Int × Int × Unit) × List (Int × Int × Unit) × Unit)) (at' : Int) (t59 : Int) (fu : Nat) (o : List Int × List (Int × Int × Unit) × List (Int × Int × Unit) × Unit) (t562 : List Int × List (Int × Int) × List (Int × Int) × Unit) (t67 : Int) : iter (fu + 1) (LC.F tab (link_build_phi nf) (fun _ F => iter nf F) link_build_keep 6 (link_build_L6 nf G4)) (link_build_m6 l' at' t59 o t562 t67) = link_build_b6 nf  l' at' t59 (fun at' t56 t59 => G4 (link_build_m4 l' at' t56 t59)) (fun o t562 t67 => iter fu (LC.F tab (link_build_phi nf) (fun _ F => iter nf F) link_build_keep 6 (link_build_L6 nf G4)) (link_build_m6 l' at' t59 o t562 t67)) o t562 t67 := by kernel_rfl
theorem link_build_e6 (nf : Nat) (G4 : St → Option (Option (List Int × List (Int × Int) × List (Int × Int) × Unit) × Int × Unit)) (l' : List (List Int × List (Int × Int × Unit) × List (Int × Int × Unit) × Unit)) (at' : Int) (t59 : Int) : ∀ (fu : Nat) (o : List Int × List (Int × Int × Unit) × List (Int × Int × Unit) × Unit) (t562 : List Int × List (Int × Int) × List (Int × Int) × Unit) (t67 : Int), iter fu (LC.F tab (link_build_phi nf) (fun _ F => iter nf F) link_build_keep 6 (link_build_L6 nf G4)) (link_build_m6 l' at' t59 o t562 t67) = link_build_l6 nf l' at' t59 (fun at' t56 t59 => G4 (link_build_m4 l' at' t56 t59)) fu o t562 t67 := by
  intro fu
  induction fu with
  | zero => intros; rfl
  | succ fu ih =>
    intro o t562 t67
    rw [link_build_h6 nf G4 l' at' t59 fu o t562 t67]
    simp only [ih]
    rfl
theorem link_build_h4 (nf : Nat)  (l' : List (List Int × List (Int × Int × Unit) × List (Int × Int × Unit) × Unit)) (fu : Nat) (at' : Int) (t56 : List Int × List (Int × Int) × List (Int × Int) × Unit) (t59 : Int) : iter (fu + 1) (LC.F tab (link_build_phi nf) (fun _ F => iter nf F) link_build_keep 4 (link_build_L4 nf )) (link_build_m4 l' at' t56 t59) = link_build_b4 nf (fun _ p1 p2 v0 v1 v2 => iter nf (LC.F tab (link_build_phi nf) (fun _ F => iter nf F) link_build_keep 6 (link_build_L6 nf (iter fu (LC.F tab (link_build_phi nf) (fun _ F => iter nf F) link_build_keep 4 (link_build_L4 nf ))))) (link_build_m6 l' p1 p2 v0 v1 v2)) l'  (fun at' t56 t59 => iter fu (LC.F tab (link_build_phi nf) (fun _ F => iter nf F) link_build_keep 4 (link_build_L4 nf )) (link_build_m4 l' at' t56 t59)) at' t56 t59 := by kernel_rfl
theorem link_build_e4 (nf : Nat)  (l' : List (List Int × List (Int × Int × Unit) × List (Int × Int × Unit) × Unit)) : ∀ (fu : Nat) (at' : Int) (t56 : List Int × List (Int × Int) × List (Int × Int) × Unit) (t59 : Int), iter fu (LC.F tab (link_build_phi nf) (fun _ F => iter nf F) link_build_keep 4 (link_build_L4 nf )) (link_build_m4 l' at' t56 t59) = link_build_l4 nf l'  fu at' t56 t59 := by
  intro fu
  induction fu with
  | zero => intros; rfl
  | succ fu ih =>
    intro at' t56 t59
    rw [link_build_h4 nf  l' fu at' t56 t59]
    simp only [ih, link_build_e6]
    rfl
theorem link_build_h2 (nf : Nat)  (l' : List (List Int × List (Int × Int × Unit) × List (Int × Int × Unit) × Unit)) (fu : Nat) (t43 : Int) : iter (fu + 1) (LC.F tab (link_build_phi nf) (fun _ F => iter nf F) link_build_keep 2 (link_build_L2 nf )) (link_build_m2 l' t43) = link_build_b2 nf (fun _ v0 v1 v2 => iter nf (LC.F tab (link_build_phi nf) (fun _ F => iter nf F) link_build_keep 4 (link_build_L4 nf )) (link_build_m4 l' v0 v1 v2)) l'  (fun t43 => iter fu (LC.F tab (link_build_phi nf) (fun _ F => iter nf F) link_build_keep 2 (link_build_L2 nf )) (link_build_m2 l' t43)) t43 := by kernel_rfl
theorem link_build_e2 (nf : Nat)  (l' : List (List Int × List (Int × Int × Unit) × List (Int × Int × Unit) × Unit)) : ∀ (fu : Nat) (t43 : Int), iter fu (LC.F tab (link_build_phi nf) (fun _ F => iter nf F) link_build_keep 2 (link_build_L2 nf )) (link_build_m2 l' t43) = link_build_l2 nf l'  fu t43 := by
  intro fu
  induction fu with
  | zero => intros; rfl
  | succ fu ih =>
    intro t43
    rw [link_build_h2 nf  l' fu t43]
    simp only [ih, link_build_e4]
    rfl
theorem link_build_h0 (nf : Nat)  (l' : List (List Int × List (Int × Int × Unit) × List (Int × Int × Unit) × Unit)) (fu : Nat) (t22 : Int) : iter (fu + 1) (LC.F tab (link_build_phi nf) (fun _ F => iter nf F) link_build_keep 0 (link_build_L0 nf )) (link_build_m0 l' t22) = link_build_b0 nf (fun _ v0 => iter nf (LC.F tab (link_build_phi nf) (fun _ F => iter nf F) link_build_keep 2 (link_build_L2 nf )) (link_build_m2 l' v0)) l'  (fun t22 => iter fu (LC.F tab (link_build_phi nf) (fun _ F => iter nf F) link_build_keep 0 (link_build_L0 nf )) (link_build_m0 l' t22)) t22 := by kernel_rfl
theorem link_build_e0 (nf : Nat)  (l' : List (List Int × List (Int × Int × Unit) × List (Int × Int × Unit) × Unit)) : ∀ (fu : Nat) (t22 : Int), iter fu (LC.F tab (link_build_phi nf) (fun _ F => iter nf F) link_build_keep 0 (link_build_L0 nf )) (link_build_m0 l' t22) = link_build_l0 nf l'  fu t22 := by
  intro fu
  induction fu with
  | zero => intros; rfl
  | succ fu ih =>
    intro t22
    rw [link_build_h0 nf  l' fu t22]
    simp only [ih, link_build_e2]
    rfl
theorem link_build_eq (nf : Nat) (l' : List (List Int × List (Int × Int × Unit) × List (Int × Int × Unit) × Unit)) : runF tab (link_build_phi nf) link_build_keep nf [PT.val ((Ty.int IntKind.u8).sl.pair (((Ty.int IntKind.i64).pair ((Ty.int IntKind.i64).pair Ty.unit)).sl.pair (((Ty.int IntKind.i64).pair ((Ty.int IntKind.i64).pair Ty.unit)).sl.pair Ty.unit))).sl (Md.bor true false)] [(((Ty.int IntKind.i64).sl.pair (((Ty.int IntKind.i64).mp (Ty.int IntKind.i64)).pair (((Ty.int IntKind.i64).mp (Ty.int IntKind.i64)).pair Ty.unit))).bx, Md.own false ((Md.own false (Md.bor false false)).pair ((Md.own true (Md.bor false false)).pair ((Md.own true (Md.bor false false)).pair (Md.bor false false))))), (Ty.int IntKind.i64, Md.bor false true)] (resL ([]) Try.f41) (codeOf Try.f41) ⟨l', ()⟩ = link_build_f nf l' := by
  have h : runF tab (link_build_phi nf) link_build_keep nf [PT.val ((Ty.int IntKind.u8).sl.pair (((Ty.int IntKind.i64).pair ((Ty.int IntKind.i64).pair Ty.unit)).sl.pair (((Ty.int IntKind.i64).pair ((Ty.int IntKind.i64).pair Ty.unit)).sl.pair Ty.unit))).sl (Md.bor true false)] [(((Ty.int IntKind.i64).sl.pair (((Ty.int IntKind.i64).mp (Ty.int IntKind.i64)).pair (((Ty.int IntKind.i64).mp (Ty.int IntKind.i64)).pair Ty.unit))).bx, Md.own false ((Md.own false (Md.bor false false)).pair ((Md.own true (Md.bor false false)).pair ((Md.own true (Md.bor false false)).pair (Md.bor false false))))), (Ty.int IntKind.i64, Md.bor false true)] (resL ([]) Try.f41) (codeOf Try.f41) ⟨l', ()⟩ = link_build_p nf (fun p0 v0 => iter nf (LC.F tab (link_build_phi nf) (fun _ F => iter nf F) link_build_keep 0 (link_build_L0 nf)) (link_build_m0 p0 v0)) l' := by kernel_rfl
  rw [h]
  simp only [link_build_e0]
  rfl
def link_build_F (nf : Nat) (x : denPs [.val (.sl (.pair (.sl (.int .u8)) (.pair (.sl (.pair (.int .i64) (.pair (.int .i64) (.unit)))) (.pair (.sl (.pair (.int .i64) (.pair (.int .i64) (.unit)))) (.unit))))) (.bor true false)]) : Option (denL [(.bx (.pair (.sl (.int .i64)) (.pair (.mp (.int .i64) (.int .i64)) (.pair (.mp (.int .i64) (.int .i64)) (.unit)))), .own false (.pair (.own false (.bor false false)) (.pair (.own true (.bor false false)) (.pair (.own true (.bor false false)) (.bor false false))))), (.int .i64, .bor false true)]) := link_build_f nf x.1
def link_build_C (nf : Nat) : Contract := ⟨[.val (.sl (.pair (.sl (.int .u8)) (.pair (.sl (.pair (.int .i64) (.pair (.int .i64) (.unit)))) (.pair (.sl (.pair (.int .i64) (.pair (.int .i64) (.unit)))) (.unit))))) (.bor true false)], [(.bx (.pair (.sl (.int .i64)) (.pair (.mp (.int .i64) (.int .i64)) (.pair (.mp (.int .i64) (.int .i64)) (.unit)))), .own false (.pair (.own false (.bor false false)) (.pair (.own true (.bor false false)) (.pair (.own true (.bor false false)) (.bor false false))))), (.int .i64, .bor false true)], link_build_F nf, []⟩
theorem link_build_ok : FnOK Try.prog 41 := ⟨Try.f41, codeOf Try.f41, Try.func41, by kernel_rfl, by kernel_rfl⟩
theorem link_build_holds (nf : Nat) : Contract.Holds Try.prog 41 (link_build_C nf) :=
  fn_holds (Φ := link_build_phi nf) (keep := link_build_keep) (n := nf) ⟨tabs.1, tabs.2, (ctx_cons link_places_ok (link_places_holds nf) ctx_nil), mixed, bk_ok bkls rfl⟩ (fn := Try.f41) ⟨Try.func41, by kernel_rfl, by kernel_rfl, by kernel_rfl⟩ (fun x => link_build_eq nf x.1)

/-! codemason link.Find -/
def link_Find_phi (nf : Nat) : Nat → Option Contract := lookC [(41, link_build_C nf)]
def link_Find_keep : Nat → List Nat := lookK []
def link_Find_p (nf : Nat)  (l' : List (List Int × List (Int × Int × Unit) × List (Int × Int × Unit) × Unit)) (name : Int) : Option (Int × Int × Unit) :=
  Option.bind (link_build_f nf l') fun r =>
  match r.fst with
  | none => bif r.snd.fst != 0 then
        some ((0, r.snd.fst, ()))
      else
        none
  | some r2 =>
  bif r.snd.fst != 0 then
    some ((0, r.snd.fst, ()))
  else
    bif !(getM (Ty.int IntKind.i64) (Ty.int IntKind.i64) r2.snd.snd.fst name).isSome then
      some ((0, 5, ()))
    else
      some (((getM (Ty.int IntKind.i64) (Ty.int IntKind.i64) r2.snd.snd.fst name).getD 0, 0, ()))
def link_Find_f (nf : Nat) (l' : List (List Int × List (Int × Int × Unit) × List (Int × Int × Unit) × Unit)) (name : Int) : Option (Int × Int × Unit) := link_Find_p nf  l' name
theorem link_Find_eq (nf : Nat) (l' : List (List Int × List (Int × Int × Unit) × List (Int × Int × Unit) × Unit)) (name : Int) : runF tab (link_Find_phi nf) link_Find_keep nf [PT.val ((Ty.int IntKind.u8).sl.pair (((Ty.int IntKind.i64).pair ((Ty.int IntKind.i64).pair Ty.unit)).sl.pair (((Ty.int IntKind.i64).pair ((Ty.int IntKind.i64).pair Ty.unit)).sl.pair Ty.unit))).sl (Md.bor true false), PT.val (Ty.int IntKind.i64) (Md.bor true false)] [(Ty.int IntKind.i64, Md.bor false true), (Ty.int IntKind.i64, Md.bor false true)] (resL ([]) Try.f13) (codeOf Try.f13) ⟨l', name, ()⟩ = link_Find_f nf l' name := by
  have h : runF tab (link_Find_phi nf) link_Find_keep nf [PT.val ((Ty.int IntKind.u8).sl.pair (((Ty.int IntKind.i64).pair ((Ty.int IntKind.i64).pair Ty.unit)).sl.pair (((Ty.int IntKind.i64).pair ((Ty.int IntKind.i64).pair Ty.unit)).sl.pair Ty.unit))).sl (Md.bor true false), PT.val (Ty.int IntKind.i64) (Md.bor true false)] [(Ty.int IntKind.i64, Md.bor false true), (Ty.int IntKind.i64, Md.bor false true)] (resL ([]) Try.f13) (codeOf Try.f13) ⟨l', name, ()⟩ = link_Find_p nf  l' name := by kernel_rfl
  exact h
def link_Find_F (nf : Nat) (x : denPs [.val (.sl (.pair (.sl (.int .u8)) (.pair (.sl (.pair (.int .i64) (.pair (.int .i64) (.unit)))) (.pair (.sl (.pair (.int .i64) (.pair (.int .i64) (.unit)))) (.unit))))) (.bor true false), .val (.int .i64) (.bor true false)]) : Option (denL [(.int .i64, .bor false true), (.int .i64, .bor false true)]) := link_Find_f nf x.1 x.2.1
def link_Find_C (nf : Nat) : Contract := ⟨[.val (.sl (.pair (.sl (.int .u8)) (.pair (.sl (.pair (.int .i64) (.pair (.int .i64) (.unit)))) (.pair (.sl (.pair (.int .i64) (.pair (.int .i64) (.unit)))) (.unit))))) (.bor true false), .val (.int .i64) (.bor true false)], [(.int .i64, .bor false true), (.int .i64, .bor false true)], link_Find_F nf, []⟩
theorem link_Find_ok : FnOK Try.prog 13 := ⟨Try.f13, codeOf Try.f13, Try.func13, by kernel_rfl, by kernel_rfl⟩
theorem link_Find_holds (nf : Nat) : Contract.Holds Try.prog 13 (link_Find_C nf) :=
  fn_holds (Φ := link_Find_phi nf) (keep := link_Find_keep) (n := nf) ⟨tabs.1, tabs.2, (ctx_cons link_build_ok (link_build_holds nf) ctx_nil), mixed, bk_ok bkls rfl⟩ (fn := Try.f13) ⟨Try.func13, by kernel_rfl, by kernel_rfl, by kernel_rfl⟩ (fun x => link_Find_eq nf x.1 x.2.1)

/-! codemason codemasonref.ObjectsCheck -/
def ref_ObjectsCheck_phi (nf : Nat) : Nat → Option Contract := lookC []
def ref_ObjectsCheck_keep : Nat → List Nat := lookK [(14, [0, 11, 12, 13, 14, 95, 97, 98, 99, 100, 101, 112, 114, 115, 116, 117, 118]), (12, [0, 11, 12, 13, 14, 95, 97, 98, 99, 100, 101]), (10, [0, 11, 95, 97, 98, 99, 100, 101]), (8, [0, 11]), (6, [0, 6, 43, 44, 45, 68, 69, 70, 71]), (4, [0, 6, 43, 44, 45, 49, 50, 51, 52]), (2, [0, 43, 44, 45]), (0, [0, 20, 21, 22])]
def ref_ObjectsCheck_b0 (nf : Nat) (l2 : List (List Int × List (Int × Int × Unit) × List (Int × Int × Unit) × Unit) → Int → Option (Int × Unit)) (l' : List (List Int × List (Int × Int × Unit) × List (Int × Int × Unit) × Unit)) (g0 : Int → Option (Int × Unit)) (t22 : Int) : Option (Int × Unit) :=
  bif decide (t22 < (↑l'.length : Int)) then
    bif inb t22 l'.length then
      bif decide ((↑(List.length (l'.getD t22.toNat ([], [], [], ())).fst) : Int) > 200) then
        some ((1, ()))
      else
        bif decide ((↑(List.length (l'.getD t22.toNat ([], [], [], ())).snd.fst) : Int) > 12) then
          some ((1, ()))
        else
          bif decide ((↑(List.length (l'.getD t22.toNat ([], [], [], ())).snd.snd.fst) : Int) > 12) then
            some ((1, ()))
          else
            g0 (IntKind.i64.wrap (t22 + 1))
    else
      none
  else
    l2 l' 0
def ref_ObjectsCheck_b2 (nf : Nat) (l4 : List (List Int × List (Int × Int × Unit) × List (Int × Int × Unit) × Unit) → Int → List Int × List (Int × Int × Unit) × List (Int × Int × Unit) × Unit → Int → Option (Int × Unit)) (l8 : List (List Int × List (Int × Int × Unit) × List (Int × Int × Unit) × Unit) → Int → Option (Int × Unit)) (l' : List (List Int × List (Int × Int × Unit) × List (Int × Int × Unit) × Unit)) (g2 : Int → Option (Int × Unit)) (t45 : Int) : Option (Int × Unit) :=
  bif decide (t45 < (↑l'.length : Int)) then
    bif inb t45 l'.length then
      l4 l' t45 (l'.getD t45.toNat ([], [], [], ())) 0
    else
      none
  else
    l8 l' 0
def ref_ObjectsCheck_b4 (nf : Nat) (l6 : List (List Int × List (Int × Int × Unit) × List (Int × Int × Unit) × Unit) → Int → List Int × List (Int × Int × Unit) × List (Int × Int × Unit) × Unit → List Int × List (Int × Int × Unit) × List (Int × Int × Unit) × Unit → Int → Option (Int × Unit)) (l' : List (List Int × List (Int × Int × Unit) × List (Int × Int × Unit) × Unit)) (t45 : Int) (g2 : Int → Option (Int × Unit)) (g4 : List Int × List (Int × Int × Unit) × List (Int × Int × Unit) × Unit → Int → Option (Int × Unit)) (o : List Int × List (Int × Int × Unit) × List (Int × Int × Unit) × Unit) (t52 : Int) : Option (Int × Unit) :=
  bif decide (t52 < (↑(List.length (l'.getD t45.toNat ([], [], [], ())).snd.fst) : Int)) then
    bif inb t52 (List.length (l'.getD t45.toNat ([], [], [], ())).snd.fst) then
      bif decide ((List.getD (l'.getD t45.toNat ([], [], [], ())).snd.fst t52.toNat (0, 0, ())).snd.fst < 0) then
        some ((4, ()))
      else
        bif decide ((List.getD (l'.getD t45.toNat ([], [], [], ())).snd.fst t52.toNat (0, 0, ())).snd.fst > (↑(List.length o.fst) : Int)) then
          some ((4, ()))
        else
          g4 o (IntKind.i64.wrap (t52 + 1))
    else
      none
  else
    l6 l' t45 o o 0
def ref_ObjectsCheck_b6 (nf : Nat) (l' : List (List Int × List (Int × Int × Unit) × List (Int × Int × Unit) × Unit)) (t45 : Int) (o : List Int × List (Int × Int × Unit) × List (Int × Int × Unit) × Unit) (g2 : Int → Option (Int × Unit)) (g6 : List Int × List (Int × Int × Unit) × List (Int × Int × Unit) × Unit → Int → Option (Int × Unit)) (o2 : List Int × List (Int × Int × Unit) × List (Int × Int × Unit) × Unit) (t71 : Int) : Option (Int × Unit) :=
  bif decide (t71 < (↑(List.length o.snd.snd.fst) : Int)) then
    bif inb t71 (List.length o.snd.snd.fst) then
      bif decide ((List.getD o.snd.snd.fst t71.toNat (0, 0, ())).snd.fst < 0) then
        some ((4, ()))
      else
        bif decide ((List.getD o.snd.snd.fst t71.toNat (0, 0, ())).snd.fst > IntKind.i64.wrap ((↑(List.length o2.fst) : Int) - 2)) then
          some ((4, ()))
        else
          g6 o2 (IntKind.i64.wrap (t71 + 1))
    else
      none
  else
    g2 (IntKind.i64.wrap (t45 + 1))
def ref_ObjectsCheck_b8 (nf : Nat) (l10 : List (List Int × List (Int × Int × Unit) × List (Int × Int × Unit) × Unit) → Int → Int → Option (Int × Unit)) (l' : List (List Int × List (Int × Int × Unit) × List (Int × Int × Unit) × Unit)) (g8 : Int → Option (Int × Unit)) (i : Int) : Option (Int × Unit) :=
  bif decide (i < (↑l'.length : Int)) then
    bif inb i l'.length then
      l10 l' i 0
    else
      none
  else
    some ((0, ()))
def ref_ObjectsCheck_b10 (nf : Nat) (l12 : List (List Int × List (Int × Int × Unit) × List (Int × Int × Unit) × Unit) → Int → Int → Int × Int × Unit → Int → Option (Int × Unit)) (l' : List (List Int × List (Int × Int × Unit) × List (Int × Int × Unit) × Unit)) (i : Int) (g8 : Int → Option (Int × Unit)) (g10 : Int → Option (Int × Unit)) (t101 : Int) : Option (Int × Unit) :=
  bif decide (t101 < (↑(List.length (l'.getD i.toNat ([], [], [], ())).snd.fst) : Int)) then
    bif inb t101 (List.length (l'.getD i.toNat ([], [], [], ())).snd.fst) then
      l12 l' i t101 (List.getD (l'.getD i.toNat ([], [], [], ())).snd.fst t101.toNat (0, 0, ())) 0
    else
      none
  else
    g8 (IntKind.i64.wrap (i + 1))
def ref_ObjectsCheck_b12 (nf : Nat) (l14 : List (List Int × List (Int × Int × Unit) × List (Int × Int × Unit) × Unit) → Int → Int → Int → Int × Int × Unit → Int → Option (Int × Unit)) (l' : List (List Int × List (Int × Int × Unit) × List (Int × Int × Unit) × Unit)) (i : Int) (t101 : Int) (g10 : Int → Option (Int × Unit)) (g8 : Int → Option (Int × Unit)) (g12 : Int × Int × Unit → Int → Option (Int × Unit)) (h' : Int × Int × Unit) (j : Int) : Option (Int × Unit) :=
  bif decide (j < (↑l'.length : Int)) then
    bif inb j l'.length then
      l14 l' i t101 j h' 0
    else
      none
  else
    g10 (IntKind.i64.wrap (t101 + 1))
def ref_ObjectsCheck_b14 (nf : Nat) (l' : List (List Int × List (Int × Int × Unit) × List (Int × Int × Unit) × Unit)) (i : Int) (t101 : Int) (j : Int) (g12 : Int × Int × Unit → Int → Option (Int × Unit)) (g10 : Int → Option (Int × Unit)) (g8 : Int → Option (Int × Unit)) (g14 : Int × Int × Unit → Int → Option (Int × Unit)) (h'2 : Int × Int × Unit) (t118 : Int) : Option (Int × Unit) :=
  bif decide (t118 < (↑(List.length (l'.getD j.toNat ([], [], [], ())).snd.fst) : Int)) then
    bif inb t118 (List.length (l'.getD j.toNat ([], [], [], ())).snd.fst) then
      bif i != j then
        bif h'2.fst == (List.getD (l'.getD j.toNat ([], [], [], ())).snd.fst t118.toNat (0, 0, ())).fst then
          some ((3, ()))
        else
          g14 h'2 (IntKind.i64.wrap (t118 + 1))
      else
        bif t101 != t118 then
          bif h'2.fst == (List.getD (l'.getD j.toNat ([], [], [], ())).snd.fst t118.toNat (0, 0, ())).fst then
            some ((3, ()))
          else
            g14 h'2 (IntKind.i64.wrap (t118 + 1))
        else
          g14 h'2 (IntKind.i64.wrap (t118 + 1))
    else
      none
  else
    g12 h'2 (IntKind.i64.wrap (j + 1))
def ref_ObjectsCheck_p (nf : Nat) (l0 : List (List Int × List (Int × Int × Unit) × List (Int × Int × Unit) × Unit) → Int → Option (Int × Unit)) (l' : List (List Int × List (Int × Int × Unit) × List (Int × Int × Unit) × Unit)) : Option (Int × Unit) :=
  bif decide ((↑l'.length : Int) > 5) then
    some ((1, ()))
  else
    l0 l' 0
def ref_ObjectsCheck_l14 (nf : Nat) (l' : List (List Int × List (Int × Int × Unit) × List (Int × Int × Unit) × Unit)) (i : Int) (t101 : Int) (j : Int) (g12 : Int × Int × Unit → Int → Option (Int × Unit)) (g10 : Int → Option (Int × Unit)) (g8 : Int → Option (Int × Unit)) : Nat → Int × Int × Unit → Int → Option (Int × Unit)
  | 0, _, _ => none
  | fu + 1, h'2, t118 => ref_ObjectsCheck_b14 nf  l' i t101 j g12 g10 g8 (ref_ObjectsCheck_l14 nf l' i t101 j g12 g10 g8 fu) h'2 t118
def ref_ObjectsCheck_l12 (nf : Nat) (l' : List (List Int × List (Int × Int × Unit) × List (Int × Int × Unit) × Unit)) (i : Int) (t101 : Int) (g10 : Int → Option (Int × Unit)) (g8 : Int → Option (Int × Unit)) : Nat → Int × Int × Unit → Int → Option (Int × Unit)
  | 0, _, _ => none
  | fu + 1, h', j => ref_ObjectsCheck_b12 nf (fun _ _ _ p3 v0 v1 => ref_ObjectsCheck_l14 nf l' i t101 p3 (fun h' j => ref_ObjectsCheck_l12 nf l' i t101 g10 g8 fu h' j) g10 g8 nf v0 v1) l' i t101 g10 g8 (ref_ObjectsCheck_l12 nf l' i t101 g10 g8 fu) h' j
def ref_ObjectsCheck_l10 (nf : Nat) (l' : List (List Int × List (Int × Int × Unit) × List (Int × Int × Unit) × Unit)) (i : Int) (g8 : Int → Option (Int × Unit)) : Nat → Int → Option (Int × Unit)
  | 0, _ => none
  | fu + 1, t101 => ref_ObjectsCheck_b10 nf (fun _ _ p2 v0 v1 => ref_ObjectsCheck_l12 nf l' i p2 (fun t101 => ref_ObjectsCheck_l10 nf l' i g8 fu t101) g8 nf v0 v1) l' i g8 (ref_ObjectsCheck_l10 nf l' i g8 fu) t101
def ref_ObjectsCheck_l8 (nf : Nat) (l' : List (List Int × List (Int × Int × Unit) × List (Int × Int × Unit) × Unit)) : Nat → Int → Option (Int × Unit)
  | 0, _ => none
  | fu + 1, i => ref_ObjectsCheck_b8 nf (fun _ p1 v0 => ref_ObjectsCheck_l10 nf l' p1 (fun i => ref_ObjectsCheck_l8 nf l'  fu i) nf v0) l'  (ref_ObjectsCheck_l8 nf l'  fu) i
def ref_ObjectsCheck_l6 (nf : Nat) (l' : List (List Int × List (Int × Int × Unit) × List (Int × Int × Unit) × Unit)) (t45 : Int) (o : List Int × List (Int × Int × Unit) × List (Int × Int × Unit) × Unit) (g2 : Int → Option (Int × Unit)) : Nat → List Int × List (Int × Int × Unit) × List (Int × Int × Unit) × Unit → Int → Option (Int × Unit)
  | 0, _, _ => none
  | fu + 1, o2, t71 => ref_ObjectsCheck_b6 nf  l' t45 o g2 (ref_ObjectsCheck_l6 nf l' t45 o g2 fu) o2 t71
def ref_ObjectsCheck_l4 (nf : Nat) (l' : List (List Int × List (Int × Int × Unit) × List (Int × Int × Unit) × Unit)) (t45 : Int) (g2 : Int → Option (Int × Unit)) : Nat → List Int × List (Int × Int × Unit) × List (Int × Int × Unit) × Unit → Int → Option (Int × Unit)
  | 0, _, _ => none
  | fu + 1, o, t52 => ref_ObjectsCheck_b4 nf (fun _ _ p2 v0 v1 => ref_ObjectsCheck_l6 nf l' t45 p2 g2 nf v0 v1) l' t45 g2 (ref_ObjectsCheck_l4 nf l' t45 g2 fu) o t52
def ref_ObjectsCheck_l2 (nf : Nat) (l' : List (List Int × List (Int × Int × Unit) × List (Int × Int × Unit) × Unit)) : Nat → Int → Option (Int × Unit)
  | 0, _ => none
  | fu + 1, t45 => ref_ObjectsCheck_b2 nf (fun _ p1 v0 v1 => ref_ObjectsCheck_l4 nf l' p1 (fun t45 => ref_ObjectsCheck_l2 nf l'  fu t45) nf v0 v1) (fun _ v0 => ref_ObjectsCheck_l8 nf l'  nf v0) l'  (ref_ObjectsCheck_l2 nf l'  fu) t45
def ref_ObjectsCheck_l0 (nf : Nat) (l' : List (List Int × List (Int × Int × Unit) × List (Int × Int × Unit) × Unit)) : Nat → Int → Option (Int × Unit)
  | 0, _ => none
  | fu + 1, t22 => ref_ObjectsCheck_b0 nf (fun _ v0 => ref_ObjectsCheck_l2 nf l'  nf v0) l'  (ref_ObjectsCheck_l0 nf l'  fu) t22
def ref_ObjectsCheck_f (nf : Nat) (l' : List (List Int × List (Int × Int × Unit) × List (Int × Int × Unit) × Unit)) : Option (Int × Unit) := ref_ObjectsCheck_p nf (fun p0 v0 => ref_ObjectsCheck_l0 nf p0 nf v0) l'
noncomputable def ref_ObjectsCheck_L0 (nf : Nat) : LC (Int × Unit) := theL (findL tab (ref_ObjectsCheck_phi nf) (fun _ F => iter nf F) ref_ObjectsCheck_keep 0 0 (codeOf Try.f14) (fin tab [(Ty.int IntKind.i64, Md.bor false true)] (resL ([]) Try.f14)) (fun _ _ => none) (fin tab [(Ty.int IntKind.i64, Md.bor false true)] (resL ([]) Try.f14)))
def ref_ObjectsCheck_m0 (l' : List (List Int × List (Int × Int × Unit) × List (Int × Int × Unit) × Unit)) (t22 : Int) : St := ⟨fresh, [(0, AV.v ((Ty.int IntKind.u8).sl.pair (((Ty.int IntKind.i64).pair ((Ty.int IntKind.i64).pair Ty.unit)).sl.pair (((Ty.int IntKind.i64).pair ((Ty.int IntKind.i64).pair Ty.unit)).sl.pair Ty.unit))).sl (Md.bor true false) l'), (20, AV.v ((Ty.int IntKind.u8).sl.pair (((Ty.int IntKind.i64).pair ((Ty.int IntKind.i64).pair Ty.unit)).sl.pair (((Ty.int IntKind.i64).pair ((Ty.int IntKind.i64).pair Ty.unit)).sl.pair Ty.unit))).sl (Md.bor true false) l'), (21, AV.v (Ty.int IntKind.i64) (Md.bor false true) (↑l'.length : Int)), (22, AV.v (Ty.int IntKind.i64) (Md.bor false true) t22)]⟩
noncomputable def ref_ObjectsCheck_L2 (nf : Nat) : LC (Int × Unit) := theL (findL tab (ref_ObjectsCheck_phi nf) (fun _ F => iter nf F) ref_ObjectsCheck_keep 2 0 (codeOf Try.f14) (fin tab [(Ty.int IntKind.i64, Md.bor false true)] (resL ([]) Try.f14)) (fun _ _ => none) (fin tab [(Ty.int IntKind.i64, Md.bor false true)] (resL ([]) Try.f14)))
def ref_ObjectsCheck_m2 (l' : List (List Int × List (Int × Int × Unit) × List (Int × Int × Unit) × Unit)) (t45 : Int) : St := ⟨fresh, [(0, AV.v ((Ty.int IntKind.u8).sl.pair (((Ty.int IntKind.i64).pair ((Ty.int IntKind.i64).pair Ty.unit)).sl.pair (((Ty.int IntKind.i64).pair ((Ty.int IntKind.i64).pair Ty.unit)).sl.pair Ty.unit))).sl (Md.bor true false) l'), (43, AV.v ((Ty.int IntKind.u8).sl.pair (((Ty.int IntKind.i64).pair ((Ty.int IntKind.i64).pair Ty.unit)).sl.pair (((Ty.int IntKind.i64).pair ((Ty.int IntKind.i64).pair Ty.unit)).sl.pair Ty.unit))).sl (Md.bor true false) l'), (44, AV.v (Ty.int IntKind.i64) (Md.bor false true) (↑l'.length : Int)), (45, AV.v (Ty.int IntKind.i64) (Md.bor false true) t45)]⟩
noncomputable def ref_ObjectsCheck_L4 (nf : Nat) (G2 : St → Option (Int × Unit)) : LC (Int × Unit) := theL (findL tab (ref_ObjectsCheck_phi nf) (fun _ F => iter nf F) ref_ObjectsCheck_keep 4 2 (ref_ObjectsCheck_L2 nf ).c (fun st => norm (ref_ObjectsCheck_keep 2) st G2) (ref_ObjectsCheck_L2 nf ).Kx (ref_ObjectsCheck_L2 nf ).Kr)
def ref_ObjectsCheck_m4 (l' : List (List Int × List (Int × Int × Unit) × List (Int × Int × Unit) × Unit)) (t45 : Int) (o : List Int × List (Int × Int × Unit) × List (Int × Int × Unit) × Unit) (t52 : Int) : St := ⟨fresh, [(0, AV.v ((Ty.int IntKind.u8).sl.pair (((Ty.int IntKind.i64).pair ((Ty.int IntKind.i64).pair Ty.unit)).sl.pair (((Ty.int IntKind.i64).pair ((Ty.int IntKind.i64).pair Ty.unit)).sl.pair Ty.unit))).sl (Md.bor true false) l'), (6, AV.box 6 500006 ((Ty.int IntKind.u8).sl.pair (((Ty.int IntKind.i64).pair ((Ty.int IntKind.i64).pair Ty.unit)).sl.pair (((Ty.int IntKind.i64).pair ((Ty.int IntKind.i64).pair Ty.unit)).sl.pair Ty.unit))) (Md.bor true false) o), (43, AV.v ((Ty.int IntKind.u8).sl.pair (((Ty.int IntKind.i64).pair ((Ty.int IntKind.i64).pair Ty.unit)).sl.pair (((Ty.int IntKind.i64).pair ((Ty.int IntKind.i64).pair Ty.unit)).sl.pair Ty.unit))).sl (Md.bor true false) l'), (44, AV.v (Ty.int IntKind.i64) (Md.bor false true) (↑l'.length : Int)), (45, AV.v (Ty.int IntKind.i64) (Md.bor false true) t45), (49, AV.pl 6 6 [Stp.dr, Stp.fld 1]), (50, AV.v ((Ty.int IntKind.i64).pair ((Ty.int IntKind.i64).pair Ty.unit)).sl (Md.bor true false) (l'.getD t45.toNat ([], [], [], ())).snd.fst), (51, AV.v (Ty.int IntKind.i64) (Md.bor false true) (↑(List.length (l'.getD t45.toNat ([], [], [], ())).snd.fst) : Int)), (52, AV.v (Ty.int IntKind.i64) (Md.bor false true) t52)]⟩
noncomputable def ref_ObjectsCheck_L6 (nf : Nat) (G2 : St → Option (Int × Unit)) : LC (Int × Unit) := theL (findL tab (ref_ObjectsCheck_phi nf) (fun _ F => iter nf F) ref_ObjectsCheck_keep 6 2 (ref_ObjectsCheck_L2 nf ).c (fun st => norm (ref_ObjectsCheck_keep 2) st G2) (ref_ObjectsCheck_L2 nf ).Kx (ref_ObjectsCheck_L2 nf ).Kr)
def ref_ObjectsCheck_m6 (l' : List (List Int × List (Int × Int × Unit) × List (Int × Int × Unit) × Unit)) (t45 : Int) (o : List Int × List (Int × Int × Unit) × List (Int × Int × Unit) × Unit) (o2 : List Int × List (Int × Int × Unit) × List (Int × Int × Unit) × Unit) (t71 : Int) : St := ⟨fresh, [(0, AV.v ((Ty.int IntKind.u8).sl.pair (((Ty.int IntKind.i64).pair ((Ty.int IntKind.i64).pair Ty.unit)).sl.pair (((Ty.int IntKind.i64).pair ((Ty.int IntKind.i64).pair Ty.unit)).sl.pair Ty.unit))).sl (Md.bor true false) l'), (6, AV.box 6 500006 ((Ty.int IntKind.u8).sl.pair (((Ty.int IntKind.i64).pair ((Ty.int IntKind.i64).pair Ty.unit)).sl.pair (((Ty.int IntKind.i64).pair ((Ty.int IntKind.i64).pair Ty.unit)).sl.pair Ty.unit))) (Md.bor true false) o2), (43, AV.v ((Ty.int IntKind.u8).sl.pair (((Ty.int IntKind.i64).pair ((Ty.int IntKind.i64).pair Ty.unit)).sl.pair (((Ty.int IntKind.i64).pair ((Ty.int IntKind.i64).pair Ty.unit)).sl.pair Ty.unit))).sl (Md.bor true false) l'), (44, AV.v (Ty.int IntKind.i64) (Md.bor false true) (↑l'.length : Int)), (45, AV.v (Ty.int IntKind.i64) (Md.bor false true) t45), (68, AV.pl 6 6 [Stp.dr, Stp.fld 2]), (69, AV.v ((Ty.int IntKind.i64).pair ((Ty.int IntKind.i64).pair Ty.unit)).sl (Md.bor true false) o.snd.snd.fst), (70, AV.v (Ty.int IntKind.i64) (Md.bor false true) (↑(List.length o.snd.snd.fst) : Int)), (71, AV.v (Ty.int IntKind.i64) (Md.bor false true) t71)]⟩
noncomputable def ref_ObjectsCheck_L8 (nf : Nat) : LC (Int × Unit) := theL (findL tab (ref_ObjectsCheck_phi nf) (fun _ F => iter nf F) ref_ObjectsCheck_keep 8 0 (codeOf Try.f14) (fin tab [(Ty.int IntKind.i64, Md.bor false true)] (resL ([]) Try.f14)) (fun _ _ => none) (fin tab [(Ty.int IntKind.i64, Md.bor false true)] (resL ([]) Try.f14)))
def ref_ObjectsCheck_m8 (l' : List (List Int × List (Int × Int × Unit) × List (Int × Int × Unit) × Unit)) (i : Int) : St := ⟨fresh, [(0, AV.v ((Ty.int IntKind.u8).sl.pair (((Ty.int IntKind.i64).pair ((Ty.int IntKind.i64).pair Ty.unit)).sl.pair (((Ty.int IntKind.i64).pair ((Ty.int IntKind.i64).pair Ty.unit)).sl.pair Ty.unit))).sl (Md.bor true false) l'), (11, AV.v (Ty.int IntKind.i64) (Md.bor false true) i)]⟩
noncomputable def ref_ObjectsCheck_L10 (nf : Nat) (G8 : St → Option (Int × Unit)) : LC (Int × Unit) := theL (findL tab (ref_ObjectsCheck_phi nf) (fun _ F => iter nf F) ref_ObjectsCheck_keep 10 8 (ref_ObjectsCheck_L8 nf ).c (fun st => norm (ref_ObjectsCheck_keep 8) st G8) (ref_ObjectsCheck_L8 nf ).Kx (ref_ObjectsCheck_L8 nf ).Kr)
def ref_ObjectsCheck_m10 (l' : List (List Int × List (Int × Int × Unit) × List (Int × Int × Unit) × Unit)) (i : Int) (t101 : Int) : St := ⟨fresh, [(0, AV.v ((Ty.int IntKind.u8).sl.pair (((Ty.int IntKind.i64).pair ((Ty.int IntKind.i64).pair Ty.unit)).sl.pair (((Ty.int IntKind.i64).pair ((Ty.int IntKind.i64).pair Ty.unit)).sl.pair Ty.unit))).sl (Md.bor true false) l'), (11, AV.v (Ty.int IntKind.i64) (Md.bor false true) i), (95, AV.v ((Ty.int IntKind.u8).sl.pair (((Ty.int IntKind.i64).pair ((Ty.int IntKind.i64).pair Ty.unit)).sl.pair (((Ty.int IntKind.i64).pair ((Ty.int IntKind.i64).pair Ty.unit)).sl.pair Ty.unit))).sl (Md.bor true false) l'), (97, AV.rop ((Ty.int IntKind.u8).sl.pair (((Ty.int IntKind.i64).pair ((Ty.int IntKind.i64).pair Ty.unit)).sl.pair (((Ty.int IntKind.i64).pair ((Ty.int IntKind.i64).pair Ty.unit)).sl.pair Ty.unit))) (Md.bor true false) (l'.getD i.toNat ([], [], [], ()))), (98, AV.rop ((Ty.int IntKind.i64).pair ((Ty.int IntKind.i64).pair Ty.unit)).sl (Md.bor true false) (l'.getD i.toNat ([], [], [], ())).snd.fst), (99, AV.v ((Ty.int IntKind.i64).pair ((Ty.int IntKind.i64).pair Ty.unit)).sl (Md.bor true false) (l'.getD i.toNat ([], [], [], ())).snd.fst), (100, AV.v (Ty.int IntKind.i64) (Md.bor false true) (↑(List.length (l'.getD i.toNat ([], [], [], ())).snd.fst) : Int)), (101, AV.v (Ty.int IntKind.i64) (Md.bor false true) t101)]⟩
noncomputable def ref_ObjectsCheck_L12 (nf : Nat) (G8 : St → Option (Int × Unit)) (G10 : St → Option (Int × Unit)) : LC (Int × Unit) := theL (findL tab (ref_ObjectsCheck_phi nf) (fun _ F => iter nf F) ref_ObjectsCheck_keep 12 10 (ref_ObjectsCheck_L10 nf G8).c (fun st => norm (ref_ObjectsCheck_keep 10) st G10) (ref_ObjectsCheck_L10 nf G8).Kx (ref_ObjectsCheck_L10 nf G8).Kr)
def ref_ObjectsCheck_m12 (l' : List (List Int × List (Int × Int × Unit) × List (Int × Int × Unit) × Unit)) (i : Int) (t101 : Int) (h' : Int × Int × Unit) (j : Int) : St := ⟨fresh, [(0, AV.v ((Ty.int IntKind.u8).sl.pair (((Ty.int IntKind.i64).pair ((Ty.int IntKind.i64).pair Ty.unit)).sl.pair (((Ty.int IntKind.i64).pair ((Ty.int IntKind.i64).pair Ty.unit)).sl.pair Ty.unit))).sl (Md.bor true false) l'), (11, AV.v (Ty.int IntKind.i64) (Md.bor false true) i), (12, AV.v (Ty.int IntKind.i64) (Md.bor false true) t101), (13, AV.box 13 500013 ((Ty.int IntKind.i64).pair ((Ty.int IntKind.i64).pair Ty.unit)) (Md.bor true false) h'), (14, AV.v (Ty.int IntKind.i64) (Md.bor false true) j), (95, AV.v ((Ty.int IntKind.u8).sl.pair (((Ty.int IntKind.i64).pair ((Ty.int IntKind.i64).pair Ty.unit)).sl.pair (((Ty.int IntKind.i64).pair ((Ty.int IntKind.i64).pair Ty.unit)).sl.pair Ty.unit))).sl (Md.bor true false) l'), (97, AV.rop ((Ty.int IntKind.u8).sl.pair (((Ty.int IntKind.i64).pair ((Ty.int IntKind.i64).pair Ty.unit)).sl.pair (((Ty.int IntKind.i64).pair ((Ty.int IntKind.i64).pair Ty.unit)).sl.pair Ty.unit))) (Md.bor true false) (l'.getD i.toNat ([], [], [], ()))), (98, AV.rop ((Ty.int IntKind.i64).pair ((Ty.int IntKind.i64).pair Ty.unit)).sl (Md.bor true false) (l'.getD i.toNat ([], [], [], ())).snd.fst), (99, AV.v ((Ty.int IntKind.i64).pair ((Ty.int IntKind.i64).pair Ty.unit)).sl (Md.bor true false) (l'.getD i.toNat ([], [], [], ())).snd.fst), (100, AV.v (Ty.int IntKind.i64) (Md.bor false true) (↑(List.length (l'.getD i.toNat ([], [], [], ())).snd.fst) : Int)), (101, AV.v (Ty.int IntKind.i64) (Md.bor false true) t101)]⟩
noncomputable def ref_ObjectsCheck_L14 (nf : Nat) (G8 : St → Option (Int × Unit)) (G10 : St → Option (Int × Unit)) (G12 : St → Option (Int × Unit)) : LC (Int × Unit) := theL (findL tab (ref_ObjectsCheck_phi nf) (fun _ F => iter nf F) ref_ObjectsCheck_keep 14 12 (ref_ObjectsCheck_L12 nf G8 G10).c (fun st => norm (ref_ObjectsCheck_keep 12) st G12) (ref_ObjectsCheck_L12 nf G8 G10).Kx (ref_ObjectsCheck_L12 nf G8 G10).Kr)
def ref_ObjectsCheck_m14 (l' : List (List Int × List (Int × Int × Unit) × List (Int × Int × Unit) × Unit)) (i : Int) (t101 : Int) (j : Int) (h'2 : Int × Int × Unit) (t118 : Int) : St := ⟨fresh, [(0, AV.v ((Ty.int IntKind.u8).sl.pair (((Ty.int IntKind.i64).pair ((Ty.int IntKind.i64).pair Ty.unit)).sl.pair (((Ty.int IntKind.i64).pair ((Ty.int IntKind.i64).pair Ty.unit)).sl.pair Ty.unit))).sl (Md.bor true false) l'), (11, AV.v (Ty.int IntKind.i64) (Md.bor false true) i), (12, AV.v (Ty.int IntKind.i64) (Md.bor false true) t101), (13, AV.box 13 500013 ((Ty.int IntKind.i64).pair ((Ty.int IntKind.i64).pair Ty.unit)) (Md.bor true false) h'2), (14, AV.v (Ty.int IntKind.i64) (Md.bor false true) j), (95, AV.v ((Ty.int IntKind.u8).sl.pair (((Ty.int IntKind.i64).pair ((Ty.int IntKind.i64).pair Ty.unit)).sl.pair (((Ty.int IntKind.i64).pair ((Ty.int IntKind.i64).pair Ty.unit)).sl.pair Ty.unit))).sl (Md.bor true false) l'), (97, AV.rop ((Ty.int IntKind.u8).sl.pair (((Ty.int IntKind.i64).pair ((Ty.int IntKind.i64).pair Ty.unit)).sl.pair (((Ty.int IntKind.i64).pair ((Ty.int IntKind.i64).pair Ty.unit)).sl.pair Ty.unit))) (Md.bor true false) (l'.getD i.toNat ([], [], [], ()))), (98, AV.rop ((Ty.int IntKind.i64).pair ((Ty.int IntKind.i64).pair Ty.unit)).sl (Md.bor true false) (l'.getD i.toNat ([], [], [], ())).snd.fst), (99, AV.v ((Ty.int IntKind.i64).pair ((Ty.int IntKind.i64).pair Ty.unit)).sl (Md.bor true false) (l'.getD i.toNat ([], [], [], ())).snd.fst), (100, AV.v (Ty.int IntKind.i64) (Md.bor false true) (↑(List.length (l'.getD i.toNat ([], [], [], ())).snd.fst) : Int)), (101, AV.v (Ty.int IntKind.i64) (Md.bor false true) t101), (112, AV.v ((Ty.int IntKind.u8).sl.pair (((Ty.int IntKind.i64).pair ((Ty.int IntKind.i64).pair Ty.unit)).sl.pair (((Ty.int IntKind.i64).pair ((Ty.int IntKind.i64).pair Ty.unit)).sl.pair Ty.unit))).sl (Md.bor true false) l'), (114, AV.rop ((Ty.int IntKind.u8).sl.pair (((Ty.int IntKind.i64).pair ((Ty.int IntKind.i64).pair Ty.unit)).sl.pair (((Ty.int IntKind.i64).pair ((Ty.int IntKind.i64).pair Ty.unit)).sl.pair Ty.unit))) (Md.bor true false) (l'.getD j.toNat ([], [], [], ()))), (115, AV.rop ((Ty.int IntKind.i64).pair ((Ty.int IntKind.i64).pair Ty.unit)).sl (Md.bor true false) (l'.getD j.toNat ([], [], [], ())).snd.fst), (116, AV.v ((Ty.int IntKind.i64).pair ((Ty.int IntKind.i64).pair Ty.unit)).sl (Md.bor true false) (l'.getD j.toNat ([], [], [], ())).snd.fst), (117, AV.v (Ty.int IntKind.i64) (Md.bor false true) (↑(List.length (l'.getD j.toNat ([], [], [], ())).snd.fst) : Int)), (118, AV.v (Ty.int IntKind.i64) (Md.bor false true) t118)]⟩
theorem ref_ObjectsCheck_h14 (nf : Nat) (G8 : St → Option (Int × Unit)) (G10 : St → Option (Int × Unit)) (G12 : St → Option (Int × Unit)) (l' : List (List Int × List (Int × Int × Unit) × List (Int × Int × Unit) × Unit)) (i : Int) (t101 : Int) (j : Int) (fu : Nat) (h'2 : Int × Int × Unit) (t118 : Int) : iter (fu + 1) (LC.F tab (ref_ObjectsCheck_phi nf) (fun _ F => iter nf F) ref_ObjectsCheck_keep 14 (ref_ObjectsCheck_L14 nf G8 G10 G12)) (ref_ObjectsCheck_m14 l' i t101 j h'2 t118) = ref_ObjectsCheck_b14 nf  l' i t101 j (fun h' j => G12 (ref_ObjectsCheck_m12 l' i t101 h' j)) (fun t101 => G10 (ref_ObjectsCheck_m10 l' i t101)) (fun i => G8 (ref_ObjectsCheck_m8 l' i)) (fun h'2 t118 => iter fu (LC.F tab (ref_ObjectsCheck_phi nf) (fun _ F => iter nf F) ref_ObjectsCheck_keep 14 (ref_ObjectsCheck_L14 nf G8 G10 G12)) (ref_ObjectsCheck_m14 l' i t101 j h'2 t118)) h'2 t118 := by kernel_rfl
theorem ref_ObjectsCheck_e14 (nf : Nat) (G8 : St → Option (Int × Unit)) (G10 : St → Option (Int × Unit)) (G12 : St → Option (Int × Unit)) (l' : List (List Int × List (Int × Int × Unit) × List (Int × Int × Unit) × Unit)) (i : Int) (t101 : Int) (j : Int) : ∀ (fu : Nat) (h'2 : Int × Int × Unit) (t118 : Int), iter fu (LC.F tab (ref_ObjectsCheck_phi nf) (fun _ F => iter nf F) ref_ObjectsCheck_keep 14 (ref_ObjectsCheck_L14 nf G8 G10 G12)) (ref_ObjectsCheck_m14 l' i t101 j h'2 t118) = ref_ObjectsCheck_l14 nf l' i t101 j (fun h' j => G12 (ref_ObjectsCheck_m12 l' i t101 h' j)) (fun t101 => G10 (ref_ObjectsCheck_m10 l' i t101)) (fun i => G8 (ref_ObjectsCheck_m8 l' i)) fu h'2 t118 := by
  intro fu
  induction fu with
  | zero => intros; rfl
  | succ fu ih =>
    intro h'2 t118
    rw [ref_ObjectsCheck_h14 nf G8 G10 G12 l' i t101 j fu h'2 t118]
    simp only [ih]
    rfl
theorem ref_ObjectsCheck_h12 (nf : Nat) (G8 : St → Option (Int × Unit)) (G10 : St → Option (Int × Unit)) (l' : List (List Int × List (Int × Int × Unit) × List (Int × Int × Unit) × Unit)) (i : Int) (t101 : Int) (fu : Nat) (h' : Int × Int × Unit) (j : Int) : iter (fu + 1) (LC.F tab (ref_ObjectsCheck_phi nf) (fun _ F => iter nf F) ref_ObjectsCheck_keep 12 (ref_ObjectsCheck_L12 nf G8 G10)) (ref_ObjectsCheck_m12 l' i t101 h' j) = ref_ObjectsCheck_b12 nf (fun _ _ _ p3 v0 v1 => iter nf (LC.F tab (ref_ObjectsCheck_phi nf) (fun _ F => iter nf F) ref_ObjectsCheck_keep 14 (ref_ObjectsCheck_L14 nf G8 G10 (iter fu (LC.F tab (ref_ObjectsCheck_phi nf) (fun _ F => iter nf F) ref_ObjectsCheck_keep 12 (ref_ObjectsCheck_L12 nf G8 G10))))) (ref_ObjectsCheck_m14 l' i t101 p3 v0 v1)) l' i t101 (fun t101 => G10 (ref_ObjectsCheck_m10 l' i t101)) (fun i => G8 (ref_ObjectsCheck_m8 l' i)) (fun h' j => iter fu (LC.F tab (ref_ObjectsCheck_phi nf) (fun _ F => iter nf F) ref_ObjectsCheck_keep 12 (ref_ObjectsCheck_L12 nf G8 G10)) (ref_ObjectsCheck_m12 l' i t101 h' j)) h' j := by kernel_rfl
theorem ref_ObjectsCheck_e12 (nf : Nat) (G8 : St → Option (Int × Unit)) (G10 : St → Option (Int × Unit)) (l' : List (List Int × List (Int × Int × Unit) × List (Int × Int × Unit) × Unit)) (i : Int) (t101 : Int) : ∀ (fu : Nat) (h' : Int × Int × Unit) (j : Int), iter fu (LC.F tab (ref_ObjectsCheck_phi nf) (fun _ F => iter nf F) ref_ObjectsCheck_keep 12 (ref_ObjectsCheck_L12 nf G8 G10)) (ref_ObjectsCheck_m12 l' i t101 h' j) = ref_ObjectsCheck_l12 nf l' i t101 (fun t101 => G10 (ref_ObjectsCheck_m10 l' i t101)) (fun i => G8 (ref_ObjectsCheck_m8 l' i)) fu h' j := by
  intro fu
  induction fu with
  | zero => intros; rfl
  | succ fu ih =>
    intro h' j
    rw [ref_ObjectsCheck_h12 nf G8 G10 l' i t101 fu h' j]
    simp only [ih, ref_ObjectsCheck_e14]
    rfl
theorem ref_ObjectsCheck_h10 (nf : Nat) (G8 : St → Option (Int × Unit)) (l' : List (List Int × List (Int × Int × Unit) × List (Int × Int × Unit) × Unit)) (i : Int) (fu : Nat) (t101 : Int) : iter (fu + 1) (LC.F tab (ref_ObjectsCheck_phi nf) (fun _ F => iter nf F) ref_ObjectsCheck_keep 10 (ref_ObjectsCheck_L10 nf G8)) (ref_ObjectsCheck_m10 l' i t101) = ref_ObjectsCheck_b10 nf (fun _ _ p2 v0 v1 => iter nf (LC.F tab (ref_ObjectsCheck_phi nf) (fun _ F => iter nf F) ref_ObjectsCheck_keep 12 (ref_ObjectsCheck_L12 nf G8 (iter fu (LC.F tab (ref_ObjectsCheck_phi nf) (fun _ F => iter nf F) ref_ObjectsCheck_keep 10 (ref_ObjectsCheck_L10 nf G8))))) (ref_ObjectsCheck_m12 l' i p2 v0 v1)) l' i (fun i => G8 (ref_ObjectsCheck_m8 l' i)) (fun t101 => iter fu (LC.F tab (ref_ObjectsCheck_phi nf) (fun _ F => iter nf F) ref_ObjectsCheck_keep 10 (ref_ObjectsCheck_L10 nf G8)) (ref_ObjectsCheck_m10 l' i t101)) t101 := by kernel_rfl
theorem ref_ObjectsCheck_e10 (nf : Nat) (G8 : St → Option (Int × Unit)) (l' : List (List Int × List (Int × Int × Unit) × List (Int × Int × Unit) × Unit)) (i : Int) : ∀ (fu : Nat) (t101 : Int), iter fu (LC.F tab (ref_ObjectsCheck_phi nf) (fun _ F => iter nf F) ref_ObjectsCheck_keep 10 (ref_ObjectsCheck_L10 nf G8)) (ref_ObjectsCheck_m10 l' i t101) = ref_ObjectsCheck_l10 nf l' i (fun i => G8 (ref_ObjectsCheck_m8 l' i)) fu t101 := by
  intro fu
  induction fu with
  | zero => intros; rfl
  | succ fu ih =>
    intro t101
    rw [ref_ObjectsCheck_h10 nf G8 l' i fu t101]
    simp only [ih, ref_ObjectsCheck_e12]
    rfl
theorem ref_ObjectsCheck_h8 (nf : Nat)  (l' : List (List Int × List (Int × Int × Unit) × List (Int × Int × Unit) × Unit)) (fu : Nat) (i : Int) : iter (fu + 1) (LC.F tab (ref_ObjectsCheck_phi nf) (fun _ F => iter nf F) ref_ObjectsCheck_keep 8 (ref_ObjectsCheck_L8 nf )) (ref_ObjectsCheck_m8 l' i) = ref_ObjectsCheck_b8 nf (fun _ p1 v0 => iter nf (LC.F tab (ref_ObjectsCheck_phi nf) (fun _ F => iter nf F) ref_ObjectsCheck_keep 10 (ref_ObjectsCheck_L10 nf (iter fu (LC.F tab (ref_ObjectsCheck_phi nf) (fun _ F => iter nf F) ref_ObjectsCheck_keep 8 (ref_ObjectsCheck_L8 nf ))))) (ref_ObjectsCheck_m10 l' p1 v0)) l'  (fun i => iter fu (LC.F tab (ref_ObjectsCheck_phi nf) (fun _ F => iter nf F) ref_ObjectsCheck_keep 8 (ref_ObjectsCheck_L8 nf )) (ref_ObjectsCheck_m8 l' i)) i := by kernel_rfl
theorem ref_ObjectsCheck_e8 (nf : Nat)  (l' : List (List Int × List (Int × Int × Unit) × List (Int × Int × Unit) × Unit)) : ∀ (fu : Nat) (i : Int), iter fu (LC.F tab (ref_ObjectsCheck_phi nf) (fun _ F => iter nf F) ref_ObjectsCheck_keep 8 (ref_ObjectsCheck_L8 nf )) (ref_ObjectsCheck_m8 l' i) = ref_ObjectsCheck_l8 nf l'  fu i := by
  intro fu
  induction fu with
  | zero => intros; rfl
  | succ fu ih =>
    intro i
    rw [ref_ObjectsCheck_h8 nf  l' fu i]
    simp only [ih, ref_ObjectsCheck_e10]
    rfl
theorem ref_ObjectsCheck_h6 (nf : Nat) (G2 : St → Option (Int × Unit)) (l' : List (List Int × List (Int × Int × Unit) × List (Int × Int × Unit) × Unit)) (t45 : Int) (o : List Int × List (Int × Int × Unit) × List (Int × Int × Unit) × Unit) (fu : Nat) (o2 : List Int × List (Int × Int × Unit) × List (Int × Int × Unit) × Unit) (t71 : Int) : iter (fu + 1) (LC.F tab (ref_ObjectsCheck_phi nf) (fun _ F => iter nf F) ref_ObjectsCheck_keep 6 (ref_ObjectsCheck_L6 nf G2)) (ref_ObjectsCheck_m6 l' t45 o o2 t71) = ref_ObjectsCheck_b6 nf  l' t45 o (fun t45 => G2 (ref_ObjectsCheck_m2 l' t45)) (fun o2 t71 => iter fu (LC.F tab (ref_ObjectsCheck_phi nf) (fun _ F => iter nf F) ref_ObjectsCheck_keep 6 (ref_ObjectsCheck_L6 nf G2)) (ref_ObjectsCheck_m6 l' t45 o o2 t71)) o2 t71 := by kernel_rfl
theorem ref_ObjectsCheck_e6 (nf : Nat) (G2 : St → Option (Int × Unit)) (l' : List (List Int × List (Int × Int × Unit) × List (Int × Int × Unit) × Unit)) (t45 : Int) (o : List Int × List (Int × Int × Unit) × List (Int × Int × Unit) × Unit) : ∀ (fu : Nat) (o2 : List Int × List (Int × Int × Unit) × List (Int × Int × Unit) × Unit) (t71 : Int), iter fu (LC.F tab (ref_ObjectsCheck_phi nf) (fun _ F => iter nf F) ref_ObjectsCheck_keep 6 (ref_ObjectsCheck_L6 nf G2)) (ref_ObjectsCheck_m6 l' t45 o o2 t71) = ref_ObjectsCheck_l6 nf l' t45 o (fun t45 => G2 (ref_ObjectsCheck_m2 l' t45)) fu o2 t71 := by
  intro fu
  induction fu with
  | zero => intros; rfl
  | succ fu ih =>
    intro o2 t71
    rw [ref_ObjectsCheck_h6 nf G2 l' t45 o fu o2 t71]
    simp only [ih]
    rfl
theorem ref_ObjectsCheck_h4 (nf : Nat) (G2 : St → Option (Int × Unit)) (l' : List (List Int × List (Int × Int × Unit) × List (Int × Int × Unit) × Unit)) (t45 : Int) (fu : Nat) (o : List Int × List (Int × Int × Unit) × List (Int × Int × Unit) × Unit) (t52 : Int) : iter (fu + 1) (LC.F tab (ref_ObjectsCheck_phi nf) (fun _ F => iter nf F) ref_ObjectsCheck_keep 4 (ref_ObjectsCheck_L4 nf G2)) (ref_ObjectsCheck_m4 l' t45 o t52) = ref_ObjectsCheck_b4 nf (fun _ _ p2 v0 v1 => iter nf (LC.F tab (ref_ObjectsCheck_phi nf) (fun _ F => iter nf F) ref_ObjectsCheck_keep 6 (ref_ObjectsCheck_L6 nf G2)) (ref_ObjectsCheck_m6 l' t45 p2 v0 v1)) l' t45 (fun t45 => G2 (ref_ObjectsCheck_m2 l' t45)) (fun o t52 => iter fu (LC.F tab (ref_ObjectsCheck_phi nf) (fun _ F => iter nf F) ref_ObjectsCheck_keep 4 (ref_ObjectsCheck_L4 nf G2)) (ref_ObjectsCheck_m4 l' t45 o t52)) o t52 := by kernel_rfl
theorem ref_ObjectsCheck_e4 (nf : Nat) (G2 : St → Option (Int × Unit)) (l' : List (List Int × List (Int × Int × Unit) × List (Int × Int × Unit) × Unit)) (t45 : Int) : ∀ (fu : Nat) (o : List Int × List (Int × Int × Unit) × List (Int × Int × Unit) × Unit) (t52 : Int), iter fu (LC.F tab (ref_ObjectsCheck_phi nf) (fun _ F => iter nf F) ref_ObjectsCheck_keep 4 (ref_ObjectsCheck_L4 nf G2)) (ref_ObjectsCheck_m4 l' t45 o t52) = ref_ObjectsCheck_l4 nf l' t45 (fun t45 => G2 (ref_ObjectsCheck_m2 l' t45)) fu o t52 := by
  intro fu
  induction fu with
  | zero => intros; rfl
  | succ fu ih =>
    intro o t52
    rw [ref_ObjectsCheck_h4 nf G2 l' t45 fu o t52]
    simp only [ih, ref_ObjectsCheck_e6]
    rfl
theorem ref_ObjectsCheck_h2 (nf : Nat)  (l' : List (List Int × List (Int × Int × Unit) × List (Int × Int × Unit) × Unit)) (fu : Nat) (t45 : Int) : iter (fu + 1) (LC.F tab (ref_ObjectsCheck_phi nf) (fun _ F => iter nf F) ref_ObjectsCheck_keep 2 (ref_ObjectsCheck_L2 nf )) (ref_ObjectsCheck_m2 l' t45) = ref_ObjectsCheck_b2 nf (fun _ p1 v0 v1 => iter nf (LC.F tab (ref_ObjectsCheck_phi nf) (fun _ F => iter nf F) ref_ObjectsCheck_keep 4 (ref_ObjectsCheck_L4 nf (iter fu (LC.F tab (ref_ObjectsCheck_phi nf) (fun _ F => iter nf F) ref_ObjectsCheck_keep 2 (ref_ObjectsCheck_L2 nf ))))) (ref_ObjectsCheck_m4 l' p1 v0 v1)) (fun _ v0 => iter nf (LC.F tab (ref_ObjectsCheck_phi nf) (fun _ F => iter nf F) ref_ObjectsCheck_keep 8 (ref_ObjectsCheck_L8 nf )) (ref_ObjectsCheck_m8 l' v0)) l'  (fun t45 => iter fu (LC.F tab (ref_ObjectsCheck_phi nf) (fun _ F => iter nf F) ref_ObjectsCheck_keep 2 (ref_ObjectsCheck_L2 nf )) (ref_ObjectsCheck_m2 l' t45)) t45 := by kernel_rfl
theorem ref_ObjectsCheck_e2 (nf : Nat)  (l' : List (List Int × List (Int × Int × Unit) × List (Int × Int × Unit) × Unit)) : ∀ (fu : Nat) (t45 : Int), iter fu (LC.F tab (ref_ObjectsCheck_phi nf) (fun _ F => iter nf F) ref_ObjectsCheck_keep 2 (ref_ObjectsCheck_L2 nf )) (ref_ObjectsCheck_m2 l' t45) = ref_ObjectsCheck_l2 nf l'  fu t45 := by
  intro fu
  induction fu with
  | zero => intros; rfl
  | succ fu ih =>
    intro t45
    rw [ref_ObjectsCheck_h2 nf  l' fu t45]
    simp only [ih, ref_ObjectsCheck_e4, ref_ObjectsCheck_e8]
    rfl
theorem ref_ObjectsCheck_h0 (nf : Nat)  (l' : List (List Int × List (Int × Int × Unit) × List (Int × Int × Unit) × Unit)) (fu : Nat) (t22 : Int) : iter (fu + 1) (LC.F tab (ref_ObjectsCheck_phi nf) (fun _ F => iter nf F) ref_ObjectsCheck_keep 0 (ref_ObjectsCheck_L0 nf )) (ref_ObjectsCheck_m0 l' t22) = ref_ObjectsCheck_b0 nf (fun _ v0 => iter nf (LC.F tab (ref_ObjectsCheck_phi nf) (fun _ F => iter nf F) ref_ObjectsCheck_keep 2 (ref_ObjectsCheck_L2 nf )) (ref_ObjectsCheck_m2 l' v0)) l'  (fun t22 => iter fu (LC.F tab (ref_ObjectsCheck_phi nf) (fun _ F => iter nf F) ref_ObjectsCheck_keep 0 (ref_ObjectsCheck_L0 nf )) (ref_ObjectsCheck_m0 l' t22)) t22 := by kernel_rfl
theorem ref_ObjectsCheck_e0 (nf : Nat)  (l' : List (List Int × List (Int × Int × Unit) × List (Int × Int × Unit) × Unit)) : ∀ (fu : Nat) (t22 : Int), iter fu (LC.F tab (ref_ObjectsCheck_phi nf) (fun _ F => iter nf F) ref_ObjectsCheck_keep 0 (ref_ObjectsCheck_L0 nf )) (ref_ObjectsCheck_m0 l' t22) = ref_ObjectsCheck_l0 nf l'  fu t22 := by
  intro fu
  induction fu with
  | zero => intros; rfl
  | succ fu ih =>
    intro t22
    rw [ref_ObjectsCheck_h0 nf  l' fu t22]
    simp only [ih, ref_ObjectsCheck_e2]
    rfl
theorem ref_ObjectsCheck_eq (nf : Nat) (l' : List (List Int × List (Int × Int × Unit) × List (Int × Int × Unit) × Unit)) : runF tab (ref_ObjectsCheck_phi nf) ref_ObjectsCheck_keep nf [PT.val ((Ty.int IntKind.u8).sl.pair (((Ty.int IntKind.i64).pair ((Ty.int IntKind.i64).pair Ty.unit)).sl.pair (((Ty.int IntKind.i64).pair ((Ty.int IntKind.i64).pair Ty.unit)).sl.pair Ty.unit))).sl (Md.bor true false)] [(Ty.int IntKind.i64, Md.bor false true)] (resL ([]) Try.f14) (codeOf Try.f14) ⟨l', ()⟩ = ref_ObjectsCheck_f nf l' := by
  have h : runF tab (ref_ObjectsCheck_phi nf) ref_ObjectsCheck_keep nf [PT.val ((Ty.int IntKind.u8).sl.pair (((Ty.int IntKind.i64).pair ((Ty.int IntKind.i64).pair Ty.unit)).sl.pair (((Ty.int IntKind.i64).pair ((Ty.int IntKind.i64).pair Ty.unit)).sl.pair Ty.unit))).sl (Md.bor true false)] [(Ty.int IntKind.i64, Md.bor false true)] (resL ([]) Try.f14) (codeOf Try.f14) ⟨l', ()⟩ = ref_ObjectsCheck_p nf (fun p0 v0 => iter nf (LC.F tab (ref_ObjectsCheck_phi nf) (fun _ F => iter nf F) ref_ObjectsCheck_keep 0 (ref_ObjectsCheck_L0 nf)) (ref_ObjectsCheck_m0 p0 v0)) l' := by kernel_rfl
  rw [h]
  simp only [ref_ObjectsCheck_e0]
  rfl
def ref_ObjectsCheck_F (nf : Nat) (x : denPs [.val (.sl (.pair (.sl (.int .u8)) (.pair (.sl (.pair (.int .i64) (.pair (.int .i64) (.unit)))) (.pair (.sl (.pair (.int .i64) (.pair (.int .i64) (.unit)))) (.unit))))) (.bor true false)]) : Option (denL [(.int .i64, .bor false true)]) := ref_ObjectsCheck_f nf x.1
def ref_ObjectsCheck_C (nf : Nat) : Contract := ⟨[.val (.sl (.pair (.sl (.int .u8)) (.pair (.sl (.pair (.int .i64) (.pair (.int .i64) (.unit)))) (.pair (.sl (.pair (.int .i64) (.pair (.int .i64) (.unit)))) (.unit))))) (.bor true false)], [(.int .i64, .bor false true)], ref_ObjectsCheck_F nf, []⟩
theorem ref_ObjectsCheck_ok : FnOK Try.prog 14 := ⟨Try.f14, codeOf Try.f14, Try.func14, by kernel_rfl, by kernel_rfl⟩
theorem ref_ObjectsCheck_holds (nf : Nat) : Contract.Holds Try.prog 14 (ref_ObjectsCheck_C nf) :=
  fn_holds (Φ := ref_ObjectsCheck_phi nf) (keep := ref_ObjectsCheck_keep) (n := nf) ⟨tabs.1, tabs.2, ctx_nil, mixed, bk_ok bkls rfl⟩ (fn := Try.f14) ⟨Try.func14, by kernel_rfl, by kernel_rfl, by kernel_rfl⟩ (fun x => ref_ObjectsCheck_eq nf x.1)

/-! codemason codemasonref.Address -/
def ref_Address_phi (nf : Nat) : Nat → Option Contract := lookC []
def ref_Address_keep : Nat → List Nat := lookK [(2, [0, 1, 5, 7, 10, 11, 12, 16, 17, 18, 19]), (0, [0, 1, 5, 10, 11, 12])]
def ref_Address_b0 (nf : Nat) (l2 : List (List Int × List (Int × Int × Unit) × List (Int × Int × Unit) × Unit) → Int → Int → Int → List Int × List (Int × Int × Unit) × List (Int × Int × Unit) × Unit → Int → Option (Int × Unit)) (l' : List (List Int × List (Int × Int × Unit) × List (Int × Int × Unit) × Unit)) (name : Int) (g0 : Int → Int → Option (Int × Unit)) (at' : Int) (t12 : Int) : Option (Int × Unit) :=
  bif decide (t12 < (↑l'.length : Int)) then
    bif inb t12 l'.length then
      l2 l' name at' t12 (l'.getD t12.toNat ([], [], [], ())) 0
    else
      none
  else
    some ((-1, ()))
def ref_Address_b2 (nf : Nat) (l' : List (List Int × List (Int × Int × Unit) × List (Int × Int × Unit) × Unit)) (name : Int) (at' : Int) (t12 : Int) (g0 : Int → Int → Option (Int × Unit)) (g2 : List Int × List (Int × Int × Unit) × List (Int × Int × Unit) × Unit → Int → Option (Int × Unit)) (o : List Int × List (Int × Int × Unit) × List (Int × Int × Unit) × Unit) (t19 : Int) : Option (Int × Unit) :=
  bif decide (t19 < (↑(List.length (l'.getD t12.toNat ([], [], [], ())).snd.fst) : Int)) then
    bif inb t19 (List.length (l'.getD t12.toNat ([], [], [], ())).snd.fst) then
      bif (List.getD (l'.getD t12.toNat ([], [], [], ())).snd.fst t19.toNat (0, 0, ())).fst == name then
        some ((IntKind.i64.wrap (at' + (List.getD (l'.getD t12.toNat ([], [], [], ())).snd.fst t19.toNat (0, 0, ())).snd.fst), ()))
      else
        g2 o (IntKind.i64.wrap (t19 + 1))
    else
      none
  else
    g0 (IntKind.i64.wrap (at' + (↑(List.length o.fst) : Int))) (IntKind.i64.wrap (t12 + 1))
def ref_Address_p (nf : Nat) (l0 : List (List Int × List (Int × Int × Unit) × List (Int × Int × Unit) × Unit) → Int → Int → Int → Option (Int × Unit)) (l' : List (List Int × List (Int × Int × Unit) × List (Int × Int × Unit) × Unit)) (name : Int) : Option (Int × Unit) :=
  l0 l' name 0 0
def ref_Address_l2 (nf : Nat) (l' : List (List Int × List (Int × Int × Unit) × List (Int × Int × Unit) × Unit)) (name : Int) (at' : Int) (t12 : Int) (g0 : Int → Int → Option (Int × Unit)) : Nat → List Int × List (Int × Int × Unit) × List (Int × Int × Unit) × Unit → Int → Option (Int × Unit)
  | 0, _, _ => none
  | fu + 1, o, t19 => ref_Address_b2 nf  l' name at' t12 g0 (ref_Address_l2 nf l' name at' t12 g0 fu) o t19
def ref_Address_l0 (nf : Nat) (l' : List (List Int × List (Int × Int × Unit) × List (Int × Int × Unit) × Unit)) (name : Int) : Nat → Int → Int → Option (Int × Unit)
  | 0, _, _ => none
  | fu + 1, at', t12 => ref_Address_b0 nf (fun _ _ p2 p3 v0 v1 => ref_Address_l2 nf l' name p2 p3 (fun at' t12 => ref_Address_l0 nf l' name  fu at' t12) nf v0 v1) l' name  (ref_Address_l0 nf l' name  fu) at' t12
def ref_Address_f (nf : Nat) (l' : List (List Int × List (Int × Int × Unit) × List (Int × Int × Unit) × Unit)) (name : Int) : Option (Int × Unit) := ref_Address_p nf (fun p0 p1 v0 v1 => ref_Address_l0 nf p0 p1 nf v0 v1) l' name
noncomputable def ref_Address_L0 (nf : Nat) : LC (Int × Unit) := theL (findL tab (ref_Address_phi nf) (fun _ F => iter nf F) ref_Address_keep 0 0 (codeOf Try.f15) (fin tab [(Ty.int IntKind.i64, Md.bor false true)] (resL ([]) Try.f15)) (fun _ _ => none) (fin tab [(Ty.int IntKind.i64, Md.bor false true)] (resL ([]) Try.f15)))
def ref_Address_m0 (l' : List (List Int × List (Int × Int × Unit) × List (Int × Int × Unit) × Unit)) (name : Int) (at' : Int) (t12 : Int) : St := ⟨fresh, [(0, AV.v ((Ty.int IntKind.u8).sl.pair (((Ty.int IntKind.i64).pair ((Ty.int IntKind.i64).pair Ty.unit)).sl.pair (((Ty.int IntKind.i64).pair ((Ty.int IntKind.i64).pair Ty.unit)).sl.pair Ty.unit))).sl (Md.bor true false) l'), (1, AV.v (Ty.int IntKind.i64) (Md.bor false true) name), (5, AV.v (Ty.int IntKind.i64) (Md.bor false true) at'), (10, AV.v ((Ty.int IntKind.u8).sl.pair (((Ty.int IntKind.i64).pair ((Ty.int IntKind.i64).pair Ty.unit)).sl.pair (((Ty.int IntKind.i64).pair ((Ty.int IntKind.i64).pair Ty.unit)).sl.pair Ty.unit))).sl (Md.bor true false) l'), (11, AV.v (Ty.int IntKind.i64) (Md.bor false true) (↑l'.length : Int)), (12, AV.v (Ty.int IntKind.i64) (Md.bor false true) t12)]⟩
noncomputable def ref_Address_L2 (nf : Nat) (G0 : St → Option (Int × Unit)) : LC (Int × Unit) := theL (findL tab (ref_Address_phi nf) (fun _ F => iter nf F) ref_Address_keep 2 0 (ref_Address_L0 nf ).c (fun st => norm (ref_Address_keep 0) st G0) (ref_Address_L0 nf ).Kx (ref_Address_L0 nf ).Kr)
def ref_Address_m2 (l' : List (List Int × List (Int × Int × Unit) × List (Int × Int × Unit) × Unit)) (name : Int) (at' : Int) (t12 : Int) (o : List Int × List (Int × Int × Unit) × List (Int × Int × Unit) × Unit) (t19 : Int) : St := ⟨fresh, [(0, AV.v ((Ty.int IntKind.u8).sl.pair (((Ty.int IntKind.i64).pair ((Ty.int IntKind.i64).pair Ty.unit)).sl.pair (((Ty.int IntKind.i64).pair ((Ty.int IntKind.i64).pair Ty.unit)).sl.pair Ty.unit))).sl (Md.bor true false) l'), (1, AV.v (Ty.int IntKind.i64) (Md.bor false true) name), (5, AV.v (Ty.int IntKind.i64) (Md.bor false true) at'), (7, AV.box 7 500007 ((Ty.int IntKind.u8).sl.pair (((Ty.int IntKind.i64).pair ((Ty.int IntKind.i64).pair Ty.unit)).sl.pair (((Ty.int IntKind.i64).pair ((Ty.int IntKind.i64).pair Ty.unit)).sl.pair Ty.unit))) (Md.bor true false) o), (10, AV.v ((Ty.int IntKind.u8).sl.pair (((Ty.int IntKind.i64).pair ((Ty.int IntKind.i64).pair Ty.unit)).sl.pair (((Ty.int IntKind.i64).pair ((Ty.int IntKind.i64).pair Ty.unit)).sl.pair Ty.unit))).sl (Md.bor true false) l'), (11, AV.v (Ty.int IntKind.i64) (Md.bor false true) (↑l'.length : Int)), (12, AV.v (Ty.int IntKind.i64) (Md.bor false true) t12), (16, AV.pl 7 7 [Stp.dr, Stp.fld 1]), (17, AV.v ((Ty.int IntKind.i64).pair ((Ty.int IntKind.i64).pair Ty.unit)).sl (Md.bor true false) (l'.getD t12.toNat ([], [], [], ())).snd.fst), (18, AV.v (Ty.int IntKind.i64) (Md.bor false true) (↑(List.length (l'.getD t12.toNat ([], [], [], ())).snd.fst) : Int)), (19, AV.v (Ty.int IntKind.i64) (Md.bor false true) t19)]⟩
theorem ref_Address_h2 (nf : Nat) (G0 : St → Option (Int × Unit)) (l' : List (List Int × List (Int × Int × Unit) × List (Int × Int × Unit) × Unit)) (name : Int) (at' : Int) (t12 : Int) (fu : Nat) (o : List Int × List (Int × Int × Unit) × List (Int × Int × Unit) × Unit) (t19 : Int) : iter (fu + 1) (LC.F tab (ref_Address_phi nf) (fun _ F => iter nf F) ref_Address_keep 2 (ref_Address_L2 nf G0)) (ref_Address_m2 l' name at' t12 o t19) = ref_Address_b2 nf  l' name at' t12 (fun at' t12 => G0 (ref_Address_m0 l' name at' t12)) (fun o t19 => iter fu (LC.F tab (ref_Address_phi nf) (fun _ F => iter nf F) ref_Address_keep 2 (ref_Address_L2 nf G0)) (ref_Address_m2 l' name at' t12 o t19)) o t19 := by kernel_rfl
theorem ref_Address_e2 (nf : Nat) (G0 : St → Option (Int × Unit)) (l' : List (List Int × List (Int × Int × Unit) × List (Int × Int × Unit) × Unit)) (name : Int) (at' : Int) (t12 : Int) : ∀ (fu : Nat) (o : List Int × List (Int × Int × Unit) × List (Int × Int × Unit) × Unit) (t19 : Int), iter fu (LC.F tab (ref_Address_phi nf) (fun _ F => iter nf F) ref_Address_keep 2 (ref_Address_L2 nf G0)) (ref_Address_m2 l' name at' t12 o t19) = ref_Address_l2 nf l' name at' t12 (fun at' t12 => G0 (ref_Address_m0 l' name at' t12)) fu o t19 := by
  intro fu
  induction fu with
  | zero => intros; rfl
  | succ fu ih =>
    intro o t19
    rw [ref_Address_h2 nf G0 l' name at' t12 fu o t19]
    simp only [ih]
    rfl
theorem ref_Address_h0 (nf : Nat)  (l' : List (List Int × List (Int × Int × Unit) × List (Int × Int × Unit) × Unit)) (name : Int) (fu : Nat) (at' : Int) (t12 : Int) : iter (fu + 1) (LC.F tab (ref_Address_phi nf) (fun _ F => iter nf F) ref_Address_keep 0 (ref_Address_L0 nf )) (ref_Address_m0 l' name at' t12) = ref_Address_b0 nf (fun _ _ p2 p3 v0 v1 => iter nf (LC.F tab (ref_Address_phi nf) (fun _ F => iter nf F) ref_Address_keep 2 (ref_Address_L2 nf (iter fu (LC.F tab (ref_Address_phi nf) (fun _ F => iter nf F) ref_Address_keep 0 (ref_Address_L0 nf ))))) (ref_Address_m2 l' name p2 p3 v0 v1)) l' name  (fun at' t12 => iter fu (LC.F tab (ref_Address_phi nf) (fun _ F => iter nf F) ref_Address_keep 0 (ref_Address_L0 nf )) (ref_Address_m0 l' name at' t12)) at' t12 := by kernel_rfl
theorem ref_Address_e0 (nf : Nat)  (l' : List (List Int × List (Int × Int × Unit) × List (Int × Int × Unit) × Unit)) (name : Int) : ∀ (fu : Nat) (at' : Int) (t12 : Int), iter fu (LC.F tab (ref_Address_phi nf) (fun _ F => iter nf F) ref_Address_keep 0 (ref_Address_L0 nf )) (ref_Address_m0 l' name at' t12) = ref_Address_l0 nf l' name  fu at' t12 := by
  intro fu
  induction fu with
  | zero => intros; rfl
  | succ fu ih =>
    intro at' t12
    rw [ref_Address_h0 nf  l' name fu at' t12]
    simp only [ih, ref_Address_e2]
    rfl
theorem ref_Address_eq (nf : Nat) (l' : List (List Int × List (Int × Int × Unit) × List (Int × Int × Unit) × Unit)) (name : Int) : runF tab (ref_Address_phi nf) ref_Address_keep nf [PT.val ((Ty.int IntKind.u8).sl.pair (((Ty.int IntKind.i64).pair ((Ty.int IntKind.i64).pair Ty.unit)).sl.pair (((Ty.int IntKind.i64).pair ((Ty.int IntKind.i64).pair Ty.unit)).sl.pair Ty.unit))).sl (Md.bor true false), PT.val (Ty.int IntKind.i64) (Md.bor true false)] [(Ty.int IntKind.i64, Md.bor false true)] (resL ([]) Try.f15) (codeOf Try.f15) ⟨l', name, ()⟩ = ref_Address_f nf l' name := by
  have h : runF tab (ref_Address_phi nf) ref_Address_keep nf [PT.val ((Ty.int IntKind.u8).sl.pair (((Ty.int IntKind.i64).pair ((Ty.int IntKind.i64).pair Ty.unit)).sl.pair (((Ty.int IntKind.i64).pair ((Ty.int IntKind.i64).pair Ty.unit)).sl.pair Ty.unit))).sl (Md.bor true false), PT.val (Ty.int IntKind.i64) (Md.bor true false)] [(Ty.int IntKind.i64, Md.bor false true)] (resL ([]) Try.f15) (codeOf Try.f15) ⟨l', name, ()⟩ = ref_Address_p nf (fun p0 p1 v0 v1 => iter nf (LC.F tab (ref_Address_phi nf) (fun _ F => iter nf F) ref_Address_keep 0 (ref_Address_L0 nf)) (ref_Address_m0 p0 p1 v0 v1)) l' name := by kernel_rfl
  rw [h]
  simp only [ref_Address_e0]
  rfl
def ref_Address_F (nf : Nat) (x : denPs [.val (.sl (.pair (.sl (.int .u8)) (.pair (.sl (.pair (.int .i64) (.pair (.int .i64) (.unit)))) (.pair (.sl (.pair (.int .i64) (.pair (.int .i64) (.unit)))) (.unit))))) (.bor true false), .val (.int .i64) (.bor true false)]) : Option (denL [(.int .i64, .bor false true)]) := ref_Address_f nf x.1 x.2.1
def ref_Address_C (nf : Nat) : Contract := ⟨[.val (.sl (.pair (.sl (.int .u8)) (.pair (.sl (.pair (.int .i64) (.pair (.int .i64) (.unit)))) (.pair (.sl (.pair (.int .i64) (.pair (.int .i64) (.unit)))) (.unit))))) (.bor true false), .val (.int .i64) (.bor true false)], [(.int .i64, .bor false true)], ref_Address_F nf, []⟩
theorem ref_Address_ok : FnOK Try.prog 15 := ⟨Try.f15, codeOf Try.f15, Try.func15, by kernel_rfl, by kernel_rfl⟩
theorem ref_Address_holds (nf : Nat) : Contract.Holds Try.prog 15 (ref_Address_C nf) :=
  fn_holds (Φ := ref_Address_phi nf) (keep := ref_Address_keep) (n := nf) ⟨tabs.1, tabs.2, ctx_nil, mixed, bk_ok bkls rfl⟩ (fn := Try.f15) ⟨Try.func15, by kernel_rfl, by kernel_rfl, by kernel_rfl⟩ (fun x => ref_Address_eq nf x.1 x.2.1)

/-! codemason codemasonlaw.LinkFinds -/
def law_LinkFinds_phi (nf : Nat) : Nat → Option Contract := lookC [(13, link_Find_C nf), (14, ref_ObjectsCheck_C nf), (15, ref_Address_C nf)]
def law_LinkFinds_keep : Nat → List Nat := lookK []
def law_LinkFinds_p (nf : Nat)  (l' : List (List Int × List (Int × Int × Unit) × List (Int × Int × Unit) × Unit)) (name : Int) : Option (Bool × Unit) :=
  Option.bind (link_Find_f nf l' name) fun r =>
  Option.bind (ref_ObjectsCheck_f nf l') fun r2 =>
  bif r2.fst == 0 then
    Option.bind (ref_Address_f nf l' name) fun r3 =>
    bif decide (r3.fst < 0) then
      bif r.snd.fst == 5 then
        some ((r.fst == 0, ()))
      else
        some ((false, ()))
    else
      bif r2.fst != 0 then
        bif r.snd.fst == r2.fst then
          some ((r.fst == 0, ()))
        else
          some ((false, ()))
      else
        bif r.snd.fst == 0 then
          Option.bind (ref_Address_f nf l' name) fun r4 =>
          some ((r.fst == r4.fst, ()))
        else
          some ((false, ()))
  else
    bif r2.fst != 0 then
      bif r.snd.fst == r2.fst then
        some ((r.fst == 0, ()))
      else
        some ((false, ()))
    else
      bif r.snd.fst == 0 then
        Option.bind (ref_Address_f nf l' name) fun r5 =>
        some ((r.fst == r5.fst, ()))
      else
        some ((false, ()))
def law_LinkFinds_f (nf : Nat) (l' : List (List Int × List (Int × Int × Unit) × List (Int × Int × Unit) × Unit)) (name : Int) : Option (Bool × Unit) := law_LinkFinds_p nf  l' name
theorem law_LinkFinds_eq (nf : Nat) (l' : List (List Int × List (Int × Int × Unit) × List (Int × Int × Unit) × Unit)) (name : Int) : runF tab (law_LinkFinds_phi nf) law_LinkFinds_keep nf [PT.val ((Ty.int IntKind.u8).sl.pair (((Ty.int IntKind.i64).pair ((Ty.int IntKind.i64).pair Ty.unit)).sl.pair (((Ty.int IntKind.i64).pair ((Ty.int IntKind.i64).pair Ty.unit)).sl.pair Ty.unit))).sl (Md.bor false false), PT.val (Ty.int IntKind.i64) (Md.bor false false)] [(Ty.bool, Md.bor false true)] (resL ([]) Try.f4) (codeOf Try.f4) ⟨l', name, ()⟩ = law_LinkFinds_f nf l' name := by
  have h : runF tab (law_LinkFinds_phi nf) law_LinkFinds_keep nf [PT.val ((Ty.int IntKind.u8).sl.pair (((Ty.int IntKind.i64).pair ((Ty.int IntKind.i64).pair Ty.unit)).sl.pair (((Ty.int IntKind.i64).pair ((Ty.int IntKind.i64).pair Ty.unit)).sl.pair Ty.unit))).sl (Md.bor false false), PT.val (Ty.int IntKind.i64) (Md.bor false false)] [(Ty.bool, Md.bor false true)] (resL ([]) Try.f4) (codeOf Try.f4) ⟨l', name, ()⟩ = law_LinkFinds_p nf  l' name := by kernel_rfl
  exact h
def law_LinkFinds_F (nf : Nat) (x : denPs [.val (.sl (.pair (.sl (.int .u8)) (.pair (.sl (.pair (.int .i64) (.pair (.int .i64) (.unit)))) (.pair (.sl (.pair (.int .i64) (.pair (.int .i64) (.unit)))) (.unit))))) (.bor false false), .val (.int .i64) (.bor false false)]) : Option (denL [(.bool, .bor false true)]) := law_LinkFinds_f nf x.1 x.2.1
def law_LinkFinds_C (nf : Nat) : Contract := ⟨[.val (.sl (.pair (.sl (.int .u8)) (.pair (.sl (.pair (.int .i64) (.pair (.int .i64) (.unit)))) (.pair (.sl (.pair (.int .i64) (.pair (.int .i64) (.unit)))) (.unit))))) (.bor false false), .val (.int .i64) (.bor false false)], [(.bool, .bor false true)], law_LinkFinds_F nf, []⟩
theorem law_LinkFinds_ok : FnOK Try.prog 4 := ⟨Try.f4, codeOf Try.f4, Try.func4, by kernel_rfl, by kernel_rfl⟩
theorem law_LinkFinds_holds (nf : Nat) : Contract.Holds Try.prog 4 (law_LinkFinds_C nf) :=
  fn_holds (Φ := law_LinkFinds_phi nf) (keep := law_LinkFinds_keep) (n := nf) ⟨tabs.1, tabs.2, (ctx_cons link_Find_ok (link_Find_holds nf) (ctx_cons ref_ObjectsCheck_ok (ref_ObjectsCheck_holds nf) (ctx_cons ref_Address_ok (ref_Address_holds nf) ctx_nil))), mixed, bk_ok bkls rfl⟩ (fn := Try.f4) ⟨Try.func4, by kernel_rfl, by kernel_rfl, by kernel_rfl⟩ (fun x => law_LinkFinds_eq nf x.1 x.2.1)

/-! codemason link.Needs -/
def link_Needs_phi (nf : Nat) : Nat → Option Contract := lookC [(41, link_build_C nf)]
def link_Needs_keep : Nat → List Nat := lookK [(2, [0, 4, 6, 7, 12, 14, 15, 23, 27, 28, 29, 33, 34, 35, 36, 37, 66]), (0, [0, 4, 6, 7, 12, 14, 15, 23, 27, 28, 66])]
def link_Needs_b0 (nf : Nat) (l2 : List (List Int × List (Int × Int × Unit) × List (Int × Int × Unit) × Unit) → List Int → Int → List Int → List Int × List (Int × Int) × List (Int × Int) × Unit → Int → Option (Int × Int × Unit)) (l' : List (List Int × List (Int × Int × Unit) × List (Int × Int × Unit) × Unit)) (g0 : Int → List Int → List Int × List (Int × Int) × List (Int × Int) × Unit → Option (Int × Int × Unit)) (set' : Int) (queue : List Int) (t15 : List Int × List (Int × Int) × List (Int × Int) × Unit) : Option (Int × Int × Unit) :=
  bif decide ((↑queue.length : Int) > 0) then
    bif inb 0 queue.length then
      bif inb (queue.getD 0 0) l'.length then
        l2 l' queue set' queue t15 0
      else
        none
    else
      none
  else
    some ((set', 0, ()))
def link_Needs_b2 (nf : Nat) (l' : List (List Int × List (Int × Int × Unit) × List (Int × Int × Unit) × Unit)) (queue : List Int) (g0 : Int → List Int → List Int × List (Int × Int) × List (Int × Int) × Unit → Option (Int × Int × Unit)) (g2 : Int → List Int → List Int × List (Int × Int) × List (Int × Int) × Unit → Int → Option (Int × Int × Unit)) (set'2 : Int) (queue2 : List Int) (t152 : List Int × List (Int × Int) × List (Int × Int) × Unit) (t37 : Int) : Option (Int × Int × Unit) :=
  bif decide (t37 < (↑(List.length (l'.getD (Int.toNat (queue.getD 0 0)) ([], [], [], ())).snd.snd.fst) : Int)) then
    bif inb t37 (List.length (l'.getD (Int.toNat (queue.getD 0 0)) ([], [], [], ())).snd.snd.fst) then
      both (both (bif (getM (Ty.int IntKind.i64) (Ty.int IntKind.i64) t152.snd.fst (List.getD (l'.getD (Int.toNat (queue.getD 0 0)) ([], [], [], ())).snd.snd.fst t37.toNat (0, 0, ())).fst).isSome then
        bif decide (0 ≤ (getM (Ty.int IntKind.i64) (Ty.int IntKind.i64) t152.snd.fst (List.getD (l'.getD (Int.toNat (queue.getD 0 0)) ([], [], [], ())).snd.snd.fst t37.toNat (0, 0, ())).fst).getD 0) then
          bif IntKind.u32.wrap (↑(BitVec.ofInt IntKind.u32.bits (shrI IntKind.u32 set'2 ((getM (Ty.int IntKind.i64) (Ty.int IntKind.i64) t152.snd.fst (List.getD (l'.getD (Int.toNat (queue.getD 0 0)) ([], [], [], ())).snd.snd.fst t37.toNat (0, 0, ())).fst).getD 0)) &&& BitVec.ofInt IntKind.u32.bits 1).toNat : Int) == 0 then
            bif decide (0 ≤ (getM (Ty.int IntKind.i64) (Ty.int IntKind.i64) t152.snd.fst (List.getD (l'.getD (Int.toNat (queue.getD 0 0)) ([], [], [], ())).snd.snd.fst t37.toNat (0, 0, ())).fst).getD 0) then
              bif bimp false ![(getM (Ty.int IntKind.i64) (Ty.int IntKind.i64) t152.snd.fst (List.getD (l'.getD (Int.toNat (queue.getD 0 0)) ([], [], [], ())).snd.snd.fst t37.toNat (0, 0, ())).fst).getD 0].isEmpty && (queue2.length + [(getM (Ty.int IntKind.i64) (Ty.int IntKind.i64) t152.snd.fst (List.getD (l'.getD (Int.toNat (queue.getD 0 0)) ([], [], [], ())).snd.snd.fst t37.toNat (0, 0, ())).fst).getD 0].length).ble lim then
                g2 (IntKind.u32.wrap (↑(BitVec.ofInt IntKind.u32.bits set'2 ||| BitVec.ofInt IntKind.u32.bits (shlI IntKind.u32 1 ((getM (Ty.int IntKind.i64) (Ty.int IntKind.i64) t152.snd.fst (List.getD (l'.getD (Int.toNat (queue.getD 0 0)) ([], [], [], ())).snd.snd.fst t37.toNat (0, 0, ())).fst).getD 0))).toNat : Int)) (queue2 ++ [(getM (Ty.int IntKind.i64) (Ty.int IntKind.i64) t152.snd.fst (List.getD (l'.getD (Int.toNat (queue.getD 0 0)) ([], [], [], ())).snd.snd.fst t37.toNat (0, 0, ())).fst).getD 0]) t152 (IntKind.i64.wrap (t37 + 1))
              else
                none
            else
              none
          else
            g2 set'2 queue2 t152 (IntKind.i64.wrap (t37 + 1))
        else
          none
      else
        g2 set'2 queue2 t152 (IntKind.i64.wrap (t37 + 1))) (bif (getM (Ty.int IntKind.i64) (Ty.int IntKind.i64) t152.snd.fst (List.getD (l'.getD (Int.toNat (queue.getD 0 0)) ([], [], [], ())).snd.snd.fst t37.toNat (0, 0, ())).fst).isSome then
        bif decide (0 ≤ (getM (Ty.int IntKind.i64) (Ty.int IntKind.i64) t152.snd.fst (List.getD (l'.getD (Int.toNat (queue.getD 0 0)) ([], [], [], ())).snd.snd.fst t37.toNat (0, 0, ())).fst).getD 0) then
          bif IntKind.u32.wrap (↑(BitVec.ofInt IntKind.u32.bits (shrI IntKind.u32 set'2 ((getM (Ty.int IntKind.i64) (Ty.int IntKind.i64) t152.snd.fst (List.getD (l'.getD (Int.toNat (queue.getD 0 0)) ([], [], [], ())).snd.snd.fst t37.toNat (0, 0, ())).fst).getD 0)) &&& BitVec.ofInt IntKind.u32.bits 1).toNat : Int) == 0 then
            bif decide (0 ≤ (getM (Ty.int IntKind.i64) (Ty.int IntKind.i64) t152.snd.fst (List.getD (l'.getD (Int.toNat (queue.getD 0 0)) ([], [], [], ())).snd.snd.fst t37.toNat (0, 0, ())).fst).getD 0) then
              bif bimp false ![(getM (Ty.int IntKind.i64) (Ty.int IntKind.i64) t152.snd.fst (List.getD (l'.getD (Int.toNat (queue.getD 0 0)) ([], [], [], ())).snd.snd.fst t37.toNat (0, 0, ())).fst).getD 0].isEmpty && (queue2.length + [(getM (Ty.int IntKind.i64) (Ty.int IntKind.i64) t152.snd.fst (List.getD (l'.getD (Int.toNat (queue.getD 0 0)) ([], [], [], ())).snd.snd.fst t37.toNat (0, 0, ())).fst).getD 0].length).ble lim then
                g2 (IntKind.u32.wrap (↑(BitVec.ofInt IntKind.u32.bits set'2 ||| BitVec.ofInt IntKind.u32.bits (shlI IntKind.u32 1 ((getM (Ty.int IntKind.i64) (Ty.int IntKind.i64) t152.snd.fst (List.getD (l'.getD (Int.toNat (queue.getD 0 0)) ([], [], [], ())).snd.snd.fst t37.toNat (0, 0, ())).fst).getD 0))).toNat : Int)) (queue2 ++ [(getM (Ty.int IntKind.i64) (Ty.int IntKind.i64) t152.snd.fst (List.getD (l'.getD (Int.toNat (queue.getD 0 0)) ([], [], [], ())).snd.snd.fst t37.toNat (0, 0, ())).fst).getD 0]) t152 (IntKind.i64.wrap (t37 + 1))
              else
                none
            else
              none
          else
            g2 set'2 queue2 t152 (IntKind.i64.wrap (t37 + 1))
        else
          none
      else
        g2 set'2 queue2 t152 (IntKind.i64.wrap (t37 + 1)))) (bif (getM (Ty.int IntKind.i64) (Ty.int IntKind.i64) t152.snd.fst (List.getD (l'.getD (Int.toNat (queue.getD 0 0)) ([], [], [], ())).snd.snd.fst t37.toNat (0, 0, ())).fst).isSome then
        bif decide (0 ≤ (getM (Ty.int IntKind.i64) (Ty.int IntKind.i64) t152.snd.fst (List.getD (l'.getD (Int.toNat (queue.getD 0 0)) ([], [], [], ())).snd.snd.fst t37.toNat (0, 0, ())).fst).getD 0) then
          bif IntKind.u32.wrap (↑(BitVec.ofInt IntKind.u32.bits (shrI IntKind.u32 set'2 ((getM (Ty.int IntKind.i64) (Ty.int IntKind.i64) t152.snd.fst (List.getD (l'.getD (Int.toNat (queue.getD 0 0)) ([], [], [], ())).snd.snd.fst t37.toNat (0, 0, ())).fst).getD 0)) &&& BitVec.ofInt IntKind.u32.bits 1).toNat : Int) == 0 then
            bif decide (0 ≤ (getM (Ty.int IntKind.i64) (Ty.int IntKind.i64) t152.snd.fst (List.getD (l'.getD (Int.toNat (queue.getD 0 0)) ([], [], [], ())).snd.snd.fst t37.toNat (0, 0, ())).fst).getD 0) then
              bif bimp false ![(getM (Ty.int IntKind.i64) (Ty.int IntKind.i64) t152.snd.fst (List.getD (l'.getD (Int.toNat (queue.getD 0 0)) ([], [], [], ())).snd.snd.fst t37.toNat (0, 0, ())).fst).getD 0].isEmpty && (queue2.length + [(getM (Ty.int IntKind.i64) (Ty.int IntKind.i64) t152.snd.fst (List.getD (l'.getD (Int.toNat (queue.getD 0 0)) ([], [], [], ())).snd.snd.fst t37.toNat (0, 0, ())).fst).getD 0].length).ble lim then
                g2 (IntKind.u32.wrap (↑(BitVec.ofInt IntKind.u32.bits set'2 ||| BitVec.ofInt IntKind.u32.bits (shlI IntKind.u32 1 ((getM (Ty.int IntKind.i64) (Ty.int IntKind.i64) t152.snd.fst (List.getD (l'.getD (Int.toNat (queue.getD 0 0)) ([], [], [], ())).snd.snd.fst t37.toNat (0, 0, ())).fst).getD 0))).toNat : Int)) (queue2 ++ [(getM (Ty.int IntKind.i64) (Ty.int IntKind.i64) t152.snd.fst (List.getD (l'.getD (Int.toNat (queue.getD 0 0)) ([], [], [], ())).snd.snd.fst t37.toNat (0, 0, ())).fst).getD 0]) t152 (IntKind.i64.wrap (t37 + 1))
              else
                none
            else
              none
          else
            g2 set'2 queue2 t152 (IntKind.i64.wrap (t37 + 1))
        else
          none
      else
        g2 set'2 queue2 t152 (IntKind.i64.wrap (t37 + 1)))
    else
      none
  else
    bif decide (0 ≤ 1) && decide (1 ≤ (↑queue2.length : Int)) && decide ((↑queue2.length : Int) ≤ (↑queue2.length : Int)) then
      g0 set'2 (List.take ((↑queue2.length : Int) - 1).toNat (List.drop 1 queue2)) t152
    else
      none
def link_Needs_p (nf : Nat) (l0 : List (List Int × List (Int × Int × Unit) × List (Int × Int × Unit) × Unit) → Int → List Int → List Int × List (Int × Int) × List (Int × Int) × Unit → Option (Int × Int × Unit)) (l' : List (List Int × List (Int × Int × Unit) × List (Int × Int × Unit) × Unit)) : Option (Int × Int × Unit) :=
  Option.bind (link_build_f nf l') fun r =>
  match r.fst with
  | none => bif r.snd.fst != 0 then
        some ((0, r.snd.fst, ()))
      else
        bif (↑l'.length : Int) == 0 then
          some ((0, 0, ()))
        else
          none
  | some r2 =>
  bif r.snd.fst != 0 then
    some ((0, r.snd.fst, ()))
  else
    bif (↑l'.length : Int) == 0 then
      some ((0, 0, ()))
    else
      l0 l' 1 [0] r2
def link_Needs_l2 (nf : Nat) (l' : List (List Int × List (Int × Int × Unit) × List (Int × Int × Unit) × Unit)) (queue : List Int) (g0 : Int → List Int → List Int × List (Int × Int) × List (Int × Int) × Unit → Option (Int × Int × Unit)) : Nat → Int → List Int → List Int × List (Int × Int) × List (Int × Int) × Unit → Int → Option (Int × Int × Unit)
  | 0, _, _, _, _ => none
  | fu + 1, set'2, queue2, t152, t37 => link_Needs_b2 nf  l' queue g0 (link_Needs_l2 nf l' queue g0 fu) set'2 queue2 t152 t37
def link_Needs_l0 (nf : Nat) (l' : List (List Int × List (Int × Int × Unit) × List (Int × Int × Unit) × Unit)) : Nat → Int → List Int → List Int × List (Int × Int) × List (Int × Int) × Unit → Option (Int × Int × Unit)
  | 0, _, _, _ => none
  | fu + 1, set', queue, t15 => link_Needs_b0 nf (fun _ p1 v0 v1 v2 v3 => link_Needs_l2 nf l' p1 (fun set' queue t15 => link_Needs_l0 nf l'  fu set' queue t15) nf v0 v1 v2 v3) l'  (link_Needs_l0 nf l'  fu) set' queue t15
def link_Needs_f (nf : Nat) (l' : List (List Int × List (Int × Int × Unit) × List (Int × Int × Unit) × Unit)) : Option (Int × Int × Unit) := link_Needs_p nf (fun p0 v0 v1 v2 => link_Needs_l0 nf p0 nf v0 v1 v2) l'
noncomputable def link_Needs_L0 (nf : Nat) : LC (Int × Int × Unit) := theL (findL tab (link_Needs_phi nf) (fun _ F => iter nf F) link_Needs_keep 0 0 (codeOf Try.f16) (fin tab [(Ty.int IntKind.u32, Md.bor false true), (Ty.int IntKind.i64, Md.bor false true)] (resL ([]) Try.f16)) (fun _ _ => none) (fin tab [(Ty.int IntKind.u32, Md.bor false true), (Ty.int IntKind.i64, Md.bor false true)] (resL ([]) Try.f16)))
def link_Needs_m0 (l' : List (List Int × List (Int × Int × Unit) × List (Int × Int × Unit) × Unit)) (set' : Int) (queue : List Int) (t15 : List Int × List (Int × Int) × List (Int × Int) × Unit) : St := ⟨fresh, [(0, AV.v ((Ty.int IntKind.u8).sl.pair (((Ty.int IntKind.i64).pair ((Ty.int IntKind.i64).pair Ty.unit)).sl.pair (((Ty.int IntKind.i64).pair ((Ty.int IntKind.i64).pair Ty.unit)).sl.pair Ty.unit))).sl (Md.bor true false) l'), (4, AV.pl 15 15 [Stp.dr]), (6, AV.v (Ty.int IntKind.u32) (Md.bor false true) set'), (7, AV.ow 500007 (Ty.int IntKind.i64).sl (Md.own false (Md.bor false false)) queue), (12, AV.dead), (14, AV.dead), (15, AV.box 15 500015 ((Ty.int IntKind.i64).sl.pair (((Ty.int IntKind.i64).mp (Ty.int IntKind.i64)).pair (((Ty.int IntKind.i64).mp (Ty.int IntKind.i64)).pair Ty.unit))) ((Md.own false (Md.bor false false)).pair ((Md.own true (Md.bor false false)).pair ((Md.own true (Md.bor false false)).pair (Md.bor false false)))) t15), (23, AV.dead), (27, AV.dead), (28, AV.dead), (66, AV.dead)]⟩
noncomputable def link_Needs_L2 (nf : Nat) (G0 : St → Option (Int × Int × Unit)) : LC (Int × Int × Unit) := theL (findL tab (link_Needs_phi nf) (fun _ F => iter nf F) link_Needs_keep 2 0 (link_Needs_L0 nf ).c (fun st => norm (link_Needs_keep 0) st G0) (link_Needs_L0 nf ).Kx (link_Needs_L0 nf ).Kr)
def link_Needs_m2 (l' : List (List Int × List (Int × Int × Unit) × List (Int × Int × Unit) × Unit)) (queue : List Int) (set'2 : Int) (queue2 : List Int) (t152 : List Int × List (Int × Int) × List (Int × Int) × Unit) (t37 : Int) : St := ⟨fresh, [(0, AV.v ((Ty.int IntKind.u8).sl.pair (((Ty.int IntKind.i64).pair ((Ty.int IntKind.i64).pair Ty.unit)).sl.pair (((Ty.int IntKind.i64).pair ((Ty.int IntKind.i64).pair Ty.unit)).sl.pair Ty.unit))).sl (Md.bor true false) l'), (4, AV.pl 15 15 [Stp.dr]), (6, AV.v (Ty.int IntKind.u32) (Md.bor false true) set'2), (7, AV.ow 500007 (Ty.int IntKind.i64).sl (Md.own false (Md.bor false false)) queue2), (12, AV.dead), (14, AV.dead), (15, AV.box 15 500015 ((Ty.int IntKind.i64).sl.pair (((Ty.int IntKind.i64).mp (Ty.int IntKind.i64)).pair (((Ty.int IntKind.i64).mp (Ty.int IntKind.i64)).pair Ty.unit))) ((Md.own false (Md.bor false false)).pair ((Md.own true (Md.bor false false)).pair ((Md.own true (Md.bor false false)).pair (Md.bor false false)))) t152), (23, AV.dead), (27, AV.dead), (28, AV.dead), (29, AV.v ((Ty.int IntKind.u8).sl.pair (((Ty.int IntKind.i64).pair ((Ty.int IntKind.i64).pair Ty.unit)).sl.pair (((Ty.int IntKind.i64).pair ((Ty.int IntKind.i64).pair Ty.unit)).sl.pair Ty.unit))).sl (Md.bor true false) l'), (33, AV.rop ((Ty.int IntKind.u8).sl.pair (((Ty.int IntKind.i64).pair ((Ty.int IntKind.i64).pair Ty.unit)).sl.pair (((Ty.int IntKind.i64).pair ((Ty.int IntKind.i64).pair Ty.unit)).sl.pair Ty.unit))) (Md.bor true false) (l'.getD (Int.toNat (queue.getD 0 0)) ([], [], [], ()))), (34, AV.rop ((Ty.int IntKind.i64).pair ((Ty.int IntKind.i64).pair Ty.unit)).sl (Md.bor true false) (l'.getD (Int.toNat (queue.getD 0 0)) ([], [], [], ())).snd.snd.fst), (35, AV.v ((Ty.int IntKind.i64).pair ((Ty.int IntKind.i64).pair Ty.unit)).sl (Md.bor true false) (l'.getD (Int.toNat (queue.getD 0 0)) ([], [], [], ())).snd.snd.fst), (36, AV.v (Ty.int IntKind.i64) (Md.bor false true) (↑(List.length (l'.getD (Int.toNat (queue.getD 0 0)) ([], [], [], ())).snd.snd.fst) : Int)), (37, AV.v (Ty.int IntKind.i64) (Md.bor false true) t37), (66, AV.dead)]⟩
theorem link_Needs_h2 (nf : Nat) (G0 : St → Option (Int × Int × Unit)) (l' : List (List Int × List (Int × Int × Unit) × List (Int × Int × Unit) × Unit)) (queue : List Int) (fu : Nat) (set'2 : Int) (queue2 : List Int) (t152 : List Int × List (Int × Int) × List (Int × Int) × Unit) (t37 : Int) : iter (fu + 1) (LC.F tab (link_Needs_phi nf) (fun _ F => iter nf F) link_Needs_keep 2 (link_Needs_L2 nf G0)) (link_Needs_m2 l' queue set'2 queue2 t152 t37) = link_Needs_b2 nf  l' queue (fun set' queue t15 => G0 (link_Needs_m0 l' set' queue t15)) (fun set'2 queue2 t152 t37 => iter fu (LC.F tab (link_Needs_phi nf) (fun _ F => iter nf F) link_Needs_keep 2 (link_Needs_L2 nf G0)) (link_Needs_m2 l' queue set'2 queue2 t152 t37)) set'2 queue2 t152 t37 := by kernel_rfl
theorem link_Needs_e2 (nf : Nat) (G0 : St → Option (Int × Int × Unit)) (l' : List (List Int × List (Int × Int × Unit) × List (Int × Int × Unit) × Unit)) (queue : List Int) : ∀ (fu : Nat) (set'2 : Int) (queue2 : List Int) (t152 : List Int × List (Int × Int) × List (Int × Int) × Unit) (t37 : Int), iter fu (LC.F tab (link_Needs_phi nf) (fun _ F => iter nf F) link_Needs_keep 2 (link_Needs_L2 nf G0)) (link_Needs_m2 l' queue set'2 queue2 t152 t37) = link_Needs_l2 nf l' queue (fun set' queue t15 => G0 (link_Needs_m0 l' set' queue t15)) fu set'2 queue2 t152 t37 := by
  intro fu
  induction fu with
  | zero => intros; rfl
  | succ fu ih =>
    intro set'2 queue2 t152 t37
    rw [link_Needs_h2 nf G0 l' queue fu set'2 queue2 t152 t37]
    simp only [ih]
    rfl
theorem link_Needs_h0 (nf : Nat)  (l' : List (List Int × List (Int × Int × Unit) × List (Int × Int × Unit) × Unit)) (fu : Nat) (set' : Int) (queue : List Int) (t15 : List Int × List (Int × Int) × List (Int × Int) × Unit) : iter (fu + 1) (LC.F tab (link_Needs_phi nf) (fun _ F => iter nf F) link_Needs_keep 0 (link_Needs_L0 nf )) (link_Needs_m0 l' set' queue t15) = link_Needs_b0 nf (fun _ p1 v0 v1 v2 v3 => iter nf (LC.F tab (link_Needs_phi nf) (fun _ F => iter nf F) link_Needs_keep 2 (link_Needs_L2 nf (iter fu (LC.F tab (link_Needs_phi nf) (fun _ F => iter nf F) link_Needs_keep 0 (link_Needs_L0 nf ))))) (link_Needs_m2 l' p1 v0 v1 v2 v3)) l'  (fun set' queue t15 => iter fu (LC.F tab (link_Needs_phi nf) (fun _ F => iter nf F) link_Needs_keep 0 (link_Needs_L0 nf )) (link_Needs_m0 l' set' queue t15)) set' queue t15 := by kernel_rfl
theorem link_Needs_e0 (nf : Nat)  (l' : List (List Int × List (Int × Int × Unit) × List (Int × Int × Unit) × Unit)) : ∀ (fu : Nat) (set' : Int) (queue : List Int) (t15 : List Int × List (Int × Int) × List (Int × Int) × Unit), iter fu (LC.F tab (link_Needs_phi nf) (fun _ F => iter nf F) link_Needs_keep 0 (link_Needs_L0 nf )) (link_Needs_m0 l' set' queue t15) = link_Needs_l0 nf l'  fu set' queue t15 := by
  intro fu
  induction fu with
  | zero => intros; rfl
  | succ fu ih =>
    intro set' queue t15
    rw [link_Needs_h0 nf  l' fu set' queue t15]
    simp only [ih, link_Needs_e2]
    rfl
theorem link_Needs_eq (nf : Nat) (l' : List (List Int × List (Int × Int × Unit) × List (Int × Int × Unit) × Unit)) : runF tab (link_Needs_phi nf) link_Needs_keep nf [PT.val ((Ty.int IntKind.u8).sl.pair (((Ty.int IntKind.i64).pair ((Ty.int IntKind.i64).pair Ty.unit)).sl.pair (((Ty.int IntKind.i64).pair ((Ty.int IntKind.i64).pair Ty.unit)).sl.pair Ty.unit))).sl (Md.bor true false)] [(Ty.int IntKind.u32, Md.bor false true), (Ty.int IntKind.i64, Md.bor false true)] (resL ([]) Try.f16) (codeOf Try.f16) ⟨l', ()⟩ = link_Needs_f nf l' := by
  have h : runF tab (link_Needs_phi nf) link_Needs_keep nf [PT.val ((Ty.int IntKind.u8).sl.pair (((Ty.int IntKind.i64).pair ((Ty.int IntKind.i64).pair Ty.unit)).sl.pair (((Ty.int IntKind.i64).pair ((Ty.int IntKind.i64).pair Ty.unit)).sl.pair Ty.unit))).sl (Md.bor true false)] [(Ty.int IntKind.u32, Md.bor false true), (Ty.int IntKind.i64, Md.bor false true)] (resL ([]) Try.f16) (codeOf Try.f16) ⟨l', ()⟩ = link_Needs_p nf (fun p0 v0 v1 v2 => iter nf (LC.F tab (link_Needs_phi nf) (fun _ F => iter nf F) link_Needs_keep 0 (link_Needs_L0 nf)) (link_Needs_m0 p0 v0 v1 v2)) l' := by kernel_rfl
  rw [h]
  simp only [link_Needs_e0]
  rfl
def link_Needs_F (nf : Nat) (x : denPs [.val (.sl (.pair (.sl (.int .u8)) (.pair (.sl (.pair (.int .i64) (.pair (.int .i64) (.unit)))) (.pair (.sl (.pair (.int .i64) (.pair (.int .i64) (.unit)))) (.unit))))) (.bor true false)]) : Option (denL [(.int .u32, .bor false true), (.int .i64, .bor false true)]) := link_Needs_f nf x.1
def link_Needs_C (nf : Nat) : Contract := ⟨[.val (.sl (.pair (.sl (.int .u8)) (.pair (.sl (.pair (.int .i64) (.pair (.int .i64) (.unit)))) (.pair (.sl (.pair (.int .i64) (.pair (.int .i64) (.unit)))) (.unit))))) (.bor true false)], [(.int .u32, .bor false true), (.int .i64, .bor false true)], link_Needs_F nf, []⟩
theorem link_Needs_ok : FnOK Try.prog 16 := ⟨Try.f16, codeOf Try.f16, Try.func16, by kernel_rfl, by kernel_rfl⟩
theorem link_Needs_holds (nf : Nat) : Contract.Holds Try.prog 16 (link_Needs_C nf) :=
  fn_holds (Φ := link_Needs_phi nf) (keep := link_Needs_keep) (n := nf) ⟨tabs.1, tabs.2, (ctx_cons link_build_ok (link_build_holds nf) ctx_nil), mixed, bk_ok bkls rfl⟩ (fn := Try.f16) ⟨Try.func16, by kernel_rfl, by kernel_rfl, by kernel_rfl⟩ (fun x => link_Needs_eq nf x.1)

/-! codemason codemasonref.Has -/
def ref_Has_phi (nf : Nat) : Nat → Option Contract := lookC []
def ref_Has_keep : Nat → List Nat := lookK [(0, [0, 1, 7, 8, 9])]
def ref_Has_b0 (nf : Nat) (l' : List Int) (x : Int) (g0 : Int → Option (Bool × Unit)) (t9 : Int) : Option (Bool × Unit) :=
  bif decide (t9 < (↑l'.length : Int)) then
    bif inb t9 l'.length then
      bif x == l'.getD t9.toNat 0 then
        some ((true, ()))
      else
        g0 (IntKind.i64.wrap (t9 + 1))
    else
      none
  else
    some ((false, ()))
def ref_Has_p (nf : Nat) (l0 : List Int → Int → Int → Option (Bool × Unit)) (l' : List Int) (x : Int) : Option (Bool × Unit) :=
  l0 l' x 0
def ref_Has_l0 (nf : Nat) (l' : List Int) (x : Int) : Nat → Int → Option (Bool × Unit)
  | 0, _ => none
  | fu + 1, t9 => ref_Has_b0 nf  l' x  (ref_Has_l0 nf l' x  fu) t9
def ref_Has_f (nf : Nat) (l' : List Int) (x : Int) : Option (Bool × Unit) := ref_Has_p nf (fun p0 p1 v0 => ref_Has_l0 nf p0 p1 nf v0) l' x
noncomputable def ref_Has_L0 (nf : Nat) : LC (Bool × Unit) := theL (findL tab (ref_Has_phi nf) (fun _ F => iter nf F) ref_Has_keep 0 0 (codeOf Try.f37) (fin tab [(Ty.bool, Md.bor false true)] (resL ([]) Try.f37)) (fun _ _ => none) (fin tab [(Ty.bool, Md.bor false true)] (resL ([]) Try.f37)))
def ref_Has_m0 (l' : List Int) (x : Int) (t9 : Int) : St := ⟨fresh, [(0, AV.v (Ty.int IntKind.i64).sl (Md.bor true false) l'), (1, AV.v (Ty.int IntKind.i64) (Md.bor false true) x), (7, AV.v (Ty.int IntKind.i64).sl (Md.bor true false) l'), (8, AV.v (Ty.int IntKind.i64) (Md.bor false true) (↑l'.length : Int)), (9, AV.v (Ty.int IntKind.i64) (Md.bor false true) t9)]⟩
theorem ref_Has_h0 (nf : Nat)  (l' : List Int) (x : Int) (fu : Nat) (t9 : Int) : iter (fu + 1) (LC.F tab (ref_Has_phi nf) (fun _ F => iter nf F) ref_Has_keep 0 (ref_Has_L0 nf )) (ref_Has_m0 l' x t9) = ref_Has_b0 nf  l' x  (fun t9 => iter fu (LC.F tab (ref_Has_phi nf) (fun _ F => iter nf F) ref_Has_keep 0 (ref_Has_L0 nf )) (ref_Has_m0 l' x t9)) t9 := by kernel_rfl
theorem ref_Has_e0 (nf : Nat)  (l' : List Int) (x : Int) : ∀ (fu : Nat) (t9 : Int), iter fu (LC.F tab (ref_Has_phi nf) (fun _ F => iter nf F) ref_Has_keep 0 (ref_Has_L0 nf )) (ref_Has_m0 l' x t9) = ref_Has_l0 nf l' x  fu t9 := by
  intro fu
  induction fu with
  | zero => intros; rfl
  | succ fu ih =>
    intro t9
    rw [ref_Has_h0 nf  l' x fu t9]
    simp only [ih]
    rfl
theorem ref_Has_eq (nf : Nat) (l' : List Int) (x : Int) : runF tab (ref_Has_phi nf) ref_Has_keep nf [PT.val (Ty.int IntKind.i64).sl (Md.bor true false), PT.val (Ty.int IntKind.i64) (Md.bor true false)] [(Ty.bool, Md.bor false true)] (resL ([]) Try.f37) (codeOf Try.f37) ⟨l', x, ()⟩ = ref_Has_f nf l' x := by
  have h : runF tab (ref_Has_phi nf) ref_Has_keep nf [PT.val (Ty.int IntKind.i64).sl (Md.bor true false), PT.val (Ty.int IntKind.i64) (Md.bor true false)] [(Ty.bool, Md.bor false true)] (resL ([]) Try.f37) (codeOf Try.f37) ⟨l', x, ()⟩ = ref_Has_p nf (fun p0 p1 v0 => iter nf (LC.F tab (ref_Has_phi nf) (fun _ F => iter nf F) ref_Has_keep 0 (ref_Has_L0 nf)) (ref_Has_m0 p0 p1 v0)) l' x := by kernel_rfl
  rw [h]
  simp only [ref_Has_e0]
  rfl
def ref_Has_F (nf : Nat) (x : denPs [.val (.sl (.int .i64)) (.bor true false), .val (.int .i64) (.bor true false)]) : Option (denL [(.bool, .bor false true)]) := ref_Has_f nf x.1 x.2.1
def ref_Has_C (nf : Nat) : Contract := ⟨[.val (.sl (.int .i64)) (.bor true false), .val (.int .i64) (.bor true false)], [(.bool, .bor false true)], ref_Has_F nf, []⟩
theorem ref_Has_ok : FnOK Try.prog 37 := ⟨Try.f37, codeOf Try.f37, Try.func37, by kernel_rfl, by kernel_rfl⟩
theorem ref_Has_holds (nf : Nat) : Contract.Holds Try.prog 37 (ref_Has_C nf) :=
  fn_holds (Φ := ref_Has_phi nf) (keep := ref_Has_keep) (n := nf) ⟨tabs.1, tabs.2, ctx_nil, mixed, bk_ok bkls rfl⟩ (fn := Try.f37) ⟨Try.func37, by kernel_rfl, by kernel_rfl, by kernel_rfl⟩ (fun x => ref_Has_eq nf x.1 x.2.1)

/-! codemason codemasonref.Set -/
def ref_Set_phi (nf : Nat) : Nat → Option Contract := lookC []
def ref_Set_keep : Nat → List Nat := lookK [(0, [0, 3, 6, 7, 8])]
def ref_Set_b0 (nf : Nat) (l' : List Int) (g0 : Int → Int → Option (Int × Unit)) (s : Int) (t8 : Int) : Option (Int × Unit) :=
  bif decide (t8 < (↑l'.length : Int)) then
    bif inb t8 l'.length then
      bif decide (0 ≤ IntKind.u64.wrap (l'.getD t8.toNat 0)) then
        g0 (IntKind.u32.wrap (↑(BitVec.ofInt IntKind.u32.bits s ||| BitVec.ofInt IntKind.u32.bits (shlI IntKind.u32 1 (IntKind.u64.wrap (l'.getD t8.toNat 0)))).toNat : Int)) (IntKind.i64.wrap (t8 + 1))
      else
        none
    else
      none
  else
    some ((s, ()))
def ref_Set_p (nf : Nat) (l0 : List Int → Int → Int → Option (Int × Unit)) (l' : List Int) : Option (Int × Unit) :=
  l0 l' 0 0
def ref_Set_l0 (nf : Nat) (l' : List Int) : Nat → Int → Int → Option (Int × Unit)
  | 0, _, _ => none
  | fu + 1, s, t8 => ref_Set_b0 nf  l'  (ref_Set_l0 nf l'  fu) s t8
def ref_Set_f (nf : Nat) (l' : List Int) : Option (Int × Unit) := ref_Set_p nf (fun p0 v0 v1 => ref_Set_l0 nf p0 nf v0 v1) l'
noncomputable def ref_Set_L0 (nf : Nat) : LC (Int × Unit) := theL (findL tab (ref_Set_phi nf) (fun _ F => iter nf F) ref_Set_keep 0 0 (codeOf Try.f42) (fin tab [(Ty.int IntKind.u32, Md.bor false true)] (resL ([]) Try.f42)) (fun _ _ => none) (fin tab [(Ty.int IntKind.u32, Md.bor false true)] (resL ([]) Try.f42)))
def ref_Set_m0 (l' : List Int) (s : Int) (t8 : Int) : St := ⟨fresh, [(0, AV.v (Ty.int IntKind.i64).sl (Md.bor true false) l'), (3, AV.v (Ty.int IntKind.u32) (Md.bor false true) s), (6, AV.v (Ty.int IntKind.i64).sl (Md.bor true false) l'), (7, AV.v (Ty.int IntKind.i64) (Md.bor false true) (↑l'.length : Int)), (8, AV.v (Ty.int IntKind.i64) (Md.bor false true) t8)]⟩
theorem ref_Set_h0 (nf : Nat)  (l' : List Int) (fu : Nat) (s : Int) (t8 : Int) : iter (fu + 1) (LC.F tab (ref_Set_phi nf) (fun _ F => iter nf F) ref_Set_keep 0 (ref_Set_L0 nf )) (ref_Set_m0 l' s t8) = ref_Set_b0 nf  l'  (fun s t8 => iter fu (LC.F tab (ref_Set_phi nf) (fun _ F => iter nf F) ref_Set_keep 0 (ref_Set_L0 nf )) (ref_Set_m0 l' s t8)) s t8 := by kernel_rfl
theorem ref_Set_e0 (nf : Nat)  (l' : List Int) : ∀ (fu : Nat) (s : Int) (t8 : Int), iter fu (LC.F tab (ref_Set_phi nf) (fun _ F => iter nf F) ref_Set_keep 0 (ref_Set_L0 nf )) (ref_Set_m0 l' s t8) = ref_Set_l0 nf l'  fu s t8 := by
  intro fu
  induction fu with
  | zero => intros; rfl
  | succ fu ih =>
    intro s t8
    rw [ref_Set_h0 nf  l' fu s t8]
    simp only [ih]
    rfl
theorem ref_Set_eq (nf : Nat) (l' : List Int) : runF tab (ref_Set_phi nf) ref_Set_keep nf [PT.val (Ty.int IntKind.i64).sl (Md.bor true false)] [(Ty.int IntKind.u32, Md.bor false true)] (resL ([]) Try.f42) (codeOf Try.f42) ⟨l', ()⟩ = ref_Set_f nf l' := by
  have h : runF tab (ref_Set_phi nf) ref_Set_keep nf [PT.val (Ty.int IntKind.i64).sl (Md.bor true false)] [(Ty.int IntKind.u32, Md.bor false true)] (resL ([]) Try.f42) (codeOf Try.f42) ⟨l', ()⟩ = ref_Set_p nf (fun p0 v0 v1 => iter nf (LC.F tab (ref_Set_phi nf) (fun _ F => iter nf F) ref_Set_keep 0 (ref_Set_L0 nf)) (ref_Set_m0 p0 v0 v1)) l' := by kernel_rfl
  rw [h]
  simp only [ref_Set_e0]
  rfl
def ref_Set_F (nf : Nat) (x : denPs [.val (.sl (.int .i64)) (.bor true false)]) : Option (denL [(.int .u32, .bor false true)]) := ref_Set_f nf x.1
def ref_Set_C (nf : Nat) : Contract := ⟨[.val (.sl (.int .i64)) (.bor true false)], [(.int .u32, .bor false true)], ref_Set_F nf, []⟩
theorem ref_Set_ok : FnOK Try.prog 42 := ⟨Try.f42, codeOf Try.f42, Try.func42, by kernel_rfl, by kernel_rfl⟩
theorem ref_Set_holds (nf : Nat) : Contract.Holds Try.prog 42 (ref_Set_C nf) :=
  fn_holds (Φ := ref_Set_phi nf) (keep := ref_Set_keep) (n := nf) ⟨tabs.1, tabs.2, ctx_nil, mixed, bk_ok bkls rfl⟩ (fn := Try.f42) ⟨Try.func42, by kernel_rfl, by kernel_rfl, by kernel_rfl⟩ (fun x => ref_Set_eq nf x.1)

/-! codemason codemasonref.Reach -/
def ref_Reach_phi (nf : Nat) : Nat → Option Contract := lookC [(37, ref_Has_C nf)]
def ref_Reach_keep : Nat → List Nat := lookK [(2, [0, 2, 7, 8, 15, 22, 27, 28, 29, 30, 46]), (0, [0, 2, 7, 8, 15, 46])]
def ref_Reach_b0 (nf : Nat) (l2 : List (List Int) → Int → Int → List Int → List Int → Int → Option (List Int × Unit)) (next : List (List Int)) (without : Int) (g0 : List Int → Int → Option (List Int × Unit)) (here : List Int) (k' : Int) : Option (List Int × Unit) :=
  bif decide (k' < (↑here.length : Int)) then
    bif inb k' here.length then
      bif inb (here.getD k'.toNat 0) next.length then
        l2 next without k' here here 0
      else
        none
    else
      none
  else
    some ((here, ()))
def ref_Reach_b2 (nf : Nat) (next : List (List Int)) (without : Int) (k' : Int) (here : List Int) (g0 : List Int → Int → Option (List Int × Unit)) (g2 : List Int → Int → Option (List Int × Unit)) (here2 : List Int) (t30 : Int) : Option (List Int × Unit) :=
  bif decide (t30 < (↑(List.length (next.getD (Int.toNat (here.getD k'.toNat 0)) [])) : Int)) then
    bif inb t30 (List.length (next.getD (Int.toNat (here.getD k'.toNat 0)) [])) then
      bif List.getD (next.getD (Int.toNat (here.getD k'.toNat 0)) []) t30.toNat 0 != without then
        Option.bind (ref_Has_f nf here2 (List.getD (next.getD (Int.toNat (here.getD k'.toNat 0)) []) t30.toNat 0)) fun r =>
        bif !r.fst then
          bif bimp false ![List.getD (next.getD (Int.toNat (here.getD k'.toNat 0)) []) t30.toNat 0].isEmpty && (here2.length + [List.getD (next.getD (Int.toNat (here.getD k'.toNat 0)) []) t30.toNat 0].length).ble lim then
            g2 (here2 ++ [List.getD (next.getD (Int.toNat (here.getD k'.toNat 0)) []) t30.toNat 0]) (IntKind.i64.wrap (t30 + 1))
          else
            none
        else
          g2 here2 (IntKind.i64.wrap (t30 + 1))
      else
        g2 here2 (IntKind.i64.wrap (t30 + 1))
    else
      none
  else
    g0 here2 (IntKind.i64.wrap (k' + 1))
def ref_Reach_p (nf : Nat) (l0 : List (List Int) → Int → List Int → Int → Option (List Int × Unit)) (next : List (List Int)) (i : Int) (without : Int) : Option (List Int × Unit) :=
  bif i == without then
    some (([], ()))
  else
    l0 next without [i] 0
def ref_Reach_l2 (nf : Nat) (next : List (List Int)) (without : Int) (k' : Int) (here : List Int) (g0 : List Int → Int → Option (List Int × Unit)) : Nat → List Int → Int → Option (List Int × Unit)
  | 0, _, _ => none
  | fu + 1, here2, t30 => ref_Reach_b2 nf  next without k' here g0 (ref_Reach_l2 nf next without k' here g0 fu) here2 t30
def ref_Reach_l0 (nf : Nat) (next : List (List Int)) (without : Int) : Nat → List Int → Int → Option (List Int × Unit)
  | 0, _, _ => none
  | fu + 1, here, k' => ref_Reach_b0 nf (fun _ _ p2 p3 v0 v1 => ref_Reach_l2 nf next without p2 p3 (fun here k' => ref_Reach_l0 nf next without  fu here k') nf v0 v1) next without  (ref_Reach_l0 nf next without  fu) here k'
def ref_Reach_f (nf : Nat) (next : List (List Int)) (i : Int) (without : Int) : Option (List Int × Unit) := ref_Reach_p nf (fun p0 p1 v0 v1 => ref_Reach_l0 nf p0 p1 nf v0 v1) next i without
noncomputable def ref_Reach_L0 (nf : Nat) : LC (List Int × Unit) := theL (findL tab (ref_Reach_phi nf) (fun _ F => iter nf F) ref_Reach_keep 0 0 (codeOf Try.f43) (fin tab [((Ty.int IntKind.i64).sl, Md.own false (Md.bor false false))] (resL ([]) Try.f43)) (fun _ _ => none) (fin tab [((Ty.int IntKind.i64).sl, Md.own false (Md.bor false false))] (resL ([]) Try.f43)))
def ref_Reach_m0 (next : List (List Int)) (without : Int) (here : List Int) (k' : Int) : St := ⟨fresh, [(0, AV.v (Ty.int IntKind.i64).sl.sl (Md.bor true false) next), (2, AV.v (Ty.int IntKind.i64) (Md.bor false true) without), (7, AV.ow 500007 (Ty.int IntKind.i64).sl (Md.own false (Md.bor false false)) here), (8, AV.v (Ty.int IntKind.i64) (Md.bor false true) k'), (15, AV.dead), (46, AV.dead)]⟩
noncomputable def ref_Reach_L2 (nf : Nat) (G0 : St → Option (List Int × Unit)) : LC (List Int × Unit) := theL (findL tab (ref_Reach_phi nf) (fun _ F => iter nf F) ref_Reach_keep 2 0 (ref_Reach_L0 nf ).c (fun st => norm (ref_Reach_keep 0) st G0) (ref_Reach_L0 nf ).Kx (ref_Reach_L0 nf ).Kr)
def ref_Reach_m2 (next : List (List Int)) (without : Int) (k' : Int) (here : List Int) (here2 : List Int) (t30 : Int) : St := ⟨fresh, [(0, AV.v (Ty.int IntKind.i64).sl.sl (Md.bor true false) next), (2, AV.v (Ty.int IntKind.i64) (Md.bor false true) without), (7, AV.ow 500007 (Ty.int IntKind.i64).sl (Md.own false (Md.bor false false)) here2), (8, AV.v (Ty.int IntKind.i64) (Md.bor false true) k'), (15, AV.dead), (22, AV.v (Ty.int IntKind.i64).sl.sl (Md.bor true false) next), (27, AV.rop (Ty.int IntKind.i64).sl (Md.bor true false) (next.getD (Int.toNat (here.getD k'.toNat 0)) [])), (28, AV.v (Ty.int IntKind.i64).sl (Md.bor true false) (next.getD (Int.toNat (here.getD k'.toNat 0)) [])), (29, AV.v (Ty.int IntKind.i64) (Md.bor false true) (↑(List.length (next.getD (Int.toNat (here.getD k'.toNat 0)) [])) : Int)), (30, AV.v (Ty.int IntKind.i64) (Md.bor false true) t30), (46, AV.dead)]⟩
theorem ref_Reach_h2 (nf : Nat) (G0 : St → Option (List Int × Unit)) (next : List (List Int)) (without : Int) (k' : Int) (here : List Int) (fu : Nat) (here2 : List Int) (t30 : Int) : iter (fu + 1) (LC.F tab (ref_Reach_phi nf) (fun _ F => iter nf F) ref_Reach_keep 2 (ref_Reach_L2 nf G0)) (ref_Reach_m2 next without k' here here2 t30) = ref_Reach_b2 nf  next without k' here (fun here k' => G0 (ref_Reach_m0 next without here k')) (fun here2 t30 => iter fu (LC.F tab (ref_Reach_phi nf) (fun _ F => iter nf F) ref_Reach_keep 2 (ref_Reach_L2 nf G0)) (ref_Reach_m2 next without k' here here2 t30)) here2 t30 := by kernel_rfl
theorem ref_Reach_e2 (nf : Nat) (G0 : St → Option (List Int × Unit)) (next : List (List Int)) (without : Int) (k' : Int) (here : List Int) : ∀ (fu : Nat) (here2 : List Int) (t30 : Int), iter fu (LC.F tab (ref_Reach_phi nf) (fun _ F => iter nf F) ref_Reach_keep 2 (ref_Reach_L2 nf G0)) (ref_Reach_m2 next without k' here here2 t30) = ref_Reach_l2 nf next without k' here (fun here k' => G0 (ref_Reach_m0 next without here k')) fu here2 t30 := by
  intro fu
  induction fu with
  | zero => intros; rfl
  | succ fu ih =>
    intro here2 t30
    rw [ref_Reach_h2 nf G0 next without k' here fu here2 t30]
    simp only [ih]
    rfl
theorem ref_Reach_h0 (nf : Nat)  (next : List (List Int)) (without : Int) (fu : Nat) (here : List Int) (k' : Int) : iter (fu + 1) (LC.F tab (ref_Reach_phi nf) (fun _ F => iter nf F) ref_Reach_keep 0 (ref_Reach_L0 nf )) (ref_Reach_m0 next without here k') = ref_Reach_b0 nf (fun _ _ p2 p3 v0 v1 => iter nf (LC.F tab (ref_Reach_phi nf) (fun _ F => iter nf F) ref_Reach_keep 2 (ref_Reach_L2 nf (iter fu (LC.F tab (ref_Reach_phi nf) (fun _ F => iter nf F) ref_Reach_keep 0 (ref_Reach_L0 nf ))))) (ref_Reach_m2 next without p2 p3 v0 v1)) next without  (fun here k' => iter fu (LC.F tab (ref_Reach_phi nf) (fun _ F => iter nf F) ref_Reach_keep 0 (ref_Reach_L0 nf )) (ref_Reach_m0 next without here k')) here k' := by kernel_rfl
theorem ref_Reach_e0 (nf : Nat)  (next : List (List Int)) (without : Int) : ∀ (fu : Nat) (here : List Int) (k' : Int), iter fu (LC.F tab (ref_Reach_phi nf) (fun _ F => iter nf F) ref_Reach_keep 0 (ref_Reach_L0 nf )) (ref_Reach_m0 next without here k') = ref_Reach_l0 nf next without  fu here k' := by
  intro fu
  induction fu with
  | zero => intros; rfl
  | succ fu ih =>
    intro here k'
    rw [ref_Reach_h0 nf  next without fu here k']
    simp only [ih, ref_Reach_e2]
    rfl
theorem ref_Reach_eq (nf : Nat) (next : List (List Int)) (i : Int) (without : Int) : runF tab (ref_Reach_phi nf) ref_Reach_keep nf [PT.val (Ty.int IntKind.i64).sl.sl (Md.bor true false), PT.val (Ty.int IntKind.i64) (Md.bor true false), PT.val (Ty.int IntKind.i64) (Md.bor true false)] [((Ty.int IntKind.i64).sl, Md.own false (Md.bor false false))] (resL ([]) Try.f43) (codeOf Try.f43) ⟨next, i, without, ()⟩ = ref_Reach_f nf next i without := by
  have h : runF tab (ref_Reach_phi nf) ref_Reach_keep nf [PT.val (Ty.int IntKind.i64).sl.sl (Md.bor true false), PT.val (Ty.int IntKind.i64) (Md.bor true false), PT.val (Ty.int IntKind.i64) (Md.bor true false)] [((Ty.int IntKind.i64).sl, Md.own false (Md.bor false false))] (resL ([]) Try.f43) (codeOf Try.f43) ⟨next, i, without, ()⟩ = ref_Reach_p nf (fun p0 p1 v0 v1 => iter nf (LC.F tab (ref_Reach_phi nf) (fun _ F => iter nf F) ref_Reach_keep 0 (ref_Reach_L0 nf)) (ref_Reach_m0 p0 p1 v0 v1)) next i without := by kernel_rfl
  rw [h]
  simp only [ref_Reach_e0]
  rfl
def ref_Reach_F (nf : Nat) (x : denPs [.val (.sl (.sl (.int .i64))) (.bor true false), .val (.int .i64) (.bor true false), .val (.int .i64) (.bor true false)]) : Option (denL [(.sl (.int .i64), .own false (.bor false false))]) := ref_Reach_f nf x.1 x.2.1 x.2.2.1
def ref_Reach_C (nf : Nat) : Contract := ⟨[.val (.sl (.sl (.int .i64))) (.bor true false), .val (.int .i64) (.bor true false), .val (.int .i64) (.bor true false)], [(.sl (.int .i64), .own false (.bor false false))], ref_Reach_F nf, []⟩
theorem ref_Reach_ok : FnOK Try.prog 43 := ⟨Try.f43, codeOf Try.f43, Try.func43, by kernel_rfl, by kernel_rfl⟩
theorem ref_Reach_holds (nf : Nat) : Contract.Holds Try.prog 43 (ref_Reach_C nf) :=
  fn_holds (Φ := ref_Reach_phi nf) (keep := ref_Reach_keep) (n := nf) ⟨tabs.1, tabs.2, (ctx_cons ref_Has_ok (ref_Has_holds nf) ctx_nil), mixed, bk_ok bkls rfl⟩ (fn := Try.f43) ⟨Try.func43, by kernel_rfl, by kernel_rfl, by kernel_rfl⟩ (fun x => ref_Reach_eq nf x.1 x.2.1 x.2.2.1)

/-! codemason codemasonref.Wanted -/
def ref_Wanted_phi (nf : Nat) : Nat → Option Contract := lookC [(37, ref_Has_C nf), (42, ref_Set_C nf), (43, ref_Reach_C nf)]
def ref_Wanted_keep : Nat → List Nat := lookK [(6, [0, 3, 5, 6, 7, 8, 10, 13, 14, 15, 19, 20, 21, 26, 27, 28, 29, 33, 34, 35, 36, 54, 61]), (4, [0, 3, 5, 6, 7, 8, 13, 14, 15, 19, 20, 21, 26, 27, 28, 29, 54, 61]), (2, [0, 3, 5, 6, 13, 14, 15, 19, 20, 21, 54, 61]), (0, [0, 3, 13, 14, 15, 54, 61])]
def ref_Wanted_b0 (nf : Nat) (l2 : List (List Int × List (Int × Int × Unit) × List (Int × Int × Unit) × Unit) → Int → List (List Int) → List Int × List (Int × Int × Unit) × List (Int × Int × Unit) × Unit → List Int → Int → Option (Int × Unit)) (l' : List (List Int × List (Int × Int × Unit) × List (Int × Int × Unit) × Unit)) (g0 : List (List Int) → Int → Option (Int × Unit)) (next : List (List Int)) (t15 : Int) : Option (Int × Unit) :=
  bif decide (t15 < (↑l'.length : Int)) then
    bif inb t15 l'.length then
      l2 l' t15 next (l'.getD t15.toNat ([], [], [], ())) [] 0
    else
      none
  else
    bif (↑l'.length : Int) == 0 then
      some ((0, ()))
    else
      Option.bind (ref_Reach_f nf next 0 (-1)) fun r2 =>
      Option.bind (ref_Set_f nf r2.fst) fun r3 =>
      some ((r3.fst, ()))
def ref_Wanted_b2 (nf : Nat) (l4 : List (List Int × List (Int × Int × Unit) × List (Int × Int × Unit) × Unit) → Int → Int → List Int × List (Int × Int × Unit) × List (Int × Int × Unit) × Unit → List (List Int) → List Int × List (Int × Int × Unit) × List (Int × Int × Unit) × Unit → List Int → List Int × List (Int × Int × Unit) × List (Int × Int × Unit) × Unit → Int → Option (Int × Unit)) (l' : List (List Int × List (Int × Int × Unit) × List (Int × Int × Unit) × Unit)) (t15 : Int) (g0 : List (List Int) → Int → Option (Int × Unit)) (g2 : List (List Int) → List Int × List (Int × Int × Unit) × List (Int × Int × Unit) × Unit → List Int → Int → Option (Int × Unit)) (next2 : List (List Int)) (o : List Int × List (Int × Int × Unit) × List (Int × Int × Unit) × Unit) (to' : List Int) (t21 : Int) : Option (Int × Unit) :=
  bif decide (t21 < (↑l'.length : Int)) then
    bif inb t21 l'.length then
      l4 l' t21 t15 o next2 o to' (l'.getD t21.toNat ([], [], [], ())) 0
    else
      none
  else
    bif !false && leM (Ty.int IntKind.i64).sl 0 (Md.bor false false) (Md.bor false false) && (next2.length + [to'].length).ble lim then
      g0 (next2 ++ [to']) (IntKind.i64.wrap (t15 + 1))
    else
      none
def ref_Wanted_b4 (nf : Nat) (l6 : List (List Int × List (Int × Int × Unit) × List (Int × Int × Unit) × Unit) → Int → Int → List Int × List (Int × Int × Unit) × List (Int × Int × Unit) × Unit → Int → List Int × List (Int × Int × Unit) × List (Int × Int × Unit) × Unit → List (List Int) → List Int × List (Int × Int × Unit) × List (Int × Int × Unit) × Unit → List Int → List Int × List (Int × Int × Unit) × List (Int × Int × Unit) × Unit → Int × Int × Unit → Int → Option (Int × Unit)) (l' : List (List Int × List (Int × Int × Unit) × List (Int × Int × Unit) × Unit)) (t21 : Int) (t15 : Int) (o : List Int × List (Int × Int × Unit) × List (Int × Int × Unit) × Unit) (g2 : List (List Int) → List Int × List (Int × Int × Unit) × List (Int × Int × Unit) × Unit → List Int → Int → Option (Int × Unit)) (g0 : List (List Int) → Int → Option (Int × Unit)) (g4 : List (List Int) → List Int × List (Int × Int × Unit) × List (Int × Int × Unit) × Unit → List Int → List Int × List (Int × Int × Unit) × List (Int × Int × Unit) × Unit → Int → Option (Int × Unit)) (next3 : List (List Int)) (o2 : List Int × List (Int × Int × Unit) × List (Int × Int × Unit) × Unit) (to'2 : List Int) (p : List Int × List (Int × Int × Unit) × List (Int × Int × Unit) × Unit) (t29 : Int) : Option (Int × Unit) :=
  bif decide (t29 < (↑(List.length o.snd.snd.fst) : Int)) then
    bif inb t29 (List.length o.snd.snd.fst) then
      l6 l' t21 t15 o t29 p next3 o2 to'2 p (List.getD o.snd.snd.fst t29.toNat (0, 0, ())) 0
    else
      none
  else
    g2 next3 o2 to'2 (IntKind.i64.wrap (t21 + 1))
def ref_Wanted_b6 (nf : Nat) (l' : List (List Int × List (Int × Int × Unit) × List (Int × Int × Unit) × Unit)) (t21 : Int) (t15 : Int) (o : List Int × List (Int × Int × Unit) × List (Int × Int × Unit) × Unit) (t29 : Int) (p : List Int × List (Int × Int × Unit) × List (Int × Int × Unit) × Unit) (g4 : List (List Int) → List Int × List (Int × Int × Unit) × List (Int × Int × Unit) × Unit → List Int → List Int × List (Int × Int × Unit) × List (Int × Int × Unit) × Unit → Int → Option (Int × Unit)) (g2 : List (List Int) → List Int × List (Int × Int × Unit) × List (Int × Int × Unit) × Unit → List Int → Int → Option (Int × Unit)) (g0 : List (List Int) → Int → Option (Int × Unit)) (g6 : List (List Int) → List Int × List (Int × Int × Unit) × List (Int × Int × Unit) × Unit → List Int → List Int × List (Int × Int × Unit) × List (Int × Int × Unit) × Unit → Int × Int × Unit → Int → Option (Int × Unit)) (next4 : List (List Int)) (o3 : List Int × List (Int × Int × Unit) × List (Int × Int × Unit) × Unit) (to'3 : List Int) (p2 : List Int × List (Int × Int × Unit) × List (Int × Int × Unit) × Unit) (w : Int × Int × Unit) (t36 : Int) : Option (Int × Unit) :=
  bif decide (t36 < (↑(List.length p.snd.fst) : Int)) then
    bif inb t36 (List.length p.snd.fst) then
      bif w.fst == (List.getD p.snd.fst t36.toNat (0, 0, ())).fst then
        Option.bind (ref_Has_f nf to'3 t21) fun r =>
        bif !r.fst then
          bif bimp false ![t21].isEmpty && (to'3.length + [t21].length).ble lim then
            g6 next4 o3 (to'3 ++ [t21]) p2 w (IntKind.i64.wrap (t36 + 1))
          else
            none
        else
          g6 next4 o3 to'3 p2 w (IntKind.i64.wrap (t36 + 1))
      else
        g6 next4 o3 to'3 p2 w (IntKind.i64.wrap (t36 + 1))
    else
      none
  else
    g4 next4 o3 to'3 p2 (IntKind.i64.wrap (t29 + 1))
def ref_Wanted_p (nf : Nat) (l0 : List (List Int × List (Int × Int × Unit) × List (Int × Int × Unit) × Unit) → List (List Int) → Int → Option (Int × Unit)) (l' : List (List Int × List (Int × Int × Unit) × List (Int × Int × Unit) × Unit)) : Option (Int × Unit) :=
  l0 l' [] 0
def ref_Wanted_l6 (nf : Nat) (l' : List (List Int × List (Int × Int × Unit) × List (Int × Int × Unit) × Unit)) (t21 : Int) (t15 : Int) (o : List Int × List (Int × Int × Unit) × List (Int × Int × Unit) × Unit) (t29 : Int) (p : List Int × List (Int × Int × Unit) × List (Int × Int × Unit) × Unit) (g4 : List (List Int) → List Int × List (Int × Int × Unit) × List (Int × Int × Unit) × Unit → List Int → List Int × List (Int × Int × Unit) × List (Int × Int × Unit) × Unit → Int → Option (Int × Unit)) (g2 : List (List Int) → List Int × List (Int × Int × Unit) × List (Int × Int × Unit) × Unit → List Int → Int → Option (Int × Unit)) (g0 : List (List Int) → Int → Option (Int × Unit)) : Nat → List (List Int) → List Int × List (Int × Int × Unit) × List (Int × Int × Unit) × Unit → List Int → List Int × List (Int × Int × Unit) × List (Int × Int × Unit) × Unit → Int × Int × Unit → Int → Option (Int × Unit)
  | 0, _, _, _, _, _, _ => none
  | fu + 1, next4, o3, to'3, p2, w, t36 => ref_Wanted_b6 nf  l' t21 t15 o t29 p g4 g2 g0 (ref_Wanted_l6 nf l' t21 t15 o t29 p g4 g2 g0 fu) next4 o3 to'3 p2 w t36
def ref_Wanted_l4 (nf : Nat) (l' : List (List Int × List (Int × Int × Unit) × List (Int × Int × Unit) × Unit)) (t21 : Int) (t15 : Int) (o : List Int × List (Int × Int × Unit) × List (Int × Int × Unit) × Unit) (g2 : List (List Int) → List Int × List (Int × Int × Unit) × List (Int × Int × Unit) × Unit → List Int → Int → Option (Int × Unit)) (g0 : List (List Int) → Int → Option (Int × Unit)) : Nat → List (List Int) → List Int × List (Int × Int × Unit) × List (Int × Int × Unit) × Unit → List Int → List Int × List (Int × Int × Unit) × List (Int × Int × Unit) × Unit → Int → Option (Int × Unit)
  | 0, _, _, _, _, _ => none
  | fu + 1, next3, o2, to'2, p, t29 => ref_Wanted_b4 nf (fun _ _ _ _ p4 p5 v0 v1 v2 v3 v4 v5 => ref_Wanted_l6 nf l' t21 t15 o p4 p5 (fun next3 o2 to'2 p t29 => ref_Wanted_l4 nf l' t21 t15 o g2 g0 fu next3 o2 to'2 p t29) g2 g0 nf v0 v1 v2 v3 v4 v5) l' t21 t15 o g2 g0 (ref_Wanted_l4 nf l' t21 t15 o g2 g0 fu) next3 o2 to'2 p t29
def ref_Wanted_l2 (nf : Nat) (l' : List (List Int × List (Int × Int × Unit) × List (Int × Int × Unit) × Unit)) (t15 : Int) (g0 : List (List Int) → Int → Option (Int × Unit)) : Nat → List (List Int) → List Int × List (Int × Int × Unit) × List (Int × Int × Unit) × Unit → List Int → Int → Option (Int × Unit)
  | 0, _, _, _, _ => none
  | fu + 1, next2, o, to', t21 => ref_Wanted_b2 nf (fun _ p1 _ p3 v0 v1 v2 v3 v4 => ref_Wanted_l4 nf l' p1 t15 p3 (fun next2 o to' t21 => ref_Wanted_l2 nf l' t15 g0 fu next2 o to' t21) g0 nf v0 v1 v2 v3 v4) l' t15 g0 (ref_Wanted_l2 nf l' t15 g0 fu) next2 o to' t21
def ref_Wanted_l0 (nf : Nat) (l' : List (List Int × List (Int × Int × Unit) × List (Int × Int × Unit) × Unit)) : Nat → List (List Int) → Int → Option (Int × Unit)
  | 0, _, _ => none
  | fu + 1, next, t15 => ref_Wanted_b0 nf (fun _ p1 v0 v1 v2 v3 => ref_Wanted_l2 nf l' p1 (fun next t15 => ref_Wanted_l0 nf l'  fu next t15) nf v0 v1 v2 v3) l'  (ref_Wanted_l0 nf l'  fu) next t15
def ref_Wanted_f (nf : Nat) (l' : List (List Int × List (Int × Int × Unit) × List (Int × Int × Unit) × Unit)) : Option (Int × Unit) := ref_Wanted_p nf (fun p0 v0 v1 => ref_Wanted_l0 nf p0 nf v0 v1) l'
noncomputable def ref_Wanted_L0 (nf : Nat) : LC (Int × Unit) := theL (findL tab (ref_Wanted_phi nf) (fun _ F => iter nf F) ref_Wanted_keep 0 0 (codeOf Try.f17) (fin tab [(Ty.int IntKind.u32, Md.bor false true)] (resL ([]) Try.f17)) (fun _ _ => none) (fin tab [(Ty.int IntKind.u32, Md.bor false true)] (resL ([]) Try.f17)))
def ref_Wanted_m0 (l' : List (List Int × List (Int × Int × Unit) × List (Int × Int × Unit) × Unit)) (next : List (List Int)) (t15 : Int) : St := ⟨fresh, [(0, AV.v ((Ty.int IntKind.u8).sl.pair (((Ty.int IntKind.i64).pair ((Ty.int IntKind.i64).pair Ty.unit)).sl.pair (((Ty.int IntKind.i64).pair ((Ty.int IntKind.i64).pair Ty.unit)).sl.pair Ty.unit))).sl (Md.bor true false) l'), (3, AV.ow 500003 (Ty.int IntKind.i64).sl.sl (Md.own false (Md.bor false false)) next), (13, AV.v ((Ty.int IntKind.u8).sl.pair (((Ty.int IntKind.i64).pair ((Ty.int IntKind.i64).pair Ty.unit)).sl.pair (((Ty.int IntKind.i64).pair ((Ty.int IntKind.i64).pair Ty.unit)).sl.pair Ty.unit))).sl (Md.bor true false) l'), (14, AV.v (Ty.int IntKind.i64) (Md.bor false true) (↑l'.length : Int)), (15, AV.v (Ty.int IntKind.i64) (Md.bor false true) t15), (54, AV.dead), (61, AV.dead)]⟩
noncomputable def ref_Wanted_L2 (nf : Nat) (G0 : St → Option (Int × Unit)) : LC (Int × Unit) := theL (findL tab (ref_Wanted_phi nf) (fun _ F => iter nf F) ref_Wanted_keep 2 0 (ref_Wanted_L0 nf ).c (fun st => norm (ref_Wanted_keep 0) st G0) (ref_Wanted_L0 nf ).Kx (ref_Wanted_L0 nf ).Kr)
def ref_Wanted_m2 (l' : List (List Int × List (Int × Int × Unit) × List (Int × Int × Unit) × Unit)) (t15 : Int) (next2 : List (List Int)) (o : List Int × List (Int × Int × Unit) × List (Int × Int × Unit) × Unit) (to' : List Int) (t21 : Int) : St := ⟨fresh, [(0, AV.v ((Ty.int IntKind.u8).sl.pair (((Ty.int IntKind.i64).pair ((Ty.int IntKind.i64).pair Ty.unit)).sl.pair (((Ty.int IntKind.i64).pair ((Ty.int IntKind.i64).pair Ty.unit)).sl.pair Ty.unit))).sl (Md.bor true false) l'), (3, AV.ow 500003 (Ty.int IntKind.i64).sl.sl (Md.own false (Md.bor false false)) next2), (5, AV.box 5 500005 ((Ty.int IntKind.u8).sl.pair (((Ty.int IntKind.i64).pair ((Ty.int IntKind.i64).pair Ty.unit)).sl.pair (((Ty.int IntKind.i64).pair ((Ty.int IntKind.i64).pair Ty.unit)).sl.pair Ty.unit))) (Md.bor true false) o), (6, AV.ow 500006 (Ty.int IntKind.i64).sl (Md.own false (Md.bor false false)) to'), (13, AV.v ((Ty.int IntKind.u8).sl.pair (((Ty.int IntKind.i64).pair ((Ty.int IntKind.i64).pair Ty.unit)).sl.pair (((Ty.int IntKind.i64).pair ((Ty.int IntKind.i64).pair Ty.unit)).sl.pair Ty.unit))).sl (Md.bor true false) l'), (14, AV.v (Ty.int IntKind.i64) (Md.bor false true) (↑l'.length : Int)), (15, AV.v (Ty.int IntKind.i64) (Md.bor false true) t15), (19, AV.v ((Ty.int IntKind.u8).sl.pair (((Ty.int IntKind.i64).pair ((Ty.int IntKind.i64).pair Ty.unit)).sl.pair (((Ty.int IntKind.i64).pair ((Ty.int IntKind.i64).pair Ty.unit)).sl.pair Ty.unit))).sl (Md.bor true false) l'), (20, AV.v (Ty.int IntKind.i64) (Md.bor false true) (↑l'.length : Int)), (21, AV.v (Ty.int IntKind.i64) (Md.bor false true) t21), (54, AV.dead), (61, AV.dead)]⟩
noncomputable def ref_Wanted_L4 (nf : Nat) (G0 : St → Option (Int × Unit)) (G2 : St → Option (Int × Unit)) : LC (Int × Unit) := theL (findL tab (ref_Wanted_phi nf) (fun _ F => iter nf F) ref_Wanted_keep 4 2 (ref_Wanted_L2 nf G0).c (fun st => norm (ref_Wanted_keep 2) st G2) (ref_Wanted_L2 nf G0).Kx (ref_Wanted_L2 nf G0).Kr)
def ref_Wanted_m4 (l' : List (List Int × List (Int × Int × Unit) × List (Int × Int × Unit) × Unit)) (t21 : Int) (t15 : Int) (o : List Int × List (Int × Int × Unit) × List (Int × Int × Unit) × Unit) (next3 : List (List Int)) (o2 : List Int × List (Int × Int × Unit) × List (Int × Int × Unit) × Unit) (to'2 : List Int) (p : List Int × List (Int × Int × Unit) × List (Int × Int × Unit) × Unit) (t29 : Int) : St := ⟨fresh, [(0, AV.v ((Ty.int IntKind.u8).sl.pair (((Ty.int IntKind.i64).pair ((Ty.int IntKind.i64).pair Ty.unit)).sl.pair (((Ty.int IntKind.i64).pair ((Ty.int IntKind.i64).pair Ty.unit)).sl.pair Ty.unit))).sl (Md.bor true false) l'), (3, AV.ow 500003 (Ty.int IntKind.i64).sl.sl (Md.own false (Md.bor false false)) next3), (5, AV.box 5 500005 ((Ty.int IntKind.u8).sl.pair (((Ty.int IntKind.i64).pair ((Ty.int IntKind.i64).pair Ty.unit)).sl.pair (((Ty.int IntKind.i64).pair ((Ty.int IntKind.i64).pair Ty.unit)).sl.pair Ty.unit))) (Md.bor true false) o2), (6, AV.ow 500006 (Ty.int IntKind.i64).sl (Md.own false (Md.bor false false)) to'2), (7, AV.v (Ty.int IntKind.i64) (Md.bor false true) t21), (8, AV.box 8 500008 ((Ty.int IntKind.u8).sl.pair (((Ty.int IntKind.i64).pair ((Ty.int IntKind.i64).pair Ty.unit)).sl.pair (((Ty.int IntKind.i64).pair ((Ty.int IntKind.i64).pair Ty.unit)).sl.pair Ty.unit))) (Md.bor true false) p), (13, AV.v ((Ty.int IntKind.u8).sl.pair (((Ty.int IntKind.i64).pair ((Ty.int IntKind.i64).pair Ty.unit)).sl.pair (((Ty.int IntKind.i64).pair ((Ty.int IntKind.i64).pair Ty.unit)).sl.pair Ty.unit))).sl (Md.bor true false) l'), (14, AV.v (Ty.int IntKind.i64) (Md.bor false true) (↑l'.length : Int)), (15, AV.v (Ty.int IntKind.i64) (Md.bor false true) t15), (19, AV.v ((Ty.int IntKind.u8).sl.pair (((Ty.int IntKind.i64).pair ((Ty.int IntKind.i64).pair Ty.unit)).sl.pair (((Ty.int IntKind.i64).pair ((Ty.int IntKind.i64).pair Ty.unit)).sl.pair Ty.unit))).sl (Md.bor true false) l'), (20, AV.v (Ty.int IntKind.i64) (Md.bor false true) (↑l'.length : Int)), (21, AV.v (Ty.int IntKind.i64) (Md.bor false true) t21), (26, AV.pl 5 5 [Stp.dr, Stp.fld 2]), (27, AV.v ((Ty.int IntKind.i64).pair ((Ty.int IntKind.i64).pair Ty.unit)).sl (Md.bor true false) o.snd.snd.fst), (28, AV.v (Ty.int IntKind.i64) (Md.bor false true) (↑(List.length o.snd.snd.fst) : Int)), (29, AV.v (Ty.int IntKind.i64) (Md.bor false true) t29), (54, AV.dead), (61, AV.dead)]⟩
noncomputable def ref_Wanted_L6 (nf : Nat) (G0 : St → Option (Int × Unit)) (G2 : St → Option (Int × Unit)) (G4 : St → Option (Int × Unit)) : LC (Int × Unit) := theL (findL tab (ref_Wanted_phi nf) (fun _ F => iter nf F) ref_Wanted_keep 6 4 (ref_Wanted_L4 nf G0 G2).c (fun st => norm (ref_Wanted_keep 4) st G4) (ref_Wanted_L4 nf G0 G2).Kx (ref_Wanted_L4 nf G0 G2).Kr)
def ref_Wanted_m6 (l' : List (List Int × List (Int × Int × Unit) × List (Int × Int × Unit) × Unit)) (t21 : Int) (t15 : Int) (o : List Int × List (Int × Int × Unit) × List (Int × Int × Unit) × Unit) (t29 : Int) (p : List Int × List (Int × Int × Unit) × List (Int × Int × Unit) × Unit) (next4 : List (List Int)) (o3 : List Int × List (Int × Int × Unit) × List (Int × Int × Unit) × Unit) (to'3 : List Int) (p2 : List Int × List (Int × Int × Unit) × List (Int × Int × Unit) × Unit) (w : Int × Int × Unit) (t36 : Int) : St := ⟨fresh, [(0, AV.v ((Ty.int IntKind.u8).sl.pair (((Ty.int IntKind.i64).pair ((Ty.int IntKind.i64).pair Ty.unit)).sl.pair (((Ty.int IntKind.i64).pair ((Ty.int IntKind.i64).pair Ty.unit)).sl.pair Ty.unit))).sl (Md.bor true false) l'), (3, AV.ow 500003 (Ty.int IntKind.i64).sl.sl (Md.own false (Md.bor false false)) next4), (5, AV.box 5 500005 ((Ty.int IntKind.u8).sl.pair (((Ty.int IntKind.i64).pair ((Ty.int IntKind.i64).pair Ty.unit)).sl.pair (((Ty.int IntKind.i64).pair ((Ty.int IntKind.i64).pair Ty.unit)).sl.pair Ty.unit))) (Md.bor true false) o3), (6, AV.ow 500006 (Ty.int IntKind.i64).sl (Md.own false (Md.bor false false)) to'3), (7, AV.v (Ty.int IntKind.i64) (Md.bor false true) t21), (8, AV.box 8 500008 ((Ty.int IntKind.u8).sl.pair (((Ty.int IntKind.i64).pair ((Ty.int IntKind.i64).pair Ty.unit)).sl.pair (((Ty.int IntKind.i64).pair ((Ty.int IntKind.i64).pair Ty.unit)).sl.pair Ty.unit))) (Md.bor true false) p2), (10, AV.box 10 500010 ((Ty.int IntKind.i64).pair ((Ty.int IntKind.i64).pair Ty.unit)) (Md.bor true false) w), (13, AV.v ((Ty.int IntKind.u8).sl.pair (((Ty.int IntKind.i64).pair ((Ty.int IntKind.i64).pair Ty.unit)).sl.pair (((Ty.int IntKind.i64).pair ((Ty.int IntKind.i64).pair Ty.unit)).sl.pair Ty.unit))).sl (Md.bor true false) l'), (14, AV.v (Ty.int IntKind.i64) (Md.bor false true) (↑l'.length : Int)), (15, AV.v (Ty.int IntKind.i64) (Md.bor false true) t15), (19, AV.v ((Ty.int IntKind.u8).sl.pair (((Ty.int IntKind.i64).pair ((Ty.int IntKind.i64).pair Ty.unit)).sl.pair (((Ty.int IntKind.i64).pair ((Ty.int IntKind.i64).pair Ty.unit)).sl.pair Ty.unit))).sl (Md.bor true false) l'), (20, AV.v (Ty.int IntKind.i64) (Md.bor false true) (↑l'.length : Int)), (21, AV.v (Ty.int IntKind.i64) (Md.bor false true) t21), (26, AV.pl 5 5 [Stp.dr, Stp.fld 2]), (27, AV.v ((Ty.int IntKind.i64).pair ((Ty.int IntKind.i64).pair Ty.unit)).sl (Md.bor true false) o.snd.snd.fst), (28, AV.v (Ty.int IntKind.i64) (Md.bor false true) (↑(List.length o.snd.snd.fst) : Int)), (29, AV.v (Ty.int IntKind.i64) (Md.bor false true) t29), (33, AV.pl 8 8 [Stp.dr, Stp.fld 1]), (34, AV.v ((Ty.int IntKind.i64).pair ((Ty.int IntKind.i64).pair Ty.unit)).sl (Md.bor true false) p.snd.fst), (35, AV.v (Ty.int IntKind.i64) (Md.bor false true) (↑(List.length p.snd.fst) : Int)), (36, AV.v (Ty.int IntKind.i64) (Md.bor false true) t36), (54, AV.dead), (61, AV.dead)]⟩
theorem ref_Wanted_h6 (nf : Nat) (G0 : St → Option (Int × Unit)) (G2 : St → Option (Int × Unit)) (G4 : St → Option (Int × Unit)) (l' : List (List Int × List (Int × Int × Unit) × List (Int × Int × Unit) × Unit)) (t21 : Int) (t15 : Int) (o : List Int × List (Int × Int × Unit) × List (Int × Int × Unit) × Unit) (t29 : Int) (p : List Int × List (Int × Int × Unit) × List (Int × Int × Unit) × Unit) (fu : Nat) (next4 : List (List Int)) (o3 : List Int × List (Int × Int × Unit) × List (Int × Int × Unit) × Unit) (to'3 : List Int) (p2 : List Int × List (Int × Int × Unit) × List (Int × Int × Unit) × Unit) (w : Int × Int × Unit) (t36 : Int) : iter (fu + 1) (LC.F tab (ref_Wanted_phi nf) (fun _ F => iter nf F) ref_Wanted_keep 6 (ref_Wanted_L6 nf G0 G2 G4)) (ref_Wanted_m6 l' t21 t15 o t29 p next4 o3 to'3 p2 w t36) = ref_Wanted_b6 nf  l' t21 t15 o t29 p (fun next3 o2 to'2 p t29 => G4 (ref_Wanted_m4 l' t21 t15 o next3 o2 to'2 p t29)) (fun next2 o to' t21 => G2 (ref_Wanted_m2 l' t15 next2 o to' t21)) (fun next t15 => G0 (ref_Wanted_m0 l' next t15)) (fun next4 o3 to'3 p2 w t36 => iter fu (LC.F tab (ref_Wanted_phi nf) (fun _ F => iter nf F) ref_Wanted_keep 6 (ref_Wanted_L6 nf G0 G2 G4)) (ref_Wanted_m6 l' t21 t15 o t29 p next4 o3 to'3 p2 w t36)) next4 o3 to'3 p2 w t36 := by kernel_rfl
theorem ref_Wanted_e6 (nf : Nat) (G0 : St → Option (Int × Unit)) (G2 : St → Option (Int × Unit)) (G4 : St → Option (Int × Unit)) (l' : List (List Int × List (Int × Int × Unit) × List (Int × Int × Unit) × Unit)) (t21 : Int) (t15 : Int) (o : List Int × List (Int × Int × Unit) × List (Int × Int × Unit) × Unit) (t29 : Int) (p : List Int × List (Int × Int × Unit) × List (Int × Int × Unit) × Unit) : ∀ (fu : Nat) (next4 : List (List Int)) (o3 : List Int × List (Int × Int × Unit) × List (Int × Int × Unit) × Unit) (to'3 : List Int) (p2 : List Int × List (Int × Int × Unit) × List (Int × Int × Unit) × Unit) (w : Int × Int × Unit) (t36 : Int), iter fu (LC.F tab (ref_Wanted_phi nf) (fun _ F => iter nf F) ref_Wanted_keep 6 (ref_Wanted_L6 nf G0 G2 G4)) (ref_Wanted_m6 l' t21 t15 o t29 p next4 o3 to'3 p2 w t36) = ref_Wanted_l6 nf l' t21 t15 o t29 p (fun next3 o2 to'2 p t29 => G4 (ref_Wanted_m4 l' t21 t15 o next3 o2 to'2 p t29)) (fun next2 o to' t21 => G2 (ref_Wanted_m2 l' t15 next2 o to' t21)) (fun next t15 => G0 (ref_Wanted_m0 l' next t15)) fu next4 o3 to'3 p2 w t36 := by
  intro fu
  induction fu with
  | zero => intros; rfl
  | succ fu ih =>
    intro next4 o3 to'3 p2 w t36
    rw [ref_Wanted_h6 nf G0 G2 G4 l' t21 t15 o t29 p fu next4 o3 to'3 p2 w t36]
    simp only [ih]
    rfl
theorem ref_Wanted_h4 (nf : Nat) (G0 : St → Option (Int × Unit)) (G2 : St → Option (Int × Unit)) (l' : List (List Int × List (Int × Int × Unit) × List (Int × Int × Unit) × Unit)) (t21 : Int) (t15 : Int) (o : List Int × List (Int × Int × Unit) × List (Int × Int × Unit) × Unit) (fu : Nat) (next3 : List (List Int)) (o2 : List Int × List (Int × Int × Unit) × List (Int × Int × Unit) × Unit) (to'2 : List Int) (p : List Int × List (Int × Int × Unit) × List (Int × Int × Unit) × Unit) (t29 : Int) : iter (fu + 1) (LC.F tab (ref_Wanted_phi nf) (fun _ F => iter nf F) ref_Wanted_keep 4 (ref_Wanted_L4 nf G0 G2)) (ref_Wanted_m4 l' t21 t15 o next3 o2 to'2 p t29) = ref_Wanted_b4 nf (fun _ _ _ _ p4 p5 v0 v1 v2 v3 v4 v5 => iter nf (LC.F tab (ref_Wanted_phi nf) (fun _ F => iter nf F) ref_Wanted_keep 6 (ref_Wanted_L6 nf G0 G2 (iter fu (LC.F tab (ref_Wanted_phi nf) (fun _ F => iter nf F) ref_Wanted_keep 4 (ref_Wanted_L4 nf G0 G2))))) (ref_Wanted_m6 l' t21 t15 o p4 p5 v0 v1 v2 v3 v4 v5)) l' t21 t15 o (fun next2 o to' t21 => G2 (ref_Wanted_m2 l' t15 next2 o to' t21)) (fun next t15 => G0 (ref_Wanted_m0 l' next t15)) (fun next3 o2 to'2 p t29 => iter fu (LC.F tab (ref_Wanted_phi nf) (fun _ F => iter nf F) ref_Wanted_keep 4 (ref_Wanted_L4 nf G0 G2)) (ref_Wanted_m4 l' t21 t15 o next3 o2 to'2 p t29)) next3 o2 to'2 p t29 := by kernel_rfl
theorem ref_Wanted_e4 (nf : Nat) (G0 : St → Option (Int × Unit)) (G2 : St → Option (Int × Unit)) (l' : List (List Int × List (Int × Int × Unit) × List (Int × Int × Unit) × Unit)) (t21 : Int) (t15 : Int) (o : List Int × List (Int × Int × Unit) × List (Int × Int × Unit) × Unit) : ∀ (fu : Nat) (next3 : List (List Int)) (o2 : List Int × List (Int × Int × Unit) × List (Int × Int × Unit) × Unit) (to'2 : List Int) (p : List Int × List (Int × Int × Unit) × List (Int × Int × Unit) × Unit) (t29 : Int), iter fu (LC.F tab (ref_Wanted_phi nf) (fun _ F => iter nf F) ref_Wanted_keep 4 (ref_Wanted_L4 nf G0 G2)) (ref_Wanted_m4 l' t21 t15 o next3 o2 to'2 p t29) = ref_Wanted_l4 nf l' t21 t15 o (fun next2 o to' t21 => G2 (ref_Wanted_m2 l' t15 next2 o to' t21)) (fun next t15 => G0 (ref_Wanted_m0 l' next t15)) fu next3 o2 to'2 p t29 := by
  intro fu
  induction fu with
  | zero => intros; rfl
  | succ fu ih =>
    intro next3 o2 to'2 p t29
    rw [ref_Wanted_h4 nf G0 G2 l' t21 t15 o fu next3 o2 to'2 p t29]
    simp only [ih, ref_Wanted_e6]
    rfl
theorem ref_Wanted_h2 (nf : Nat) (G0 : St → Option (Int × Unit)) (l' : List (List Int × List (Int × Int × Unit) × List (Int × Int × Unit) × Unit)) (t15 : Int) (fu : Nat) (next2 : List (List Int)) (o : List Int × List (Int × Int × Unit) × List (Int × Int × Unit) × Unit) (to' : List Int) (t21 : Int) : iter (fu + 1) (LC.F tab (ref_Wanted_phi nf) (fun _ F => iter nf F) ref_Wanted_keep 2 (ref_Wanted_L2 nf G0)) (ref_Wanted_m2 l' t15 next2 o to' t21) = ref_Wanted_b2 nf (fun _ p1 _ p3 v0 v1 v2 v3 v4 => iter nf (LC.F tab (ref_Wanted_phi nf) (fun _ F => iter nf F) ref_Wanted_keep 4 (ref_Wanted_L4 nf G0 (iter fu (LC.F tab (ref_Wanted_phi nf) (fun _ F => iter nf F) ref_Wanted_keep 2 (ref_Wanted_L2 nf G0))))) (ref_Wanted_m4 l' p1 t15 p3 v0 v1 v2 v3 v4)) l' t15 (fun next t15 => G0 (ref_Wanted_m0 l' next t15)) (fun next2 o to' t21 => iter fu (LC.F tab (ref_Wanted_phi nf) (fun _ F => iter nf F) ref_Wanted_keep 2 (ref_Wanted_L2 nf G0)) (ref_Wanted_m2 l' t15 next2 o to' t21)) next2 o to' t21 := by kernel_rfl
theorem ref_Wanted_e2 (nf : Nat) (G0 : St → Option (Int × Unit)) (l' : List (List Int × List (Int × Int × Unit) × List (Int × Int × Unit) × Unit)) (t15 : Int) : ∀ (fu : Nat) (next2 : List (List Int)) (o : List Int × List (Int × Int × Unit) × List (Int × Int × Unit) × Unit) (to' : List Int) (t21 : Int), iter fu (LC.F tab (ref_Wanted_phi nf) (fun _ F => iter nf F) ref_Wanted_keep 2 (ref_Wanted_L2 nf G0)) (ref_Wanted_m2 l' t15 next2 o to' t21) = ref_Wanted_l2 nf l' t15 (fun next t15 => G0 (ref_Wanted_m0 l' next t15)) fu next2 o to' t21 := by
  intro fu
  induction fu with
  | zero => intros; rfl
  | succ fu ih =>
    intro next2 o to' t21
    rw [ref_Wanted_h2 nf G0 l' t15 fu next2 o to' t21]
    simp only [ih, ref_Wanted_e4]
    rfl
theorem ref_Wanted_h0 (nf : Nat)  (l' : List (List Int × List (Int × Int × Unit) × List (Int × Int × Unit) × Unit)) (fu : Nat) (next : List (List Int)) (t15 : Int) : iter (fu + 1) (LC.F tab (ref_Wanted_phi nf) (fun _ F => iter nf F) ref_Wanted_keep 0 (ref_Wanted_L0 nf )) (ref_Wanted_m0 l' next t15) = ref_Wanted_b0 nf (fun _ p1 v0 v1 v2 v3 => iter nf (LC.F tab (ref_Wanted_phi nf) (fun _ F => iter nf F) ref_Wanted_keep 2 (ref_Wanted_L2 nf (iter fu (LC.F tab (ref_Wanted_phi nf) (fun _ F => iter nf F) ref_Wanted_keep 0 (ref_Wanted_L0 nf ))))) (ref_Wanted_m2 l' p1 v0 v1 v2 v3)) l'  (fun next t15 => iter fu (LC.F tab (ref_Wanted_phi nf) (fun _ F => iter nf F) ref_Wanted_keep 0 (ref_Wanted_L0 nf )) (ref_Wanted_m0 l' next t15)) next t15 := by kernel_rfl
theorem ref_Wanted_e0 (nf : Nat)  (l' : List (List Int × List (Int × Int × Unit) × List (Int × Int × Unit) × Unit)) : ∀ (fu : Nat) (next : List (List Int)) (t15 : Int), iter fu (LC.F tab (ref_Wanted_phi nf) (fun _ F => iter nf F) ref_Wanted_keep 0 (ref_Wanted_L0 nf )) (ref_Wanted_m0 l' next t15) = ref_Wanted_l0 nf l'  fu next t15 := by
  intro fu
  induction fu with
  | zero => intros; rfl
  | succ fu ih =>
    intro next t15
    rw [ref_Wanted_h0 nf  l' fu next t15]
    simp only [ih, ref_Wanted_e2]
    rfl
theorem ref_Wanted_eq (nf : Nat) (l' : List (List Int × List (Int × Int × Unit) × List (Int × Int × Unit) × Unit)) : runF tab (ref_Wanted_phi nf) ref_Wanted_keep nf [PT.val ((Ty.int IntKind.u8).sl.pair (((Ty.int IntKind.i64).pair ((Ty.int IntKind.i64).pair Ty.unit)).sl.pair (((Ty.int IntKind.i64).pair ((Ty.int IntKind.i64).pair Ty.unit)).sl.pair Ty.unit))).sl (Md.bor true false)] [(Ty.int IntKind.u32, Md.bor false true)] (resL ([]) Try.f17) (codeOf Try.f17) ⟨l', ()⟩ = ref_Wanted_f nf l' := by
  have h : runF tab (ref_Wanted_phi nf) ref_Wanted_keep nf [PT.val ((Ty.int IntKind.u8).sl.pair (((Ty.int IntKind.i64).pair ((Ty.int IntKind.i64).pair Ty.unit)).sl.pair (((Ty.int IntKind.i64).pair ((Ty.int IntKind.i64).pair Ty.unit)).sl.pair Ty.unit))).sl (Md.bor true false)] [(Ty.int IntKind.u32, Md.bor false true)] (resL ([]) Try.f17) (codeOf Try.f17) ⟨l', ()⟩ = ref_Wanted_p nf (fun p0 v0 v1 => iter nf (LC.F tab (ref_Wanted_phi nf) (fun _ F => iter nf F) ref_Wanted_keep 0 (ref_Wanted_L0 nf)) (ref_Wanted_m0 p0 v0 v1)) l' := by kernel_rfl
  rw [h]
  simp only [ref_Wanted_e0]
  rfl
def ref_Wanted_F (nf : Nat) (x : denPs [.val (.sl (.pair (.sl (.int .u8)) (.pair (.sl (.pair (.int .i64) (.pair (.int .i64) (.unit)))) (.pair (.sl (.pair (.int .i64) (.pair (.int .i64) (.unit)))) (.unit))))) (.bor true false)]) : Option (denL [(.int .u32, .bor false true)]) := ref_Wanted_f nf x.1
def ref_Wanted_C (nf : Nat) : Contract := ⟨[.val (.sl (.pair (.sl (.int .u8)) (.pair (.sl (.pair (.int .i64) (.pair (.int .i64) (.unit)))) (.pair (.sl (.pair (.int .i64) (.pair (.int .i64) (.unit)))) (.unit))))) (.bor true false)], [(.int .u32, .bor false true)], ref_Wanted_F nf, []⟩
theorem ref_Wanted_ok : FnOK Try.prog 17 := ⟨Try.f17, codeOf Try.f17, Try.func17, by kernel_rfl, by kernel_rfl⟩
theorem ref_Wanted_holds (nf : Nat) : Contract.Holds Try.prog 17 (ref_Wanted_C nf) :=
  fn_holds (Φ := ref_Wanted_phi nf) (keep := ref_Wanted_keep) (n := nf) ⟨tabs.1, tabs.2, (ctx_cons ref_Has_ok (ref_Has_holds nf) (ctx_cons ref_Set_ok (ref_Set_holds nf) (ctx_cons ref_Reach_ok (ref_Reach_holds nf) ctx_nil))), mixed, bk_ok bkls rfl⟩ (fn := Try.f17) ⟨Try.func17, by kernel_rfl, by kernel_rfl, by kernel_rfl⟩ (fun x => ref_Wanted_eq nf x.1)

/-! codemason codemasonlaw.LinkNeeds -/
def law_LinkNeeds_phi (nf : Nat) : Nat → Option Contract := lookC [(14, ref_ObjectsCheck_C nf), (16, link_Needs_C nf), (17, ref_Wanted_C nf)]
def law_LinkNeeds_keep : Nat → List Nat := lookK []
def law_LinkNeeds_p (nf : Nat)  (l' : List (List Int × List (Int × Int × Unit) × List (Int × Int × Unit) × Unit)) : Option (Bool × Unit) :=
  Option.bind (link_Needs_f nf l') fun r =>
  Option.bind (ref_ObjectsCheck_f nf l') fun r2 =>
  bif r2.fst != 0 then
    bif r.snd.fst == r2.fst then
      some ((r.fst == 0, ()))
    else
      some ((false, ()))
  else
    bif r.snd.fst == 0 then
      Option.bind (ref_Wanted_f nf l') fun r3 =>
      some ((r.fst == r3.fst, ()))
    else
      some ((false, ()))
def law_LinkNeeds_f (nf : Nat) (l' : List (List Int × List (Int × Int × Unit) × List (Int × Int × Unit) × Unit)) : Option (Bool × Unit) := law_LinkNeeds_p nf  l'
theorem law_LinkNeeds_eq (nf : Nat) (l' : List (List Int × List (Int × Int × Unit) × List (Int × Int × Unit) × Unit)) : runF tab (law_LinkNeeds_phi nf) law_LinkNeeds_keep nf [PT.val ((Ty.int IntKind.u8).sl.pair (((Ty.int IntKind.i64).pair ((Ty.int IntKind.i64).pair Ty.unit)).sl.pair (((Ty.int IntKind.i64).pair ((Ty.int IntKind.i64).pair Ty.unit)).sl.pair Ty.unit))).sl (Md.bor false false)] [(Ty.bool, Md.bor false true)] (resL ([]) Try.f5) (codeOf Try.f5) ⟨l', ()⟩ = law_LinkNeeds_f nf l' := by
  have h : runF tab (law_LinkNeeds_phi nf) law_LinkNeeds_keep nf [PT.val ((Ty.int IntKind.u8).sl.pair (((Ty.int IntKind.i64).pair ((Ty.int IntKind.i64).pair Ty.unit)).sl.pair (((Ty.int IntKind.i64).pair ((Ty.int IntKind.i64).pair Ty.unit)).sl.pair Ty.unit))).sl (Md.bor false false)] [(Ty.bool, Md.bor false true)] (resL ([]) Try.f5) (codeOf Try.f5) ⟨l', ()⟩ = law_LinkNeeds_p nf  l' := by kernel_rfl
  exact h
def law_LinkNeeds_F (nf : Nat) (x : denPs [.val (.sl (.pair (.sl (.int .u8)) (.pair (.sl (.pair (.int .i64) (.pair (.int .i64) (.unit)))) (.pair (.sl (.pair (.int .i64) (.pair (.int .i64) (.unit)))) (.unit))))) (.bor false false)]) : Option (denL [(.bool, .bor false true)]) := law_LinkNeeds_f nf x.1
def law_LinkNeeds_C (nf : Nat) : Contract := ⟨[.val (.sl (.pair (.sl (.int .u8)) (.pair (.sl (.pair (.int .i64) (.pair (.int .i64) (.unit)))) (.pair (.sl (.pair (.int .i64) (.pair (.int .i64) (.unit)))) (.unit))))) (.bor false false)], [(.bool, .bor false true)], law_LinkNeeds_F nf, []⟩
theorem law_LinkNeeds_ok : FnOK Try.prog 5 := ⟨Try.f5, codeOf Try.f5, Try.func5, by kernel_rfl, by kernel_rfl⟩
theorem law_LinkNeeds_holds (nf : Nat) : Contract.Holds Try.prog 5 (law_LinkNeeds_C nf) :=
  fn_holds (Φ := law_LinkNeeds_phi nf) (keep := law_LinkNeeds_keep) (n := nf) ⟨tabs.1, tabs.2, (ctx_cons ref_ObjectsCheck_ok (ref_ObjectsCheck_holds nf) (ctx_cons link_Needs_ok (link_Needs_holds nf) (ctx_cons ref_Wanted_ok (ref_Wanted_holds nf) ctx_nil))), mixed, bk_ok bkls rfl⟩ (fn := Try.f5) ⟨Try.func5, by kernel_rfl, by kernel_rfl, by kernel_rfl⟩ (fun x => law_LinkNeeds_eq nf x.1)

/-! codemason link.Link -/
def link_Link_phi (nf : Nat) : Nat → Option Contract := lookC [(41, link_build_C nf)]
def link_Link_keep : Nat → List Nat := lookK [(4, [0, 4, 6, 9, 10, 16, 18, 19, 33, 35, 36, 37, 42, 43, 44, 45]), (2, [0, 4, 6, 16, 18, 19, 33, 35, 36, 37]), (0, [0, 4, 6, 16, 18, 19, 24, 25, 26, 33])]
def link_Link_b0 (nf : Nat) (l2 : List (List Int × List (Int × Int × Unit) × List (Int × Int × Unit) × Unit) → List Int → List Int × List (Int × Int) × List (Int × Int) × Unit → Int → Option (List Int × Int × Unit)) (l' : List (List Int × List (Int × Int × Unit) × List (Int × Int × Unit) × Unit)) (g0 : List Int → List Int × List (Int × Int) × List (Int × Int) × Unit → Int → Option (List Int × Int × Unit)) (out : List Int) (t19 : List Int × List (Int × Int) × List (Int × Int) × Unit) (t26 : Int) : Option (List Int × Int × Unit) :=
  bif decide (t26 < (↑l'.length : Int)) then
    bif inb t26 l'.length then
      bif bimp false !List.isEmpty (l'.getD t26.toNat ([], [], [], ())).fst && (out.length + List.length (l'.getD t26.toNat ([], [], [], ())).fst).ble lim then
        g0 (out ++ (l'.getD t26.toNat ([], [], [], ())).fst) t19 (IntKind.i64.wrap (t26 + 1))
      else
        none
    else
      none
  else
    l2 l' out t19 0
def link_Link_b2 (nf : Nat) (l4 : List (List Int × List (Int × Int × Unit) × List (Int × Int × Unit) × Unit) → Int → List Int → List Int × List (Int × Int × Unit) × List (Int × Int × Unit) × Unit → List Int × List (Int × Int) × List (Int × Int) × Unit → Int → Option (List Int × Int × Unit)) (l' : List (List Int × List (Int × Int × Unit) × List (Int × Int × Unit) × Unit)) (g2 : List Int → List Int × List (Int × Int) × List (Int × Int) × Unit → Int → Option (List Int × Int × Unit)) (out2 : List Int) (t192 : List Int × List (Int × Int) × List (Int × Int) × Unit) (t37 : Int) : Option (List Int × Int × Unit) :=
  bif decide (t37 < (↑l'.length : Int)) then
    bif inb t37 l'.length then
      l4 l' t37 out2 (l'.getD t37.toNat ([], [], [], ())) t192 0
    else
      none
  else
    some ((out2, 0, ()))
def link_Link_b4 (nf : Nat) (l' : List (List Int × List (Int × Int × Unit) × List (Int × Int × Unit) × Unit)) (t37 : Int) (g2 : List Int → List Int × List (Int × Int) × List (Int × Int) × Unit → Int → Option (List Int × Int × Unit)) (g4 : List Int → List Int × List (Int × Int × Unit) × List (Int × Int × Unit) × Unit → List Int × List (Int × Int) × List (Int × Int) × Unit → Int → Option (List Int × Int × Unit)) (out3 : List Int) (o : List Int × List (Int × Int × Unit) × List (Int × Int × Unit) × Unit) (t193 : List Int × List (Int × Int) × List (Int × Int) × Unit) (t45 : Int) : Option (List Int × Int × Unit) :=
  bif decide (t45 < (↑(List.length (l'.getD t37.toNat ([], [], [], ())).snd.snd.fst) : Int)) then
    bif inb t45 (List.length (l'.getD t37.toNat ([], [], [], ())).snd.snd.fst) then
      both (both (bif !(getM (Ty.int IntKind.i64) (Ty.int IntKind.i64) t193.snd.snd.fst (List.getD (l'.getD t37.toNat ([], [], [], ())).snd.snd.fst t45.toNat (0, 0, ())).fst).isSome then
        some (([], 5, ()))
      else
        bif inb t37 (List.length t193.fst) then
          bif inb (IntKind.i64.wrap (List.getD t193.fst t37.toNat 0 + (List.getD (l'.getD t37.toNat ([], [], [], ())).snd.snd.fst t45.toNat (0, 0, ())).snd.fst)) out3.length then
            bif inb (IntKind.i64.wrap (IntKind.i64.wrap (List.getD t193.fst t37.toNat 0 + (List.getD (l'.getD t37.toNat ([], [], [], ())).snd.snd.fst t45.toNat (0, 0, ())).snd.fst) + 1)) (out3.set (IntKind.i64.wrap (List.getD t193.fst t37.toNat 0 + (List.getD (l'.getD t37.toNat ([], [], [], ())).snd.snd.fst t45.toNat (0, 0, ())).snd.fst)).toNat (IntKind.u8.wrap ((getM (Ty.int IntKind.i64) (Ty.int IntKind.i64) t193.snd.snd.fst (List.getD (l'.getD t37.toNat ([], [], [], ())).snd.snd.fst t45.toNat (0, 0, ())).fst).getD 0))).length then
              g4 ((out3.set (IntKind.i64.wrap (List.getD t193.fst t37.toNat 0 + (List.getD (l'.getD t37.toNat ([], [], [], ())).snd.snd.fst t45.toNat (0, 0, ())).snd.fst)).toNat (IntKind.u8.wrap ((getM (Ty.int IntKind.i64) (Ty.int IntKind.i64) t193.snd.snd.fst (List.getD (l'.getD t37.toNat ([], [], [], ())).snd.snd.fst t45.toNat (0, 0, ())).fst).getD 0))).set (IntKind.i64.wrap (IntKind.i64.wrap (List.getD t193.fst t37.toNat 0 + (List.getD (l'.getD t37.toNat ([], [], [], ())).snd.snd.fst t45.toNat (0, 0, ())).snd.fst) + 1)).toNat (IntKind.u8.wrap (shrI IntKind.i64 ((getM (Ty.int IntKind.i64) (Ty.int IntKind.i64) t193.snd.snd.fst (List.getD (l'.getD t37.toNat ([], [], [], ())).snd.snd.fst t45.toNat (0, 0, ())).fst).getD 0) 8))) o t193 (IntKind.i64.wrap (t45 + 1))
            else
              none
          else
            none
        else
          none) (bif !(getM (Ty.int IntKind.i64) (Ty.int IntKind.i64) t193.snd.snd.fst (List.getD (l'.getD t37.toNat ([], [], [], ())).snd.snd.fst t45.toNat (0, 0, ())).fst).isSome then
        some (([], 5, ()))
      else
        bif inb t37 (List.length t193.fst) then
          bif inb (IntKind.i64.wrap (List.getD t193.fst t37.toNat 0 + (List.getD (l'.getD t37.toNat ([], [], [], ())).snd.snd.fst t45.toNat (0, 0, ())).snd.fst)) out3.length then
            bif inb (IntKind.i64.wrap (IntKind.i64.wrap (List.getD t193.fst t37.toNat 0 + (List.getD (l'.getD t37.toNat ([], [], [], ())).snd.snd.fst t45.toNat (0, 0, ())).snd.fst) + 1)) (out3.set (IntKind.i64.wrap (List.getD t193.fst t37.toNat 0 + (List.getD (l'.getD t37.toNat ([], [], [], ())).snd.snd.fst t45.toNat (0, 0, ())).snd.fst)).toNat (IntKind.u8.wrap ((getM (Ty.int IntKind.i64) (Ty.int IntKind.i64) t193.snd.snd.fst (List.getD (l'.getD t37.toNat ([], [], [], ())).snd.snd.fst t45.toNat (0, 0, ())).fst).getD 0))).length then
              g4 ((out3.set (IntKind.i64.wrap (List.getD t193.fst t37.toNat 0 + (List.getD (l'.getD t37.toNat ([], [], [], ())).snd.snd.fst t45.toNat (0, 0, ())).snd.fst)).toNat (IntKind.u8.wrap ((getM (Ty.int IntKind.i64) (Ty.int IntKind.i64) t193.snd.snd.fst (List.getD (l'.getD t37.toNat ([], [], [], ())).snd.snd.fst t45.toNat (0, 0, ())).fst).getD 0))).set (IntKind.i64.wrap (IntKind.i64.wrap (List.getD t193.fst t37.toNat 0 + (List.getD (l'.getD t37.toNat ([], [], [], ())).snd.snd.fst t45.toNat (0, 0, ())).snd.fst) + 1)).toNat (IntKind.u8.wrap (shrI IntKind.i64 ((getM (Ty.int IntKind.i64) (Ty.int IntKind.i64) t193.snd.snd.fst (List.getD (l'.getD t37.toNat ([], [], [], ())).snd.snd.fst t45.toNat (0, 0, ())).fst).getD 0) 8))) o t193 (IntKind.i64.wrap (t45 + 1))
            else
              none
          else
            none
        else
          none)) (bif !(getM (Ty.int IntKind.i64) (Ty.int IntKind.i64) t193.snd.snd.fst (List.getD (l'.getD t37.toNat ([], [], [], ())).snd.snd.fst t45.toNat (0, 0, ())).fst).isSome then
        some (([], 5, ()))
      else
        bif inb t37 (List.length t193.fst) then
          bif inb (IntKind.i64.wrap (List.getD t193.fst t37.toNat 0 + (List.getD (l'.getD t37.toNat ([], [], [], ())).snd.snd.fst t45.toNat (0, 0, ())).snd.fst)) out3.length then
            bif inb (IntKind.i64.wrap (IntKind.i64.wrap (List.getD t193.fst t37.toNat 0 + (List.getD (l'.getD t37.toNat ([], [], [], ())).snd.snd.fst t45.toNat (0, 0, ())).snd.fst) + 1)) (out3.set (IntKind.i64.wrap (List.getD t193.fst t37.toNat 0 + (List.getD (l'.getD t37.toNat ([], [], [], ())).snd.snd.fst t45.toNat (0, 0, ())).snd.fst)).toNat (IntKind.u8.wrap ((getM (Ty.int IntKind.i64) (Ty.int IntKind.i64) t193.snd.snd.fst (List.getD (l'.getD t37.toNat ([], [], [], ())).snd.snd.fst t45.toNat (0, 0, ())).fst).getD 0))).length then
              g4 ((out3.set (IntKind.i64.wrap (List.getD t193.fst t37.toNat 0 + (List.getD (l'.getD t37.toNat ([], [], [], ())).snd.snd.fst t45.toNat (0, 0, ())).snd.fst)).toNat (IntKind.u8.wrap ((getM (Ty.int IntKind.i64) (Ty.int IntKind.i64) t193.snd.snd.fst (List.getD (l'.getD t37.toNat ([], [], [], ())).snd.snd.fst t45.toNat (0, 0, ())).fst).getD 0))).set (IntKind.i64.wrap (IntKind.i64.wrap (List.getD t193.fst t37.toNat 0 + (List.getD (l'.getD t37.toNat ([], [], [], ())).snd.snd.fst t45.toNat (0, 0, ())).snd.fst) + 1)).toNat (IntKind.u8.wrap (shrI IntKind.i64 ((getM (Ty.int IntKind.i64) (Ty.int IntKind.i64) t193.snd.snd.fst (List.getD (l'.getD t37.toNat ([], [], [], ())).snd.snd.fst t45.toNat (0, 0, ())).fst).getD 0) 8))) o t193 (IntKind.i64.wrap (t45 + 1))
            else
              none
          else
            none
        else
          none)
    else
      none
  else
    g2 out3 t193 (IntKind.i64.wrap (t37 + 1))
def link_Link_p (nf : Nat) (l0 : List (List Int × List (Int × Int × Unit) × List (Int × Int × Unit) × Unit) → List Int → List Int × List (Int × Int) × List (Int × Int) × Unit → Int → Option (List Int × Int × Unit)) (l' : List (List Int × List (Int × Int × Unit) × List (Int × Int × Unit) × Unit)) : Option (List Int × Int × Unit) :=
  Option.bind (link_build_f nf l') fun r =>
  match r.fst with
  | none => bif r.snd.fst != 0 then
        some (([], r.snd.fst, ()))
      else
        none
  | some r2 =>
  bif r.snd.fst != 0 then
    some (([], r.snd.fst, ()))
  else
    l0 l' [] r2 0
def link_Link_l4 (nf : Nat) (l' : List (List Int × List (Int × Int × Unit) × List (Int × Int × Unit) × Unit)) (t37 : Int) (g2 : List Int → List Int × List (Int × Int) × List (Int × Int) × Unit → Int → Option (List Int × Int × Unit)) : Nat → List Int → List Int × List (Int × Int × Unit) × List (Int × Int × Unit) × Unit → List Int × List (Int × Int) × List (Int × Int) × Unit → Int → Option (List Int × Int × Unit)
  | 0, _, _, _, _ => none
  | fu + 1, out3, o, t193, t45 => link_Link_b4 nf  l' t37 g2 (link_Link_l4 nf l' t37 g2 fu) out3 o t193 t45
def link_Link_l2 (nf : Nat) (l' : List (List Int × List (Int × Int × Unit) × List (Int × Int × Unit) × Unit)) : Nat → List Int → List Int × List (Int × Int) × List (Int × Int) × Unit → Int → Option (List Int × Int × Unit)
  | 0, _, _, _ => none
  | fu + 1, out2, t192, t37 => link_Link_b2 nf (fun _ p1 v0 v1 v2 v3 => link_Link_l4 nf l' p1 (fun out2 t192 t37 => link_Link_l2 nf l'  fu out2 t192 t37) nf v0 v1 v2 v3) l'  (link_Link_l2 nf l'  fu) out2 t192 t37
def link_Link_l0 (nf : Nat) (l' : List (List Int × List (Int × Int × Unit) × List (Int × Int × Unit) × Unit)) : Nat → List Int → List Int × List (Int × Int) × List (Int × Int) × Unit → Int → Option (List Int × Int × Unit)
  | 0, _, _, _ => none
  | fu + 1, out, t19, t26 => link_Link_b0 nf (fun _ v0 v1 v2 => link_Link_l2 nf l'  nf v0 v1 v2) l'  (link_Link_l0 nf l'  fu) out t19 t26
def link_Link_f (nf : Nat) (l' : List (List Int × List (Int × Int × Unit) × List (Int × Int × Unit) × Unit)) : Option (List Int × Int × Unit) := link_Link_p nf (fun p0 v0 v1 v2 => link_Link_l0 nf p0 nf v0 v1 v2) l'
noncomputable def link_Link_L0 (nf : Nat) : LC (List Int × Int × Unit) := theL (findL tab (link_Link_phi nf) (fun _ F => iter nf F) link_Link_keep 0 0 (codeOf Try.f18) (fin tab [((Ty.int IntKind.u8).sl, Md.own false (Md.bor false false)), (Ty.int IntKind.i64, Md.bor false true)] (resL ([]) Try.f18)) (fun _ _ => none) (fin tab [((Ty.int IntKind.u8).sl, Md.own false (Md.bor false false)), (Ty.int IntKind.i64, Md.bor false true)] (resL ([]) Try.f18)))
def link_Link_m0 (l' : List (List Int × List (Int × Int × Unit) × List (Int × Int × Unit) × Unit)) (out : List Int) (t19 : List Int × List (Int × Int) × List (Int × Int) × Unit) (t26 : Int) : St := ⟨fresh, [(0, AV.v ((Ty.int IntKind.u8).sl.pair (((Ty.int IntKind.i64).pair ((Ty.int IntKind.i64).pair Ty.unit)).sl.pair (((Ty.int IntKind.i64).pair ((Ty.int IntKind.i64).pair Ty.unit)).sl.pair Ty.unit))).sl (Md.bor true false) l'), (4, AV.pl 19 19 [Stp.dr]), (6, AV.ow 500006 (Ty.int IntKind.u8).sl (Md.own false (Md.bor false false)) out), (16, AV.dead), (18, AV.dead), (19, AV.box 19 500019 ((Ty.int IntKind.i64).sl.pair (((Ty.int IntKind.i64).mp (Ty.int IntKind.i64)).pair (((Ty.int IntKind.i64).mp (Ty.int IntKind.i64)).pair Ty.unit))) ((Md.own false (Md.bor false false)).pair ((Md.own true (Md.bor false false)).pair ((Md.own true (Md.bor false false)).pair (Md.bor false false)))) t19), (24, AV.v ((Ty.int IntKind.u8).sl.pair (((Ty.int IntKind.i64).pair ((Ty.int IntKind.i64).pair Ty.unit)).sl.pair (((Ty.int IntKind.i64).pair ((Ty.int IntKind.i64).pair Ty.unit)).sl.pair Ty.unit))).sl (Md.bor true false) l'), (25, AV.v (Ty.int IntKind.i64) (Md.bor false true) (↑l'.length : Int)), (26, AV.v (Ty.int IntKind.i64) (Md.bor false true) t26), (33, AV.dead)]⟩
noncomputable def link_Link_L2 (nf : Nat) : LC (List Int × Int × Unit) := theL (findL tab (link_Link_phi nf) (fun _ F => iter nf F) link_Link_keep 2 0 (codeOf Try.f18) (fin tab [((Ty.int IntKind.u8).sl, Md.own false (Md.bor false false)), (Ty.int IntKind.i64, Md.bor false true)] (resL ([]) Try.f18)) (fun _ _ => none) (fin tab [((Ty.int IntKind.u8).sl, Md.own false (Md.bor false false)), (Ty.int IntKind.i64, Md.bor false true)] (resL ([]) Try.f18)))
def link_Link_m2 (l' : List (List Int × List (Int × Int × Unit) × List (Int × Int × Unit) × Unit)) (out2 : List Int) (t192 : List Int × List (Int × Int) × List (Int × Int) × Unit) (t37 : Int) : St := ⟨fresh, [(0, AV.v ((Ty.int IntKind.u8).sl.pair (((Ty.int IntKind.i64).pair ((Ty.int IntKind.i64).pair Ty.unit)).sl.pair (((Ty.int IntKind.i64).pair ((Ty.int IntKind.i64).pair Ty.unit)).sl.pair Ty.unit))).sl (Md.bor true false) l'), (4, AV.pl 19 19 [Stp.dr]), (6, AV.ow 500006 (Ty.int IntKind.u8).sl (Md.own false (Md.bor false false)) out2), (16, AV.dead), (18, AV.dead), (19, AV.box 19 500019 ((Ty.int IntKind.i64).sl.pair (((Ty.int IntKind.i64).mp (Ty.int IntKind.i64)).pair (((Ty.int IntKind.i64).mp (Ty.int IntKind.i64)).pair Ty.unit))) ((Md.own false (Md.bor false false)).pair ((Md.own true (Md.bor false false)).pair ((Md.own true (Md.bor false false)).pair (Md.bor false false)))) t192), (33, AV.dead), (35, AV.v ((Ty.int IntKind.u8).sl.pair (((Ty.int IntKind.i64).pair ((Ty.int IntKind.i64).pair Ty.unit)).sl.pair (((Ty.int IntKind.i64).pair ((Ty.int IntKind.i64).pair Ty.unit)).sl.pair Ty.unit))).sl (Md.bor true false) l'), (36, AV.v (Ty.int IntKind.i64) (Md.bor false true) (↑l'.length : Int)), (37, AV.v (Ty.int IntKind.i64) (Md.bor false true) t37)]⟩
noncomputable def link_Link_L4 (nf : Nat) (G2 : St → Option (List Int × Int × Unit)) : LC (List Int × Int × Unit) := theL (findL tab (link_Link_phi nf) (fun _ F => iter nf F) link_Link_keep 4 2 (link_Link_L2 nf ).c (fun st => norm (link_Link_keep 2) st G2) (link_Link_L2 nf ).Kx (link_Link_L2 nf ).Kr)
def link_Link_m4 (l' : List (List Int × List (Int × Int × Unit) × List (Int × Int × Unit) × Unit)) (t37 : Int) (out3 : List Int) (o : List Int × List (Int × Int × Unit) × List (Int × Int × Unit) × Unit) (t193 : List Int × List (Int × Int) × List (Int × Int) × Unit) (t45 : Int) : St := ⟨fresh, [(0, AV.v ((Ty.int IntKind.u8).sl.pair (((Ty.int IntKind.i64).pair ((Ty.int IntKind.i64).pair Ty.unit)).sl.pair (((Ty.int IntKind.i64).pair ((Ty.int IntKind.i64).pair Ty.unit)).sl.pair Ty.unit))).sl (Md.bor true false) l'), (4, AV.pl 19 19 [Stp.dr]), (6, AV.ow 500006 (Ty.int IntKind.u8).sl (Md.own false (Md.bor false false)) out3), (9, AV.v (Ty.int IntKind.i64) (Md.bor false true) t37), (10, AV.box 10 500010 ((Ty.int IntKind.u8).sl.pair (((Ty.int IntKind.i64).pair ((Ty.int IntKind.i64).pair Ty.unit)).sl.pair (((Ty.int IntKind.i64).pair ((Ty.int IntKind.i64).pair Ty.unit)).sl.pair Ty.unit))) (Md.bor true false) o), (16, AV.dead), (18, AV.dead), (19, AV.box 19 500019 ((Ty.int IntKind.i64).sl.pair (((Ty.int IntKind.i64).mp (Ty.int IntKind.i64)).pair (((Ty.int IntKind.i64).mp (Ty.int IntKind.i64)).pair Ty.unit))) ((Md.own false (Md.bor false false)).pair ((Md.own true (Md.bor false false)).pair ((Md.own true (Md.bor false false)).pair (Md.bor false false)))) t193), (33, AV.dead), (35, AV.v ((Ty.int IntKind.u8).sl.pair (((Ty.int IntKind.i64).pair ((Ty.int IntKind.i64).pair Ty.unit)).sl.pair (((Ty.int IntKind.i64).pair ((Ty.int IntKind.i64).pair Ty.unit)).sl.pair Ty.unit))).sl (Md.bor true false) l'), (36, AV.v (Ty.int IntKind.i64) (Md.bor false true) (↑l'.length : Int)), (37, AV.v (Ty.int IntKind.i64) (Md.bor false true) t37), (42, AV.pl 10 10 [Stp.dr, Stp.fld 2]), (43, AV.v ((Ty.int IntKind.i64).pair ((Ty.int IntKind.i64).pair Ty.unit)).sl (Md.bor true false) (l'.getD t37.toNat ([], [], [], ())).snd.snd.fst), (44, AV.v (Ty.int IntKind.i64) (Md.bor false true) (↑(List.length (l'.getD t37.toNat ([], [], [], ())).snd.snd.fst) : Int)), (45, AV.v (Ty.int IntKind.i64) (Md.bor false true) t45)]⟩
theorem link_Link_h4 (nf : Nat) (G2 : St → Option (List Int × Int × Unit)) (l' : List (List Int × List (Int × Int × Unit) × List (Int × Int × Unit) × Unit)) (t37 : Int) (fu : Nat) (out3 : List Int) (o : List Int × List (Int × Int × Unit) × List (Int × Int × Unit) × Unit) (t193 : List Int × List (Int × Int) × List (Int × Int) × Unit) (t45 : Int) : iter (fu + 1) (LC.F tab (link_Link_phi nf) (fun _ F => iter nf F) link_Link_keep 4 (link_Link_L4 nf G2)) (link_Link_m4 l' t37 out3 o t193 t45) = link_Link_b4 nf  l' t37 (fun out2 t192 t37 => G2 (link_Link_m2 l' out2 t192 t37)) (fun out3 o t193 t45 => iter fu (LC.F tab (link_Link_phi nf) (fun _ F => iter nf F) link_Link_keep 4 (link_Link_L4 nf G2)) (link_Link_m4 l' t37 out3 o t193 t45)) out3 o t193 t45 := by kernel_rfl
theorem link_Link_e4 (nf : Nat) (G2 : St → Option (List Int × Int × Unit)) (l' : List (List Int × List (Int × Int × Unit) × List (Int × Int × Unit) × Unit)) (t37 : Int) : ∀ (fu : Nat) (out3 : List Int) (o : List Int × List (Int × Int × Unit) × List (Int × Int × Unit) × Unit) (t193 : List Int × List (Int × Int) × List (Int × Int) × Unit) (t45 : Int), iter fu (LC.F tab (link_Link_phi nf) (fun _ F => iter nf F) link_Link_keep 4 (link_Link_L4 nf G2)) (link_Link_m4 l' t37 out3 o t193 t45) = link_Link_l4 nf l' t37 (fun out2 t192 t37 => G2 (link_Link_m2 l' out2 t192 t37)) fu out3 o t193 t45 := by
  intro fu
  induction fu with
  | zero => intros; rfl
  | succ fu ih =>
    intro out3 o t193 t45
    rw [link_Link_h4 nf G2 l' t37 fu out3 o t193 t45]
    simp only [ih]
    rfl
theorem link_Link_h2 (nf : Nat)  (l' : List (List Int × List (Int × Int × Unit) × List (Int × Int × Unit) × Unit)) (fu : Nat) (out2 : List Int) (t192 : List Int × List (Int × Int) × List (Int × Int) × Unit) (t37 : Int) : iter (fu + 1) (LC.F tab (link_Link_phi nf) (fun _ F => iter nf F) link_Link_keep 2 (link_Link_L2 nf )) (link_Link_m2 l' out2 t192 t37) = link_Link_b2 nf (fun _ p1 v0 v1 v2 v3 => iter nf (LC.F tab (link_Link_phi nf) (fun _ F => iter nf F) link_Link_keep 4 (link_Link_L4 nf (iter fu (LC.F tab (link_Link_phi nf) (fun _ F => iter nf F) link_Link_keep 2 (link_Link_L2 nf ))))) (link_Link_m4 l' p1 v0 v1 v2 v3)) l'  (fun out2 t192 t37 => iter fu (LC.F tab (link_Link_phi nf) (fun _ F => iter nf F) link_Link_keep 2 (link_Link_L2 nf )) (link_Link_m2 l' out2 t192 t37)) out2 t192 t37 := by kernel_rfl
theorem link_Link_e2 (nf : Nat)  (l' : List (List Int × List (Int × Int × Unit) × List (Int × Int × Unit) × Unit)) : ∀ (fu : Nat) (out2 : List Int) (t192 : List Int × List (Int × Int) × List (Int × Int) × Unit) (t37 : Int), iter fu (LC.F tab (link_Link_phi nf) (fun _ F => iter nf F) link_Link_keep 2 (link_Link_L2 nf )) (link_Link_m2 l' out2 t192 t37) = link_Link_l2 nf l'  fu out2 t192 t37 := by
  intro fu
  induction fu with
  | zero => intros; rfl
  | succ fu ih =>
    intro out2 t192 t37
    rw [link_Link_h2 nf  l' fu out2 t192 t37]
    simp only [ih, link_Link_e4]
    rfl
theorem link_Link_h0 (nf : Nat)  (l' : List (List Int × List (Int × Int × Unit) × List (Int × Int × Unit) × Unit)) (fu : Nat) (out : List Int) (t19 : List Int × List (Int × Int) × List (Int × Int) × Unit) (t26 : Int) : iter (fu + 1) (LC.F tab (link_Link_phi nf) (fun _ F => iter nf F) link_Link_keep 0 (link_Link_L0 nf )) (link_Link_m0 l' out t19 t26) = link_Link_b0 nf (fun _ v0 v1 v2 => iter nf (LC.F tab (link_Link_phi nf) (fun _ F => iter nf F) link_Link_keep 2 (link_Link_L2 nf )) (link_Link_m2 l' v0 v1 v2)) l'  (fun out t19 t26 => iter fu (LC.F tab (link_Link_phi nf) (fun _ F => iter nf F) link_Link_keep 0 (link_Link_L0 nf )) (link_Link_m0 l' out t19 t26)) out t19 t26 := by kernel_rfl
theorem link_Link_e0 (nf : Nat)  (l' : List (List Int × List (Int × Int × Unit) × List (Int × Int × Unit) × Unit)) : ∀ (fu : Nat) (out : List Int) (t19 : List Int × List (Int × Int) × List (Int × Int) × Unit) (t26 : Int), iter fu (LC.F tab (link_Link_phi nf) (fun _ F => iter nf F) link_Link_keep 0 (link_Link_L0 nf )) (link_Link_m0 l' out t19 t26) = link_Link_l0 nf l'  fu out t19 t26 := by
  intro fu
  induction fu with
  | zero => intros; rfl
  | succ fu ih =>
    intro out t19 t26
    rw [link_Link_h0 nf  l' fu out t19 t26]
    simp only [ih, link_Link_e2]
    rfl
theorem link_Link_eq (nf : Nat) (l' : List (List Int × List (Int × Int × Unit) × List (Int × Int × Unit) × Unit)) : runF tab (link_Link_phi nf) link_Link_keep nf [PT.val ((Ty.int IntKind.u8).sl.pair (((Ty.int IntKind.i64).pair ((Ty.int IntKind.i64).pair Ty.unit)).sl.pair (((Ty.int IntKind.i64).pair ((Ty.int IntKind.i64).pair Ty.unit)).sl.pair Ty.unit))).sl (Md.bor true false)] [((Ty.int IntKind.u8).sl, Md.own false (Md.bor false false)), (Ty.int IntKind.i64, Md.bor false true)] (resL ([]) Try.f18) (codeOf Try.f18) ⟨l', ()⟩ = link_Link_f nf l' := by
  have h : runF tab (link_Link_phi nf) link_Link_keep nf [PT.val ((Ty.int IntKind.u8).sl.pair (((Ty.int IntKind.i64).pair ((Ty.int IntKind.i64).pair Ty.unit)).sl.pair (((Ty.int IntKind.i64).pair ((Ty.int IntKind.i64).pair Ty.unit)).sl.pair Ty.unit))).sl (Md.bor true false)] [((Ty.int IntKind.u8).sl, Md.own false (Md.bor false false)), (Ty.int IntKind.i64, Md.bor false true)] (resL ([]) Try.f18) (codeOf Try.f18) ⟨l', ()⟩ = link_Link_p nf (fun p0 v0 v1 v2 => iter nf (LC.F tab (link_Link_phi nf) (fun _ F => iter nf F) link_Link_keep 0 (link_Link_L0 nf)) (link_Link_m0 p0 v0 v1 v2)) l' := by kernel_rfl
  rw [h]
  simp only [link_Link_e0]
  rfl
def link_Link_F (nf : Nat) (x : denPs [.val (.sl (.pair (.sl (.int .u8)) (.pair (.sl (.pair (.int .i64) (.pair (.int .i64) (.unit)))) (.pair (.sl (.pair (.int .i64) (.pair (.int .i64) (.unit)))) (.unit))))) (.bor true false)]) : Option (denL [(.sl (.int .u8), .own false (.bor false false)), (.int .i64, .bor false true)]) := link_Link_f nf x.1
def link_Link_C (nf : Nat) : Contract := ⟨[.val (.sl (.pair (.sl (.int .u8)) (.pair (.sl (.pair (.int .i64) (.pair (.int .i64) (.unit)))) (.pair (.sl (.pair (.int .i64) (.pair (.int .i64) (.unit)))) (.unit))))) (.bor true false)], [(.sl (.int .u8), .own false (.bor false false)), (.int .i64, .bor false true)], link_Link_F nf, []⟩
theorem link_Link_ok : FnOK Try.prog 18 := ⟨Try.f18, codeOf Try.f18, Try.func18, by kernel_rfl, by kernel_rfl⟩
theorem link_Link_holds (nf : Nat) : Contract.Holds Try.prog 18 (link_Link_C nf) :=
  fn_holds (Φ := link_Link_phi nf) (keep := link_Link_keep) (n := nf) ⟨tabs.1, tabs.2, (ctx_cons link_build_ok (link_build_holds nf) ctx_nil), mixed, bk_ok bkls rfl⟩ (fn := Try.f18) ⟨Try.func18, by kernel_rfl, by kernel_rfl, by kernel_rfl⟩ (fun x => link_Link_eq nf x.1)

/-! codemason codemasonref.Linked -/
def ref_Linked_phi (nf : Nat) : Nat → Option Contract := lookC [(15, ref_Address_C nf)]
def ref_Linked_keep : Nat → List Nat := lookK [(2, [0, 4, 6, 7, 11, 12, 13, 20, 21, 22, 23, 24, 52]), (0, [0, 4, 11, 12, 13, 52])]
def ref_Linked_b0 (nf : Nat) (l2 : List (List Int × List (Int × Int × Unit) × List (Int × Int × Unit) × Unit) → Int → List Int → List Int × List (Int × Int × Unit) × List (Int × Int × Unit) × Unit → List Int → Int → Option (List Int × Bool × Unit)) (l' : List (List Int × List (Int × Int × Unit) × List (Int × Int × Unit) × Unit)) (g0 : List Int → Int → Option (List Int × Bool × Unit)) (out : List Int) (t13 : Int) : Option (List Int × Bool × Unit) :=
  bif decide (t13 < (↑l'.length : Int)) then
    bif inb t13 l'.length then
      bif bimp false !List.isEmpty (l'.getD t13.toNat ([], [], [], ())).fst && ((List.length ([] : List Unit)) + List.length (l'.getD t13.toNat ([], [], [], ())).fst).ble lim then
        l2 l' t13 out (l'.getD t13.toNat ([], [], [], ())) ([] ++ (l'.getD t13.toNat ([], [], [], ())).fst) 0
      else
        none
    else
      none
  else
    some ((out, true, ()))
def ref_Linked_b2 (nf : Nat) (l' : List (List Int × List (Int × Int × Unit) × List (Int × Int × Unit) × Unit)) (t13 : Int) (g0 : List Int → Int → Option (List Int × Bool × Unit)) (g2 : List Int → List Int × List (Int × Int × Unit) × List (Int × Int × Unit) × Unit → List Int → Int → Option (List Int × Bool × Unit)) (out2 : List Int) (o : List Int × List (Int × Int × Unit) × List (Int × Int × Unit) × Unit) (b : List Int) (t24 : Int) : Option (List Int × Bool × Unit) :=
  bif decide (t24 < (↑(List.length (l'.getD t13.toNat ([], [], [], ())).snd.snd.fst) : Int)) then
    bif inb t24 (List.length (l'.getD t13.toNat ([], [], [], ())).snd.snd.fst) then
      Option.bind (ref_Address_f nf l' ((List.getD (l'.getD t13.toNat ([], [], [], ())).snd.snd.fst t24.toNat (0, 0, ())).fst)) fun r =>
      bif decide (r.fst < 0) then
        some (([], false, ()))
      else
        bif inb (List.getD (l'.getD t13.toNat ([], [], [], ())).snd.snd.fst t24.toNat (0, 0, ())).snd.fst b.length then
          bif inb (IntKind.i64.wrap ((List.getD (l'.getD t13.toNat ([], [], [], ())).snd.snd.fst t24.toNat (0, 0, ())).snd.fst + 1)) (b.set (Int.toNat (List.getD (l'.getD t13.toNat ([], [], [], ())).snd.snd.fst t24.toNat (0, 0, ())).snd.fst) (IntKind.u8.wrap (Int.tmod r.fst 256))).length then
            g2 out2 o ((b.set (Int.toNat (List.getD (l'.getD t13.toNat ([], [], [], ())).snd.snd.fst t24.toNat (0, 0, ())).snd.fst) (IntKind.u8.wrap (Int.tmod r.fst 256))).set (IntKind.i64.wrap ((List.getD (l'.getD t13.toNat ([], [], [], ())).snd.snd.fst t24.toNat (0, 0, ())).snd.fst + 1)).toNat (IntKind.u8.wrap (IntKind.i64.wrap (Int.tdiv r.fst 256)))) (IntKind.i64.wrap (t24 + 1))
          else
            none
        else
          none
    else
      none
  else
    bif bimp false !b.isEmpty && (out2.length + b.length).ble lim then
      g0 (out2 ++ b) (IntKind.i64.wrap (t13 + 1))
    else
      none
def ref_Linked_p (nf : Nat) (l0 : List (List Int × List (Int × Int × Unit) × List (Int × Int × Unit) × Unit) → List Int → Int → Option (List Int × Bool × Unit)) (l' : List (List Int × List (Int × Int × Unit) × List (Int × Int × Unit) × Unit)) : Option (List Int × Bool × Unit) :=
  l0 l' [] 0
def ref_Linked_l2 (nf : Nat) (l' : List (List Int × List (Int × Int × Unit) × List (Int × Int × Unit) × Unit)) (t13 : Int) (g0 : List Int → Int → Option (List Int × Bool × Unit)) : Nat → List Int → List Int × List (Int × Int × Unit) × List (Int × Int × Unit) × Unit → List Int → Int → Option (List Int × Bool × Unit)
  | 0, _, _, _, _ => none
  | fu + 1, out2, o, b, t24 => ref_Linked_b2 nf  l' t13 g0 (ref_Linked_l2 nf l' t13 g0 fu) out2 o b t24
def ref_Linked_l0 (nf : Nat) (l' : List (List Int × List (Int × Int × Unit) × List (Int × Int × Unit) × Unit)) : Nat → List Int → Int → Option (List Int × Bool × Unit)
  | 0, _, _ => none
  | fu + 1, out, t13 => ref_Linked_b0 nf (fun _ p1 v0 v1 v2 v3 => ref_Linked_l2 nf l' p1 (fun out t13 => ref_Linked_l0 nf l'  fu out t13) nf v0 v1 v2 v3) l'  (ref_Linked_l0 nf l'  fu) out t13
def ref_Linked_f (nf : Nat) (l' : List (List Int × List (Int × Int × Unit) × List (Int × Int × Unit) × Unit)) : Option (List Int × Bool × Unit) := ref_Linked_p nf (fun p0 v0 v1 => ref_Linked_l0 nf p0 nf v0 v1) l'
noncomputable def ref_Linked_L0 (nf : Nat) : LC (List Int × Bool × Unit) := theL (findL tab (ref_Linked_phi nf) (fun _ F => iter nf F) ref_Linked_keep 0 0 (codeOf Try.f19) (fin tab [((Ty.int IntKind.u8).sl, Md.own false (Md.bor false false)), (Ty.bool, Md.bor false true)] (resL ([]) Try.f19)) (fun _ _ => none) (fin tab [((Ty.int IntKind.u8).sl, Md.own false (Md.bor false false)), (Ty.bool, Md.bor false true)] (resL ([]) Try.f19)))
def ref_Linked_m0 (l' : List (List Int × List (Int × Int × Unit) × List (Int × Int × Unit) × Unit)) (out : List Int) (t13 : Int) : St := ⟨fresh, [(0, AV.v ((Ty.int IntKind.u8).sl.pair (((Ty.int IntKind.i64).pair ((Ty.int IntKind.i64).pair Ty.unit)).sl.pair (((Ty.int IntKind.i64).pair ((Ty.int IntKind.i64).pair Ty.unit)).sl.pair Ty.unit))).sl (Md.bor true false) l'), (4, AV.ow 500004 (Ty.int IntKind.u8).sl (Md.own false (Md.bor false false)) out), (11, AV.v ((Ty.int IntKind.u8).sl.pair (((Ty.int IntKind.i64).pair ((Ty.int IntKind.i64).pair Ty.unit)).sl.pair (((Ty.int IntKind.i64).pair ((Ty.int IntKind.i64).pair Ty.unit)).sl.pair Ty.unit))).sl (Md.bor true false) l'), (12, AV.v (Ty.int IntKind.i64) (Md.bor false true) (↑l'.length : Int)), (13, AV.v (Ty.int IntKind.i64) (Md.bor false true) t13), (52, AV.dead)]⟩
noncomputable def ref_Linked_L2 (nf : Nat) (G0 : St → Option (List Int × Bool × Unit)) : LC (List Int × Bool × Unit) := theL (findL tab (ref_Linked_phi nf) (fun _ F => iter nf F) ref_Linked_keep 2 0 (ref_Linked_L0 nf ).c (fun st => norm (ref_Linked_keep 0) st G0) (ref_Linked_L0 nf ).Kx (ref_Linked_L0 nf ).Kr)
def ref_Linked_m2 (l' : List (List Int × List (Int × Int × Unit) × List (Int × Int × Unit) × Unit)) (t13 : Int) (out2 : List Int) (o : List Int × List (Int × Int × Unit) × List (Int × Int × Unit) × Unit) (b : List Int) (t24 : Int) : St := ⟨fresh, [(0, AV.v ((Ty.int IntKind.u8).sl.pair (((Ty.int IntKind.i64).pair ((Ty.int IntKind.i64).pair Ty.unit)).sl.pair (((Ty.int IntKind.i64).pair ((Ty.int IntKind.i64).pair Ty.unit)).sl.pair Ty.unit))).sl (Md.bor true false) l'), (4, AV.ow 500004 (Ty.int IntKind.u8).sl (Md.own false (Md.bor false false)) out2), (6, AV.box 6 500006 ((Ty.int IntKind.u8).sl.pair (((Ty.int IntKind.i64).pair ((Ty.int IntKind.i64).pair Ty.unit)).sl.pair (((Ty.int IntKind.i64).pair ((Ty.int IntKind.i64).pair Ty.unit)).sl.pair Ty.unit))) (Md.bor true false) o), (7, AV.ow 500007 (Ty.int IntKind.u8).sl (Md.own false (Md.bor false false)) b), (11, AV.v ((Ty.int IntKind.u8).sl.pair (((Ty.int IntKind.i64).pair ((Ty.int IntKind.i64).pair Ty.unit)).sl.pair (((Ty.int IntKind.i64).pair ((Ty.int IntKind.i64).pair Ty.unit)).sl.pair Ty.unit))).sl (Md.bor true false) l'), (12, AV.v (Ty.int IntKind.i64) (Md.bor false true) (↑l'.length : Int)), (13, AV.v (Ty.int IntKind.i64) (Md.bor false true) t13), (20, AV.dead), (21, AV.pl 6 6 [Stp.dr, Stp.fld 2]), (22, AV.v ((Ty.int IntKind.i64).pair ((Ty.int IntKind.i64).pair Ty.unit)).sl (Md.bor true false) (l'.getD t13.toNat ([], [], [], ())).snd.snd.fst), (23, AV.v (Ty.int IntKind.i64) (Md.bor false true) (↑(List.length (l'.getD t13.toNat ([], [], [], ())).snd.snd.fst) : Int)), (24, AV.v (Ty.int IntKind.i64) (Md.bor false true) t24), (52, AV.dead)]⟩
theorem ref_Linked_h2 (nf : Nat) (G0 : St → Option (List Int × Bool × Unit)) (l' : List (List Int × List (Int × Int × Unit) × List (Int × Int × Unit) × Unit)) (t13 : Int) (fu : Nat) (out2 : List Int) (o : List Int × List (Int × Int × Unit) × List (Int × Int × Unit) × Unit) (b : List Int) (t24 : Int) : iter (fu + 1) (LC.F tab (ref_Linked_phi nf) (fun _ F => iter nf F) ref_Linked_keep 2 (ref_Linked_L2 nf G0)) (ref_Linked_m2 l' t13 out2 o b t24) = ref_Linked_b2 nf  l' t13 (fun out t13 => G0 (ref_Linked_m0 l' out t13)) (fun out2 o b t24 => iter fu (LC.F tab (ref_Linked_phi nf) (fun _ F => iter nf F) ref_Linked_keep 2 (ref_Linked_L2 nf G0)) (ref_Linked_m2 l' t13 out2 o b t24)) out2 o b t24 := by kernel_rfl
theorem ref_Linked_e2 (nf : Nat) (G0 : St → Option (List Int × Bool × Unit)) (l' : List (List Int × List (Int × Int × Unit) × List (Int × Int × Unit) × Unit)) (t13 : Int) : ∀ (fu : Nat) (out2 : List Int) (o : List Int × List (Int × Int × Unit) × List (Int × Int × Unit) × Unit) (b : List Int) (t24 : Int), iter fu (LC.F tab (ref_Linked_phi nf) (fun _ F => iter nf F) ref_Linked_keep 2 (ref_Linked_L2 nf G0)) (ref_Linked_m2 l' t13 out2 o b t24) = ref_Linked_l2 nf l' t13 (fun out t13 => G0 (ref_Linked_m0 l' out t13)) fu out2 o b t24 := by
  intro fu
  induction fu with
  | zero => intros; rfl
  | succ fu ih =>
    intro out2 o b t24
    rw [ref_Linked_h2 nf G0 l' t13 fu out2 o b t24]
    simp only [ih]
    rfl
theorem ref_Linked_h0 (nf : Nat)  (l' : List (List Int × List (Int × Int × Unit) × List (Int × Int × Unit) × Unit)) (fu : Nat) (out : List Int) (t13 : Int) : iter (fu + 1) (LC.F tab (ref_Linked_phi nf) (fun _ F => iter nf F) ref_Linked_keep 0 (ref_Linked_L0 nf )) (ref_Linked_m0 l' out t13) = ref_Linked_b0 nf (fun _ p1 v0 v1 v2 v3 => iter nf (LC.F tab (ref_Linked_phi nf) (fun _ F => iter nf F) ref_Linked_keep 2 (ref_Linked_L2 nf (iter fu (LC.F tab (ref_Linked_phi nf) (fun _ F => iter nf F) ref_Linked_keep 0 (ref_Linked_L0 nf ))))) (ref_Linked_m2 l' p1 v0 v1 v2 v3)) l'  (fun out t13 => iter fu (LC.F tab (ref_Linked_phi nf) (fun _ F => iter nf F) ref_Linked_keep 0 (ref_Linked_L0 nf )) (ref_Linked_m0 l' out t13)) out t13 := by kernel_rfl
theorem ref_Linked_e0 (nf : Nat)  (l' : List (List Int × List (Int × Int × Unit) × List (Int × Int × Unit) × Unit)) : ∀ (fu : Nat) (out : List Int) (t13 : Int), iter fu (LC.F tab (ref_Linked_phi nf) (fun _ F => iter nf F) ref_Linked_keep 0 (ref_Linked_L0 nf )) (ref_Linked_m0 l' out t13) = ref_Linked_l0 nf l'  fu out t13 := by
  intro fu
  induction fu with
  | zero => intros; rfl
  | succ fu ih =>
    intro out t13
    rw [ref_Linked_h0 nf  l' fu out t13]
    simp only [ih, ref_Linked_e2]
    rfl
theorem ref_Linked_eq (nf : Nat) (l' : List (List Int × List (Int × Int × Unit) × List (Int × Int × Unit) × Unit)) : runF tab (ref_Linked_phi nf) ref_Linked_keep nf [PT.val ((Ty.int IntKind.u8).sl.pair (((Ty.int IntKind.i64).pair ((Ty.int IntKind.i64).pair Ty.unit)).sl.pair (((Ty.int IntKind.i64).pair ((Ty.int IntKind.i64).pair Ty.unit)).sl.pair Ty.unit))).sl (Md.bor true false)] [((Ty.int IntKind.u8).sl, Md.own false (Md.bor false false)), (Ty.bool, Md.bor false true)] (resL ([]) Try.f19) (codeOf Try.f19) ⟨l', ()⟩ = ref_Linked_f nf l' := by
  have h : runF tab (ref_Linked_phi nf) ref_Linked_keep nf [PT.val ((Ty.int IntKind.u8).sl.pair (((Ty.int IntKind.i64).pair ((Ty.int IntKind.i64).pair Ty.unit)).sl.pair (((Ty.int IntKind.i64).pair ((Ty.int IntKind.i64).pair Ty.unit)).sl.pair Ty.unit))).sl (Md.bor true false)] [((Ty.int IntKind.u8).sl, Md.own false (Md.bor false false)), (Ty.bool, Md.bor false true)] (resL ([]) Try.f19) (codeOf Try.f19) ⟨l', ()⟩ = ref_Linked_p nf (fun p0 v0 v1 => iter nf (LC.F tab (ref_Linked_phi nf) (fun _ F => iter nf F) ref_Linked_keep 0 (ref_Linked_L0 nf)) (ref_Linked_m0 p0 v0 v1)) l' := by kernel_rfl
  rw [h]
  simp only [ref_Linked_e0]
  rfl
def ref_Linked_F (nf : Nat) (x : denPs [.val (.sl (.pair (.sl (.int .u8)) (.pair (.sl (.pair (.int .i64) (.pair (.int .i64) (.unit)))) (.pair (.sl (.pair (.int .i64) (.pair (.int .i64) (.unit)))) (.unit))))) (.bor true false)]) : Option (denL [(.sl (.int .u8), .own false (.bor false false)), (.bool, .bor false true)]) := ref_Linked_f nf x.1
def ref_Linked_C (nf : Nat) : Contract := ⟨[.val (.sl (.pair (.sl (.int .u8)) (.pair (.sl (.pair (.int .i64) (.pair (.int .i64) (.unit)))) (.pair (.sl (.pair (.int .i64) (.pair (.int .i64) (.unit)))) (.unit))))) (.bor true false)], [(.sl (.int .u8), .own false (.bor false false)), (.bool, .bor false true)], ref_Linked_F nf, []⟩
theorem ref_Linked_ok : FnOK Try.prog 19 := ⟨Try.f19, codeOf Try.f19, Try.func19, by kernel_rfl, by kernel_rfl⟩
theorem ref_Linked_holds (nf : Nat) : Contract.Holds Try.prog 19 (ref_Linked_C nf) :=
  fn_holds (Φ := ref_Linked_phi nf) (keep := ref_Linked_keep) (n := nf) ⟨tabs.1, tabs.2, (ctx_cons ref_Address_ok (ref_Address_holds nf) ctx_nil), mixed, bk_ok bkls rfl⟩ (fn := Try.f19) ⟨Try.func19, by kernel_rfl, by kernel_rfl, by kernel_rfl⟩ (fun x => ref_Linked_eq nf x.1)

/-! codemason codemasonref.Bytes -/
def ref_Bytes_phi (nf : Nat) : Nat → Option Contract := lookC []
def ref_Bytes_keep : Nat → List Nat := lookK [(0, [0, 1, 5])]
def ref_Bytes_b0 (nf : Nat) (a : List Int) (b : List Int) (g0 : Int → Option (Bool × Unit)) (i : Int) : Option (Bool × Unit) :=
  bif decide (i < (↑a.length : Int)) then
    bif inb i a.length then
      bif inb i b.length then
        bif a.getD i.toNat 0 != b.getD i.toNat 0 then
          some ((false, ()))
        else
          g0 (IntKind.i64.wrap (i + 1))
      else
        none
    else
      none
  else
    some ((true, ()))
def ref_Bytes_p (nf : Nat) (l0 : List Int → List Int → Int → Option (Bool × Unit)) (a : List Int) (b : List Int) : Option (Bool × Unit) :=
  bif (↑a.length : Int) != (↑b.length : Int) then
    some ((false, ()))
  else
    l0 a b 0
def ref_Bytes_l0 (nf : Nat) (a : List Int) (b : List Int) : Nat → Int → Option (Bool × Unit)
  | 0, _ => none
  | fu + 1, i => ref_Bytes_b0 nf  a b  (ref_Bytes_l0 nf a b  fu) i
def ref_Bytes_f (nf : Nat) (a : List Int) (b : List Int) : Option (Bool × Unit) := ref_Bytes_p nf (fun p0 p1 v0 => ref_Bytes_l0 nf p0 p1 nf v0) a b
noncomputable def ref_Bytes_L0 (nf : Nat) : LC (Bool × Unit) := theL (findL tab (ref_Bytes_phi nf) (fun _ F => iter nf F) ref_Bytes_keep 0 0 (codeOf Try.f20) (fin tab [(Ty.bool, Md.bor false true)] (resL ([]) Try.f20)) (fun _ _ => none) (fin tab [(Ty.bool, Md.bor false true)] (resL ([]) Try.f20)))
def ref_Bytes_m0 (a : List Int) (b : List Int) (i : Int) : St := ⟨fresh, [(0, AV.v (Ty.int IntKind.u8).sl (Md.bor true false) a), (1, AV.v (Ty.int IntKind.u8).sl (Md.bor true false) b), (5, AV.v (Ty.int IntKind.i64) (Md.bor false true) i)]⟩
theorem ref_Bytes_h0 (nf : Nat)  (a : List Int) (b : List Int) (fu : Nat) (i : Int) : iter (fu + 1) (LC.F tab (ref_Bytes_phi nf) (fun _ F => iter nf F) ref_Bytes_keep 0 (ref_Bytes_L0 nf )) (ref_Bytes_m0 a b i) = ref_Bytes_b0 nf  a b  (fun i => iter fu (LC.F tab (ref_Bytes_phi nf) (fun _ F => iter nf F) ref_Bytes_keep 0 (ref_Bytes_L0 nf )) (ref_Bytes_m0 a b i)) i := by kernel_rfl
theorem ref_Bytes_e0 (nf : Nat)  (a : List Int) (b : List Int) : ∀ (fu : Nat) (i : Int), iter fu (LC.F tab (ref_Bytes_phi nf) (fun _ F => iter nf F) ref_Bytes_keep 0 (ref_Bytes_L0 nf )) (ref_Bytes_m0 a b i) = ref_Bytes_l0 nf a b  fu i := by
  intro fu
  induction fu with
  | zero => intros; rfl
  | succ fu ih =>
    intro i
    rw [ref_Bytes_h0 nf  a b fu i]
    simp only [ih]
    rfl
theorem ref_Bytes_eq (nf : Nat) (a : List Int) (b : List Int) : runF tab (ref_Bytes_phi nf) ref_Bytes_keep nf [PT.val (Ty.int IntKind.u8).sl (Md.bor true false), PT.val (Ty.int IntKind.u8).sl (Md.bor true false)] [(Ty.bool, Md.bor false true)] (resL ([]) Try.f20) (codeOf Try.f20) ⟨a, b, ()⟩ = ref_Bytes_f nf a b := by
  have h : runF tab (ref_Bytes_phi nf) ref_Bytes_keep nf [PT.val (Ty.int IntKind.u8).sl (Md.bor true false), PT.val (Ty.int IntKind.u8).sl (Md.bor true false)] [(Ty.bool, Md.bor false true)] (resL ([]) Try.f20) (codeOf Try.f20) ⟨a, b, ()⟩ = ref_Bytes_p nf (fun p0 p1 v0 => iter nf (LC.F tab (ref_Bytes_phi nf) (fun _ F => iter nf F) ref_Bytes_keep 0 (ref_Bytes_L0 nf)) (ref_Bytes_m0 p0 p1 v0)) a b := by kernel_rfl
  rw [h]
  simp only [ref_Bytes_e0]
  rfl
def ref_Bytes_F (nf : Nat) (x : denPs [.val (.sl (.int .u8)) (.bor true false), .val (.sl (.int .u8)) (.bor true false)]) : Option (denL [(.bool, .bor false true)]) := ref_Bytes_f nf x.1 x.2.1
def ref_Bytes_C (nf : Nat) : Contract := ⟨[.val (.sl (.int .u8)) (.bor true false), .val (.sl (.int .u8)) (.bor true false)], [(.bool, .bor false true)], ref_Bytes_F nf, []⟩
theorem ref_Bytes_ok : FnOK Try.prog 20 := ⟨Try.f20, codeOf Try.f20, Try.func20, by kernel_rfl, by kernel_rfl⟩
theorem ref_Bytes_holds (nf : Nat) : Contract.Holds Try.prog 20 (ref_Bytes_C nf) :=
  fn_holds (Φ := ref_Bytes_phi nf) (keep := ref_Bytes_keep) (n := nf) ⟨tabs.1, tabs.2, ctx_nil, mixed, bk_ok bkls rfl⟩ (fn := Try.f20) ⟨Try.func20, by kernel_rfl, by kernel_rfl, by kernel_rfl⟩ (fun x => ref_Bytes_eq nf x.1 x.2.1)

/-! codemason codemasonlaw.LinkTells -/
def law_LinkTells_phi (nf : Nat) : Nat → Option Contract := lookC [(14, ref_ObjectsCheck_C nf), (18, link_Link_C nf), (19, ref_Linked_C nf), (20, ref_Bytes_C nf)]
def law_LinkTells_keep : Nat → List Nat := lookK []
def law_LinkTells_p (nf : Nat)  (l' : List (List Int × List (Int × Int × Unit) × List (Int × Int × Unit) × Unit)) : Option (Bool × Unit) :=
  Option.bind (link_Link_f nf l') fun r =>
  Option.bind (ref_ObjectsCheck_f nf l') fun r2 =>
  bif r2.fst != 0 then
    bif r.snd.fst == r2.fst then
      some (((↑(List.length r.fst) : Int) == 0, ()))
    else
      some ((false, ()))
  else
    Option.bind (ref_Linked_f nf l') fun r3 =>
    bif !r3.snd.fst then
      bif r.snd.fst == 5 then
        some (((↑(List.length r.fst) : Int) == 0, ()))
      else
        some ((false, ()))
    else
      bif r.snd.fst == 0 then
        Option.bind (ref_Bytes_f nf r.fst r3.fst) fun r4 =>
        some ((r4.fst, ()))
      else
        some ((false, ()))
def law_LinkTells_f (nf : Nat) (l' : List (List Int × List (Int × Int × Unit) × List (Int × Int × Unit) × Unit)) : Option (Bool × Unit) := law_LinkTells_p nf  l'
theorem law_LinkTells_eq (nf : Nat) (l' : List (List Int × List (Int × Int × Unit) × List (Int × Int × Unit) × Unit)) : runF tab (law_LinkTells_phi nf) law_LinkTells_keep nf [PT.val ((Ty.int IntKind.u8).sl.pair (((Ty.int IntKind.i64).pair ((Ty.int IntKind.i64).pair Ty.unit)).sl.pair (((Ty.int IntKind.i64).pair ((Ty.int IntKind.i64).pair Ty.unit)).sl.pair Ty.unit))).sl (Md.bor false false)] [(Ty.bool, Md.bor false true)] (resL ([]) Try.f6) (codeOf Try.f6) ⟨l', ()⟩ = law_LinkTells_f nf l' := by
  have h : runF tab (law_LinkTells_phi nf) law_LinkTells_keep nf [PT.val ((Ty.int IntKind.u8).sl.pair (((Ty.int IntKind.i64).pair ((Ty.int IntKind.i64).pair Ty.unit)).sl.pair (((Ty.int IntKind.i64).pair ((Ty.int IntKind.i64).pair Ty.unit)).sl.pair Ty.unit))).sl (Md.bor false false)] [(Ty.bool, Md.bor false true)] (resL ([]) Try.f6) (codeOf Try.f6) ⟨l', ()⟩ = law_LinkTells_p nf  l' := by kernel_rfl
  exact h
def law_LinkTells_F (nf : Nat) (x : denPs [.val (.sl (.pair (.sl (.int .u8)) (.pair (.sl (.pair (.int .i64) (.pair (.int .i64) (.unit)))) (.pair (.sl (.pair (.int .i64) (.pair (.int .i64) (.unit)))) (.unit))))) (.bor false false)]) : Option (denL [(.bool, .bor false true)]) := law_LinkTells_f nf x.1
def law_LinkTells_C (nf : Nat) : Contract := ⟨[.val (.sl (.pair (.sl (.int .u8)) (.pair (.sl (.pair (.int .i64) (.pair (.int .i64) (.unit)))) (.pair (.sl (.pair (.int .i64) (.pair (.int .i64) (.unit)))) (.unit))))) (.bor false false)], [(.bool, .bor false true)], law_LinkTells_F nf, []⟩
theorem law_LinkTells_ok : FnOK Try.prog 6 := ⟨Try.f6, codeOf Try.f6, Try.func6, by kernel_rfl, by kernel_rfl⟩
theorem law_LinkTells_holds (nf : Nat) : Contract.Holds Try.prog 6 (law_LinkTells_C nf) :=
  fn_holds (Φ := law_LinkTells_phi nf) (keep := law_LinkTells_keep) (n := nf) ⟨tabs.1, tabs.2, (ctx_cons ref_ObjectsCheck_ok (ref_ObjectsCheck_holds nf) (ctx_cons link_Link_ok (link_Link_holds nf) (ctx_cons ref_Linked_ok (ref_Linked_holds nf) (ctx_cons ref_Bytes_ok (ref_Bytes_holds nf) ctx_nil)))), mixed, bk_ok bkls rfl⟩ (fn := Try.f6) ⟨Try.func6, by kernel_rfl, by kernel_rfl, by kernel_rfl⟩ (fun x => law_LinkTells_eq nf x.1)
end
end Go.Proofs.Ytmndifhjmbiodaa.S
