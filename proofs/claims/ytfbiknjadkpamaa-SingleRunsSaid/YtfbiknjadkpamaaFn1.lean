/- The functions of the code, as plain functions, and the theorems that say so: made by a program of this proof's own. -/
import Derived.Test.YtfbiknjadkpamaaAbCheck
import Derived.Test.YtfbiknjadkpamaaChecked
namespace Go.Proofs.Ytfbiknjadkpamaa.S
open Go Go.Ab
def tab : Tab := ⟨lookT [(2, .int .i64), (3, .int .i64), (4, .bool), (5, .int .u8), (6, .int .u8), (7, .pair (.int .i64) (.pair (.int .i64) (.pair (.bool) (.pair (.int .u8) (.unit))))), (8, .pair (.int .i64) (.pair (.int .i64) (.pair (.bool) (.pair (.int .u8) (.unit))))), (12, .int .u64), (21, .int .i32), (22, .sl (.pair (.sl (.pair (.int .i64) (.pair (.sl (.int .i64)) (.unit)))) (.pair (.sl (.pair (.int .i64) (.pair (.int .i64) (.pair (.int .i64) (.pair (.int .i64) (.pair (.int .i64) (.unit))))))) (.pair (.int .i64) (.pair (.int .i64) (.pair (.int .i64) (.pair (.sl (.int .i64)) (.unit)))))))), (23, .int .i64), (26, .sl (.int .i64)), (37, .sl (.pair (.int .i64) (.pair (.sl (.int .i64)) (.unit)))), (38, .sl (.pair (.int .i64) (.pair (.int .i64) (.pair (.int .i64) (.pair (.int .i64) (.pair (.int .i64) (.unit))))))), (39, .pair (.sl (.pair (.int .i64) (.pair (.sl (.int .i64)) (.unit)))) (.pair (.sl (.pair (.int .i64) (.pair (.int .i64) (.pair (.int .i64) (.pair (.int .i64) (.pair (.int .i64) (.unit))))))) (.pair (.int .i64) (.pair (.int .i64) (.pair (.int .i64) (.pair (.sl (.int .i64)) (.unit))))))), (40, .pair (.sl (.pair (.int .i64) (.pair (.sl (.int .i64)) (.unit)))) (.pair (.sl (.pair (.int .i64) (.pair (.int .i64) (.pair (.int .i64) (.pair (.int .i64) (.pair (.int .i64) (.unit))))))) (.pair (.int .i64) (.pair (.int .i64) (.pair (.int .i64) (.pair (.sl (.int .i64)) (.unit))))))), (41, .sl (.sl (.int .i64))), (44, .sl (.pair (.sl (.pair (.int .i64) (.pair (.int .i64) (.pair (.int .i64) (.pair (.int .i64) (.pair (.int .i64) (.unit))))))) (.pair (.int .i64) (.pair (.int .i64) (.pair (.int .i64) (.unit)))))), (48, .pair (.int .i64) (.pair (.sl (.int .i64)) (.unit))), (49, .pair (.int .i64) (.pair (.sl (.int .i64)) (.unit))), (50, .pair (.int .i64) (.pair (.int .i64) (.pair (.int .i64) (.pair (.int .i64) (.pair (.int .i64) (.unit)))))), (51, .pair (.int .i64) (.pair (.int .i64) (.pair (.int .i64) (.pair (.int .i64) (.pair (.int .i64) (.unit)))))), (59, .sl (.int .u32)), (61, .pair (.int .i64) (.pair (.int .i64) (.unit))), (63, .int .u32), (70, .pair (.sl (.pair (.int .i64) (.pair (.int .i64) (.pair (.int .i64) (.pair (.int .i64) (.pair (.int .i64) (.unit))))))) (.pair (.int .i64) (.pair (.int .i64) (.pair (.int .i64) (.unit))))), (71, .pair (.sl (.pair (.int .i64) (.pair (.int .i64) (.pair (.int .i64) (.pair (.int .i64) (.pair (.int .i64) (.unit))))))) (.pair (.int .i64) (.pair (.int .i64) (.pair (.int .i64) (.unit))))), (85, .int .u8), (86, .int .u8), (89, .int .i32), (90, .int .i32)], lookM [(2, .bor false true), (3, .bor false true), (4, .bor false true), (5, .bor false true), (6, .bor false true), (7, .bor false true), (8, .bor false true), (12, .bor false true), (21, .bor false true), (22, .own false (.bor false false)), (23, .bor false true), (26, .own false (.bor false false)), (37, .own false (.bor false false)), (38, .own false (.bor false false)), (39, .bor true false), (40, .bor true false), (41, .own false (.bor false false)), (44, .own false (.bor false false)), (48, .bor true false), (49, .bor true false), (50, .bor false true), (51, .bor false true), (59, .own false (.bor false false)), (61, .bor false true), (63, .bor false true), (70, .bor true false), (71, .bor true false), (85, .bor false true), (86, .bor false true), (89, .bor false true), (90, .bor false true)], hasT [61, 81], hasT [9, 10, 11]⟩
theorem tabs : TabOK Try.prog tab ∧ EqOK Try.prog tab := tab_ok (by kernel_rfl) (by kernel_rfl)
theorem mixed : Try.prog.follows .mixedOrders = true := by kernel_rfl

/-! codemason single.large -/
def single_large_phi (nf : Nat) : Nat → Option Contract := lookC []
def single_large_keep : Nat → List Nat := lookK [(0, [0, 1, 5, 6, 9, 10, 11])]
def single_large_b0 (nf : Nat) (vars : Int) (l' : List (List (Int × List Int × Unit) × List (Int × Int × Int × Int × Int × Unit) × Int × Int × Int × List Int × Unit)) (g0 : Int → Int → Int → Option (Bool × Unit)) (steps : Int) (joins : Int) (t11 : Int) : Option (Bool × Unit) :=
  bif decide (t11 < (↑l'.length : Int)) then
    bif inb t11 l'.length then
      g0 (IntKind.i64.wrap (steps + (↑(List.length (l'.getD t11.toNat ([], [], 0, 0, 0, [], ())).snd.fst) : Int))) (IntKind.i64.wrap (joins + (↑(List.length (l'.getD t11.toNat ([], [], 0, 0, 0, [], ())).fst) : Int))) (IntKind.i64.wrap (t11 + 1))
    else
      none
  else
    bif decide (vars < 1) then
      some ((true, ()))
    else
      bif decide (vars > 6) then
        some ((true, ()))
      else
        bif decide ((↑l'.length : Int) < 1) then
          some ((true, ()))
        else
          bif decide ((↑l'.length : Int) > 8) then
            some ((true, ()))
          else
            bif decide (steps > 20) then
              some ((true, ()))
            else
              some ((decide (joins > 64), ()))
def single_large_p (nf : Nat) (l0 : Int → List (List (Int × List Int × Unit) × List (Int × Int × Int × Int × Int × Unit) × Int × Int × Int × List Int × Unit) → Int → Int → Int → Option (Bool × Unit)) (vars : Int) (l' : List (List (Int × List Int × Unit) × List (Int × Int × Int × Int × Int × Unit) × Int × Int × Int × List Int × Unit)) : Option (Bool × Unit) :=
  l0 vars l' 0 0 0
def single_large_l0 (nf : Nat) (vars : Int) (l' : List (List (Int × List Int × Unit) × List (Int × Int × Int × Int × Int × Unit) × Int × Int × Int × List Int × Unit)) : Nat → Int → Int → Int → Option (Bool × Unit)
  | 0, _, _, _ => none
  | fu + 1, steps, joins, t11 => single_large_b0 nf  vars l'  (single_large_l0 nf vars l'  fu) steps joins t11
def single_large_f (nf : Nat) (vars : Int) (l' : List (List (Int × List Int × Unit) × List (Int × Int × Int × Int × Int × Unit) × Int × Int × Int × List Int × Unit)) : Option (Bool × Unit) := single_large_p nf (fun p0 p1 v0 v1 v2 => single_large_l0 nf p0 p1 nf v0 v1 v2) vars l'
noncomputable def single_large_L0 (nf : Nat) : LC (Bool × Unit) := theL (findL tab (single_large_phi nf) (fun _ F => iter nf F) single_large_keep 0 0 (codeOf Try.f14) (fin tab [(Ty.bool, Md.bor false true)] (resL (none) Try.f14)) (fun _ _ => none) (fin tab [(Ty.bool, Md.bor false true)] (resL (none) Try.f14)))
def single_large_m0 (vars : Int) (l' : List (List (Int × List Int × Unit) × List (Int × Int × Int × Int × Int × Unit) × Int × Int × Int × List Int × Unit)) (steps : Int) (joins : Int) (t11 : Int) : St := ⟨fresh, [(0, AV.v (Ty.int IntKind.i64) (Md.bor false true) vars), (1, AV.v (((Ty.int IntKind.i64).pair ((Ty.int IntKind.i64).sl.pair Ty.unit)).sl.pair (((Ty.int IntKind.i64).pair ((Ty.int IntKind.i64).pair ((Ty.int IntKind.i64).pair ((Ty.int IntKind.i64).pair ((Ty.int IntKind.i64).pair Ty.unit))))).sl.pair ((Ty.int IntKind.i64).pair ((Ty.int IntKind.i64).pair ((Ty.int IntKind.i64).pair ((Ty.int IntKind.i64).sl.pair Ty.unit)))))).sl (Md.bor true false) l'), (5, AV.v (Ty.int IntKind.i64) (Md.bor false true) steps), (6, AV.v (Ty.int IntKind.i64) (Md.bor false true) joins), (9, AV.v (((Ty.int IntKind.i64).pair ((Ty.int IntKind.i64).sl.pair Ty.unit)).sl.pair (((Ty.int IntKind.i64).pair ((Ty.int IntKind.i64).pair ((Ty.int IntKind.i64).pair ((Ty.int IntKind.i64).pair ((Ty.int IntKind.i64).pair Ty.unit))))).sl.pair ((Ty.int IntKind.i64).pair ((Ty.int IntKind.i64).pair ((Ty.int IntKind.i64).pair ((Ty.int IntKind.i64).sl.pair Ty.unit)))))).sl (Md.bor true false) l'), (10, AV.v (Ty.int IntKind.i64) (Md.bor false true) (↑l'.length : Int)), (11, AV.v (Ty.int IntKind.i64) (Md.bor false true) t11)]⟩
theorem single_large_h0 (nf : Nat)  (vars : Int) (l' : List (List (Int × List Int × Unit) × List (Int × Int × Int × Int × Int × Unit) × Int × Int × Int × List Int × Unit)) (fu : Nat) (steps : Int) (joins : Int) (t11 : Int) : iter (fu + 1) (LC.F tab (single_large_phi nf) (fun _ F => iter nf F) single_large_keep 0 (single_large_L0 nf )) (single_large_m0 vars l' steps joins t11) = single_large_b0 nf  vars l'  (fun steps joins t11 => iter fu (LC.F tab (single_large_phi nf) (fun _ F => iter nf F) single_large_keep 0 (single_large_L0 nf )) (single_large_m0 vars l' steps joins t11)) steps joins t11 := by kernel_rfl
theorem single_large_e0 (nf : Nat)  (vars : Int) (l' : List (List (Int × List Int × Unit) × List (Int × Int × Int × Int × Int × Unit) × Int × Int × Int × List Int × Unit)) : ∀ (fu : Nat) (steps : Int) (joins : Int) (t11 : Int), iter fu (LC.F tab (single_large_phi nf) (fun _ F => iter nf F) single_large_keep 0 (single_large_L0 nf )) (single_large_m0 vars l' steps joins t11) = single_large_l0 nf vars l'  fu steps joins t11 := by
  intro fu
  induction fu with
  | zero => intros; rfl
  | succ fu ih =>
    intro steps joins t11
    rw [single_large_h0 nf  vars l' fu steps joins t11]
    simp only [ih]
    rfl
theorem single_large_eq (nf : Nat) (vars : Int) (l' : List (List (Int × List Int × Unit) × List (Int × Int × Int × Int × Int × Unit) × Int × Int × Int × List Int × Unit)) : runF tab (single_large_phi nf) single_large_keep nf [PT.val (Ty.int IntKind.i64) (Md.bor true false), PT.val (((Ty.int IntKind.i64).pair ((Ty.int IntKind.i64).sl.pair Ty.unit)).sl.pair (((Ty.int IntKind.i64).pair ((Ty.int IntKind.i64).pair ((Ty.int IntKind.i64).pair ((Ty.int IntKind.i64).pair ((Ty.int IntKind.i64).pair Ty.unit))))).sl.pair ((Ty.int IntKind.i64).pair ((Ty.int IntKind.i64).pair ((Ty.int IntKind.i64).pair ((Ty.int IntKind.i64).sl.pair Ty.unit)))))).sl (Md.bor true false)] [(Ty.bool, Md.bor false true)] (resL (none) Try.f14) (codeOf Try.f14) ⟨vars, l', ()⟩ = single_large_f nf vars l' := by
  have h : runF tab (single_large_phi nf) single_large_keep nf [PT.val (Ty.int IntKind.i64) (Md.bor true false), PT.val (((Ty.int IntKind.i64).pair ((Ty.int IntKind.i64).sl.pair Ty.unit)).sl.pair (((Ty.int IntKind.i64).pair ((Ty.int IntKind.i64).pair ((Ty.int IntKind.i64).pair ((Ty.int IntKind.i64).pair ((Ty.int IntKind.i64).pair Ty.unit))))).sl.pair ((Ty.int IntKind.i64).pair ((Ty.int IntKind.i64).pair ((Ty.int IntKind.i64).pair ((Ty.int IntKind.i64).sl.pair Ty.unit)))))).sl (Md.bor true false)] [(Ty.bool, Md.bor false true)] (resL (none) Try.f14) (codeOf Try.f14) ⟨vars, l', ()⟩ = single_large_p nf (fun p0 p1 v0 v1 v2 => iter nf (LC.F tab (single_large_phi nf) (fun _ F => iter nf F) single_large_keep 0 (single_large_L0 nf)) (single_large_m0 p0 p1 v0 v1 v2)) vars l' := by kernel_rfl
  rw [h]
  simp only [single_large_e0]
  rfl
def single_large_F (nf : Nat) (x : denPs [.val (.int .i64) (.bor true false), .val (.sl (.pair (.sl (.pair (.int .i64) (.pair (.sl (.int .i64)) (.unit)))) (.pair (.sl (.pair (.int .i64) (.pair (.int .i64) (.pair (.int .i64) (.pair (.int .i64) (.pair (.int .i64) (.unit))))))) (.pair (.int .i64) (.pair (.int .i64) (.pair (.int .i64) (.pair (.sl (.int .i64)) (.unit)))))))) (.bor true false)]) : Option (denL [(.bool, .bor false true)]) := single_large_f nf x.1 x.2.1
def single_large_C (nf : Nat) : Contract := ⟨[.val (.int .i64) (.bor true false), .val (.sl (.pair (.sl (.pair (.int .i64) (.pair (.sl (.int .i64)) (.unit)))) (.pair (.sl (.pair (.int .i64) (.pair (.int .i64) (.pair (.int .i64) (.pair (.int .i64) (.pair (.int .i64) (.unit))))))) (.pair (.int .i64) (.pair (.int .i64) (.pair (.int .i64) (.pair (.sl (.int .i64)) (.unit)))))))) (.bor true false)], [(.bool, .bor false true)], single_large_F nf, none⟩
theorem single_large_ok : FnOK Try.prog 14 := ⟨Try.f14, codeOf Try.f14, Try.func14, by kernel_rfl, by kernel_rfl⟩
theorem single_large_holds (nf : Nat) : Contract.Holds Try.prog 14 (single_large_C nf) :=
  fn_holds (Φ := single_large_phi nf) (keep := single_large_keep) (n := nf) ⟨tabs.1, tabs.2, ctx_nil, mixed⟩ (fn := Try.f14) ⟨Try.func14, by kernel_rfl, by kernel_rfl, by kernel_rfl⟩ (fun x => single_large_eq nf x.1 x.2.1)

/-! codemason single.Check 1 -/
def single_Check_1_phi (nf : Nat) : Nat → Option Contract := lookC []
def single_Check_1_keep : Nat → List Nat := lookK []
def single_Check_1_p (nf : Nat)  (i : Int) (c1 : List (List (Int × List Int × Unit) × List (Int × Int × Int × Int × Int × Unit) × Int × Int × Int × List Int × Unit)) : Option (Bool × Unit) :=
  bif decide (i ≥ 0) then
    some ((decide (i < (↑c1.length : Int)), ()))
  else
    some ((false, ()))
def single_Check_1_f (nf : Nat) (i : Int) (c1 : List (List (Int × List Int × Unit) × List (Int × Int × Int × Int × Int × Unit) × Int × Int × Int × List Int × Unit)) : Option (Bool × Unit) := single_Check_1_p nf  i c1
theorem single_Check_1_eq (nf : Nat) (i : Int) (c1 : List (List (Int × List Int × Unit) × List (Int × Int × Int × Int × Int × Unit) × Int × Int × Int × List Int × Unit)) : runF tab (single_Check_1_phi nf) single_Check_1_keep nf [PT.val (Ty.int IntKind.i64) (Md.bor true false), PT.ptr (((Ty.int IntKind.i64).pair ((Ty.int IntKind.i64).sl.pair Ty.unit)).sl.pair (((Ty.int IntKind.i64).pair ((Ty.int IntKind.i64).pair ((Ty.int IntKind.i64).pair ((Ty.int IntKind.i64).pair ((Ty.int IntKind.i64).pair Ty.unit))))).sl.pair ((Ty.int IntKind.i64).pair ((Ty.int IntKind.i64).pair ((Ty.int IntKind.i64).pair ((Ty.int IntKind.i64).sl.pair Ty.unit)))))).sl (Md.bor true false)] [(Ty.bool, Md.bor false true)] (resL (none) Try.f15) (codeOf Try.f15) ⟨i, c1, ()⟩ = single_Check_1_f nf i c1 := by
  have h : runF tab (single_Check_1_phi nf) single_Check_1_keep nf [PT.val (Ty.int IntKind.i64) (Md.bor true false), PT.ptr (((Ty.int IntKind.i64).pair ((Ty.int IntKind.i64).sl.pair Ty.unit)).sl.pair (((Ty.int IntKind.i64).pair ((Ty.int IntKind.i64).pair ((Ty.int IntKind.i64).pair ((Ty.int IntKind.i64).pair ((Ty.int IntKind.i64).pair Ty.unit))))).sl.pair ((Ty.int IntKind.i64).pair ((Ty.int IntKind.i64).pair ((Ty.int IntKind.i64).pair ((Ty.int IntKind.i64).sl.pair Ty.unit)))))).sl (Md.bor true false)] [(Ty.bool, Md.bor false true)] (resL (none) Try.f15) (codeOf Try.f15) ⟨i, c1, ()⟩ = single_Check_1_p nf  i c1 := by kernel_rfl
  exact h
def single_Check_1_F (nf : Nat) (x : denPs [.val (.int .i64) (.bor true false), .ptr (.sl (.pair (.sl (.pair (.int .i64) (.pair (.sl (.int .i64)) (.unit)))) (.pair (.sl (.pair (.int .i64) (.pair (.int .i64) (.pair (.int .i64) (.pair (.int .i64) (.pair (.int .i64) (.unit))))))) (.pair (.int .i64) (.pair (.int .i64) (.pair (.int .i64) (.pair (.sl (.int .i64)) (.unit)))))))) (.bor true false)]) : Option (denL [(.bool, .bor false true)]) := single_Check_1_f nf x.1 x.2.1
def single_Check_1_C (nf : Nat) : Contract := ⟨[.val (.int .i64) (.bor true false), .ptr (.sl (.pair (.sl (.pair (.int .i64) (.pair (.sl (.int .i64)) (.unit)))) (.pair (.sl (.pair (.int .i64) (.pair (.int .i64) (.pair (.int .i64) (.pair (.int .i64) (.pair (.int .i64) (.unit))))))) (.pair (.int .i64) (.pair (.int .i64) (.pair (.int .i64) (.pair (.sl (.int .i64)) (.unit)))))))) (.bor true false)], [(.bool, .bor false true)], single_Check_1_F nf, none⟩
theorem single_Check_1_ok : FnOK Try.prog 15 := ⟨Try.f15, codeOf Try.f15, Try.func15, by kernel_rfl, by kernel_rfl⟩
theorem single_Check_1_holds (nf : Nat) : Contract.Holds Try.prog 15 (single_Check_1_C nf) :=
  fn_holds (Φ := single_Check_1_phi nf) (keep := single_Check_1_keep) (n := nf) ⟨tabs.1, tabs.2, ctx_nil, mixed⟩ (fn := Try.f15) ⟨Try.func15, by kernel_rfl, by kernel_rfl, by kernel_rfl⟩ (fun x => single_Check_1_eq nf x.1 x.2.1)

/-! codemason fact.Turn -/
def fact_Turn_tab : Tab := ⟨lookT [(2, .int .i64), (3, .int .i64), (4, .bool), (5, .int .u8), (6, .int .u8), (7, .pair (.int .i64) (.pair (.int .i64) (.pair (.bool) (.pair (.int .u8) (.unit))))), (8, .pair (.int .i64) (.pair (.int .i64) (.pair (.bool) (.pair (.int .u8) (.unit))))), (12, .int .u64), (21, .int .i32), (22, .sl (.pair (.sl (.pair (.int .i64) (.pair (.sl (.int .i64)) (.unit)))) (.pair (.sl (.pair (.int .i64) (.pair (.int .i64) (.pair (.int .i64) (.pair (.int .i64) (.pair (.int .i64) (.unit))))))) (.pair (.int .i64) (.pair (.int .i64) (.pair (.int .i64) (.pair (.sl (.int .i64)) (.unit)))))))), (23, .int .i64), (26, .sl (.int .i64)), (37, .sl (.pair (.int .i64) (.pair (.sl (.int .i64)) (.unit)))), (38, .sl (.pair (.int .i64) (.pair (.int .i64) (.pair (.int .i64) (.pair (.int .i64) (.pair (.int .i64) (.unit))))))), (39, .pair (.sl (.pair (.int .i64) (.pair (.sl (.int .i64)) (.unit)))) (.pair (.sl (.pair (.int .i64) (.pair (.int .i64) (.pair (.int .i64) (.pair (.int .i64) (.pair (.int .i64) (.unit))))))) (.pair (.int .i64) (.pair (.int .i64) (.pair (.int .i64) (.pair (.sl (.int .i64)) (.unit))))))), (40, .pair (.sl (.pair (.int .i64) (.pair (.sl (.int .i64)) (.unit)))) (.pair (.sl (.pair (.int .i64) (.pair (.int .i64) (.pair (.int .i64) (.pair (.int .i64) (.pair (.int .i64) (.unit))))))) (.pair (.int .i64) (.pair (.int .i64) (.pair (.int .i64) (.pair (.sl (.int .i64)) (.unit))))))), (41, .sl (.sl (.int .i64))), (44, .sl (.pair (.sl (.pair (.int .i64) (.pair (.int .i64) (.pair (.int .i64) (.pair (.int .i64) (.pair (.int .i64) (.unit))))))) (.pair (.int .i64) (.pair (.int .i64) (.pair (.int .i64) (.unit)))))), (48, .pair (.int .i64) (.pair (.sl (.int .i64)) (.unit))), (49, .pair (.int .i64) (.pair (.sl (.int .i64)) (.unit))), (50, .pair (.int .i64) (.pair (.int .i64) (.pair (.int .i64) (.pair (.int .i64) (.pair (.int .i64) (.unit)))))), (51, .pair (.int .i64) (.pair (.int .i64) (.pair (.int .i64) (.pair (.int .i64) (.pair (.int .i64) (.unit)))))), (59, .sl (.int .u32)), (61, .pair (.int .i64) (.pair (.int .i64) (.unit))), (63, .int .u32), (70, .pair (.sl (.pair (.int .i64) (.pair (.int .i64) (.pair (.int .i64) (.pair (.int .i64) (.pair (.int .i64) (.unit))))))) (.pair (.int .i64) (.pair (.int .i64) (.pair (.int .i64) (.unit))))), (71, .pair (.sl (.pair (.int .i64) (.pair (.int .i64) (.pair (.int .i64) (.pair (.int .i64) (.pair (.int .i64) (.unit))))))) (.pair (.int .i64) (.pair (.int .i64) (.pair (.int .i64) (.unit))))), (85, .int .u8), (86, .int .u8), (89, .int .i32), (90, .int .i32)], lookM [(2, .bor false true), (3, .bor false true), (4, .bor false true), (5, .bor false true), (6, .bor false true), (7, .bor false true), (8, .bor false true), (12, .bor false true), (21, .bor false true), (22, .own false (.bor false false)), (23, .bor false true), (26, .own false (.bor false false)), (37, .own false (.bor false false)), (38, .own false (.bor false false)), (39, .bor true false), (40, .bor true false), (41, .own false (.own true (.bor false true))), (44, .own false (.bor false false)), (48, .bor true false), (49, .bor true false), (50, .bor false true), (51, .bor false true), (59, .own false (.bor false false)), (61, .bor false true), (63, .bor false true), (70, .bor true false), (71, .bor true false), (85, .bor false true), (86, .bor false true), (89, .bor false true), (90, .bor false true)], hasT [61, 81], hasT [9, 10, 11]⟩
theorem fact_Turn_tabs : TabOK Try.prog fact_Turn_tab ∧ EqOK Try.prog fact_Turn_tab := tab_ok (by kernel_rfl) (by kernel_rfl)
def fact_Turn_phi (nf : Nat) : Nat → Option Contract := lookC []
def fact_Turn_keep : Nat → List Nat := lookK [(2, [0, 3, 4, 5, 10, 11, 12, 13, 16, 17, 18, 19, 20]), (0, [0, 3, 10, 11, 12, 13])]
def fact_Turn_b0 (nf : Nat) (l2 : List (List Int) → Int → List (List Int) → Int → Option (List (List Int) × Unit)) (next : List (List Int)) (g0 : List (List Int) → Int → Option (List (List Int) × Unit)) (out : List (List Int)) (t13 : Int) : Option (List (List Int) × Unit) :=
  bif decide (t13 < (↑next.length : Int)) then
    bif inb t13 next.length then
      l2 next t13 out 0
    else
      none
  else
    some ((out, ()))
def fact_Turn_b2 (nf : Nat) (next : List (List Int)) (t13 : Int) (g0 : List (List Int) → Int → Option (List (List Int) × Unit)) (g2 : List (List Int) → Int → Option (List (List Int) × Unit)) (out2 : List (List Int)) (t20 : Int) : Option (List (List Int) × Unit) :=
  bif decide (t20 < (↑(List.length (next.getD t13.toNat [])) : Int)) then
    bif inb t20 (List.length (next.getD t13.toNat [])) then
      bif inb (List.getD (next.getD t13.toNat []) t20.toNat 0) out2.length then
        bif ![t13].isEmpty && (List.length (out2.getD (Int.toNat (List.getD (next.getD t13.toNat []) t20.toNat 0)) []) + [t13].length).ble lim then
          bif inb (List.getD (next.getD t13.toNat []) t20.toNat 0) out2.length then
            bif decide ([Stp.el (Int.toNat (List.getD (next.getD t13.toNat []) t20.toNat 0))] = [] ++ [Stp.el (Int.toNat (List.getD (next.getD t13.toNat []) t20.toNat 0))]) then
              g2 (out2.set (Int.toNat (List.getD (next.getD t13.toNat []) t20.toNat 0)) (out2.getD (Int.toNat (List.getD (next.getD t13.toNat []) t20.toNat 0)) [] ++ [t13])) (IntKind.i64.wrap (t20 + 1))
            else
              none
          else
            none
        else
          none
      else
        none
    else
      none
  else
    g0 out2 (IntKind.i64.wrap (t13 + 1))
def fact_Turn_p (nf : Nat) (l0 : List (List Int) → List (List Int) → Int → Option (List (List Int) × Unit)) (next : List (List Int)) : Option (List (List Int) × Unit) :=
  bif decide (0 ≤ (↑next.length : Int)) && decide ((↑next.length : Int) ≤ (↑next.length : Int)) && decide ((↑next.length : Int) ≤ (↑lim : Int)) then
    l0 next (List.replicate (↑next.length : Int).toNat []) 0
  else
    none
def fact_Turn_l2 (nf : Nat) (next : List (List Int)) (t13 : Int) (g0 : List (List Int) → Int → Option (List (List Int) × Unit)) : Nat → List (List Int) → Int → Option (List (List Int) × Unit)
  | 0, _, _ => none
  | fu + 1, out2, t20 => fact_Turn_b2 nf  next t13 g0 (fact_Turn_l2 nf next t13 g0 fu) out2 t20
def fact_Turn_l0 (nf : Nat) (next : List (List Int)) : Nat → List (List Int) → Int → Option (List (List Int) × Unit)
  | 0, _, _ => none
  | fu + 1, out, t13 => fact_Turn_b0 nf (fun _ p1 v0 v1 => fact_Turn_l2 nf next p1 (fun out t13 => fact_Turn_l0 nf next  fu out t13) nf v0 v1) next  (fact_Turn_l0 nf next  fu) out t13
def fact_Turn_f (nf : Nat) (next : List (List Int)) : Option (List (List Int) × Unit) := fact_Turn_p nf (fun p0 v0 v1 => fact_Turn_l0 nf p0 nf v0 v1) next
noncomputable def fact_Turn_L0 (nf : Nat) : LC (List (List Int) × Unit) := theL (findL fact_Turn_tab (fact_Turn_phi nf) (fun _ F => iter nf F) fact_Turn_keep 0 0 (codeOf Try.f39) (fin fact_Turn_tab [((Ty.int IntKind.i64).sl.sl, Md.own false (Md.bor false false))] (resL (none) Try.f39)) (fun _ _ => none) (fin fact_Turn_tab [((Ty.int IntKind.i64).sl.sl, Md.own false (Md.bor false false))] (resL (none) Try.f39)))
def fact_Turn_m0 (next : List (List Int)) (out : List (List Int)) (t13 : Int) : St := ⟨fresh, [(0, AV.v (Ty.int IntKind.i64).sl.sl (Md.bor true false) next), (3, AV.ow 500003 (Ty.int IntKind.i64).sl.sl (Md.own false (Md.own true (Md.bor false true))) out), (10, AV.dead), (11, AV.v (Ty.int IntKind.i64).sl.sl (Md.bor true false) next), (12, AV.v (Ty.int IntKind.i64) (Md.bor false true) (↑next.length : Int)), (13, AV.v (Ty.int IntKind.i64) (Md.bor false true) t13)]⟩
noncomputable def fact_Turn_L2 (nf : Nat) (G0 : St → Option (List (List Int) × Unit)) : LC (List (List Int) × Unit) := theL (findL fact_Turn_tab (fact_Turn_phi nf) (fun _ F => iter nf F) fact_Turn_keep 2 0 (fact_Turn_L0 nf ).c (fun st => norm (fact_Turn_keep 0) st G0) (fact_Turn_L0 nf ).Kx (fact_Turn_L0 nf ).Kr)
def fact_Turn_m2 (next : List (List Int)) (t13 : Int) (out2 : List (List Int)) (t20 : Int) : St := ⟨fresh, [(0, AV.v (Ty.int IntKind.i64).sl.sl (Md.bor true false) next), (3, AV.ow 500003 (Ty.int IntKind.i64).sl.sl (Md.own false (Md.own true (Md.bor false true))) out2), (4, AV.v (Ty.int IntKind.i64) (Md.bor false true) t13), (5, AV.v (Ty.int IntKind.i64).sl (Md.bor true false) (next.getD t13.toNat [])), (10, AV.dead), (11, AV.v (Ty.int IntKind.i64).sl.sl (Md.bor true false) next), (12, AV.v (Ty.int IntKind.i64) (Md.bor false true) (↑next.length : Int)), (13, AV.v (Ty.int IntKind.i64) (Md.bor false true) t13), (16, AV.rop (Ty.int IntKind.i64).sl (Md.bor true false) (next.getD t13.toNat [])), (17, AV.v (Ty.int IntKind.i64).sl (Md.bor true false) (next.getD t13.toNat [])), (18, AV.v (Ty.int IntKind.i64).sl (Md.bor true false) (next.getD t13.toNat [])), (19, AV.v (Ty.int IntKind.i64) (Md.bor false true) (↑(List.length (next.getD t13.toNat [])) : Int)), (20, AV.v (Ty.int IntKind.i64) (Md.bor false true) t20)]⟩
theorem fact_Turn_h2 (nf : Nat) (G0 : St → Option (List (List Int) × Unit)) (next : List (List Int)) (t13 : Int) (fu : Nat) (out2 : List (List Int)) (t20 : Int) : iter (fu + 1) (LC.F fact_Turn_tab (fact_Turn_phi nf) (fun _ F => iter nf F) fact_Turn_keep 2 (fact_Turn_L2 nf G0)) (fact_Turn_m2 next t13 out2 t20) = fact_Turn_b2 nf  next t13 (fun out t13 => G0 (fact_Turn_m0 next out t13)) (fun out2 t20 => iter fu (LC.F fact_Turn_tab (fact_Turn_phi nf) (fun _ F => iter nf F) fact_Turn_keep 2 (fact_Turn_L2 nf G0)) (fact_Turn_m2 next t13 out2 t20)) out2 t20 := by kernel_rfl
theorem fact_Turn_e2 (nf : Nat) (G0 : St → Option (List (List Int) × Unit)) (next : List (List Int)) (t13 : Int) : ∀ (fu : Nat) (out2 : List (List Int)) (t20 : Int), iter fu (LC.F fact_Turn_tab (fact_Turn_phi nf) (fun _ F => iter nf F) fact_Turn_keep 2 (fact_Turn_L2 nf G0)) (fact_Turn_m2 next t13 out2 t20) = fact_Turn_l2 nf next t13 (fun out t13 => G0 (fact_Turn_m0 next out t13)) fu out2 t20 := by
  intro fu
  induction fu with
  | zero => intros; rfl
  | succ fu ih =>
    intro out2 t20
    rw [fact_Turn_h2 nf G0 next t13 fu out2 t20]
    simp only [ih]
    rfl
theorem fact_Turn_h0 (nf : Nat)  (next : List (List Int)) (fu : Nat) (out : List (List Int)) (t13 : Int) : iter (fu + 1) (LC.F fact_Turn_tab (fact_Turn_phi nf) (fun _ F => iter nf F) fact_Turn_keep 0 (fact_Turn_L0 nf )) (fact_Turn_m0 next out t13) = fact_Turn_b0 nf (fun _ p1 v0 v1 => iter nf (LC.F fact_Turn_tab (fact_Turn_phi nf) (fun _ F => iter nf F) fact_Turn_keep 2 (fact_Turn_L2 nf (iter fu (LC.F fact_Turn_tab (fact_Turn_phi nf) (fun _ F => iter nf F) fact_Turn_keep 0 (fact_Turn_L0 nf ))))) (fact_Turn_m2 next p1 v0 v1)) next  (fun out t13 => iter fu (LC.F fact_Turn_tab (fact_Turn_phi nf) (fun _ F => iter nf F) fact_Turn_keep 0 (fact_Turn_L0 nf )) (fact_Turn_m0 next out t13)) out t13 := by kernel_rfl
theorem fact_Turn_e0 (nf : Nat)  (next : List (List Int)) : ∀ (fu : Nat) (out : List (List Int)) (t13 : Int), iter fu (LC.F fact_Turn_tab (fact_Turn_phi nf) (fun _ F => iter nf F) fact_Turn_keep 0 (fact_Turn_L0 nf )) (fact_Turn_m0 next out t13) = fact_Turn_l0 nf next  fu out t13 := by
  intro fu
  induction fu with
  | zero => intros; rfl
  | succ fu ih =>
    intro out t13
    rw [fact_Turn_h0 nf  next fu out t13]
    simp only [ih, fact_Turn_e2]
    rfl
theorem fact_Turn_eq (nf : Nat) (next : List (List Int)) : runF fact_Turn_tab (fact_Turn_phi nf) fact_Turn_keep nf [PT.val (Ty.int IntKind.i64).sl.sl (Md.bor true false)] [((Ty.int IntKind.i64).sl.sl, Md.own false (Md.bor false false))] (resL (none) Try.f39) (codeOf Try.f39) ⟨next, ()⟩ = fact_Turn_f nf next := by
  have h : runF fact_Turn_tab (fact_Turn_phi nf) fact_Turn_keep nf [PT.val (Ty.int IntKind.i64).sl.sl (Md.bor true false)] [((Ty.int IntKind.i64).sl.sl, Md.own false (Md.bor false false))] (resL (none) Try.f39) (codeOf Try.f39) ⟨next, ()⟩ = fact_Turn_p nf (fun p0 v0 v1 => iter nf (LC.F fact_Turn_tab (fact_Turn_phi nf) (fun _ F => iter nf F) fact_Turn_keep 0 (fact_Turn_L0 nf)) (fact_Turn_m0 p0 v0 v1)) next := by kernel_rfl
  rw [h]
  simp only [fact_Turn_e0]
  rfl
def fact_Turn_F (nf : Nat) (x : denPs [.val (.sl (.sl (.int .i64))) (.bor true false)]) : Option (denL [(.sl (.sl (.int .i64)), .own false (.bor false false))]) := fact_Turn_f nf x.1
def fact_Turn_C (nf : Nat) : Contract := ⟨[.val (.sl (.sl (.int .i64))) (.bor true false)], [(.sl (.sl (.int .i64)), .own false (.bor false false))], fact_Turn_F nf, none⟩
theorem fact_Turn_ok : FnOK Try.prog 39 := ⟨Try.f39, codeOf Try.f39, Try.func39, by kernel_rfl, by kernel_rfl⟩
theorem fact_Turn_holds (nf : Nat) : Contract.Holds Try.prog 39 (fact_Turn_C nf) :=
  fn_holds (Φ := fact_Turn_phi nf) (keep := fact_Turn_keep) (n := nf) ⟨fact_Turn_tabs.1, fact_Turn_tabs.2, ctx_nil, mixed⟩ (fn := Try.f39) ⟨Try.func39, by kernel_rfl, by kernel_rfl, by kernel_rfl⟩ (fun x => fact_Turn_eq nf x.1)

/-! codemason single.From -/
def single_From_phi (nf : Nat) : Nat → Option Contract := lookC [(39, fact_Turn_C nf)]
def single_From_keep : Nat → List Nat := lookK []
def single_From_p (nf : Nat)  (next : List (List Int)) : Option (List (List Int) × Unit) :=
  Option.bind (fact_Turn_f nf next) fun r =>
  bif inb 0 (List.length r.fst) then
    bif bimp false !List.isEmpty (List.getD r.fst 0 []) && ([-1].length + List.length (List.getD r.fst 0 [])).ble lim then
      bif inb 0 (List.length r.fst) then
        some ((List.set r.fst 0 ([-1] ++ List.getD r.fst 0 []), ()))
      else
        none
    else
      none
  else
    none
def single_From_f (nf : Nat) (next : List (List Int)) : Option (List (List Int) × Unit) := single_From_p nf  next
theorem single_From_eq (nf : Nat) (next : List (List Int)) : runF tab (single_From_phi nf) single_From_keep nf [PT.val (Ty.int IntKind.i64).sl.sl (Md.bor true false)] [((Ty.int IntKind.i64).sl.sl, Md.own false (Md.bor false false))] (resL (none) Try.f16) (codeOf Try.f16) ⟨next, ()⟩ = single_From_f nf next := by
  have h : runF tab (single_From_phi nf) single_From_keep nf [PT.val (Ty.int IntKind.i64).sl.sl (Md.bor true false)] [((Ty.int IntKind.i64).sl.sl, Md.own false (Md.bor false false))] (resL (none) Try.f16) (codeOf Try.f16) ⟨next, ()⟩ = single_From_p nf  next := by kernel_rfl
  exact h
def single_From_F (nf : Nat) (x : denPs [.val (.sl (.sl (.int .i64))) (.bor true false)]) : Option (denL [(.sl (.sl (.int .i64)), .own false (.bor false false))]) := single_From_f nf x.1
def single_From_C (nf : Nat) : Contract := ⟨[.val (.sl (.sl (.int .i64))) (.bor true false)], [(.sl (.sl (.int .i64)), .own false (.bor false false))], single_From_F nf, none⟩
theorem single_From_ok : FnOK Try.prog 16 := ⟨Try.f16, codeOf Try.f16, Try.func16, by kernel_rfl, by kernel_rfl⟩
theorem single_From_holds (nf : Nat) : Contract.Holds Try.prog 16 (single_From_C nf) :=
  fn_holds (Φ := single_From_phi nf) (keep := single_From_keep) (n := nf) ⟨tabs.1, tabs.2, (ctx_cons fact_Turn_ok (fact_Turn_holds nf) ctx_nil), mixed⟩ (fn := Try.f16) ⟨Try.func16, by kernel_rfl, by kernel_rfl, by kernel_rfl⟩ (fun x => single_From_eq nf x.1)

/-! codemason block.Next -/
def block_Next_tab : Tab := ⟨lookT [(2, .int .i64), (3, .int .i64), (4, .bool), (5, .int .u8), (6, .int .u8), (7, .pair (.int .i64) (.pair (.int .i64) (.pair (.bool) (.pair (.int .u8) (.unit))))), (8, .pair (.int .i64) (.pair (.int .i64) (.pair (.bool) (.pair (.int .u8) (.unit))))), (12, .int .u64), (21, .int .i32), (22, .sl (.pair (.sl (.pair (.int .i64) (.pair (.sl (.int .i64)) (.unit)))) (.pair (.sl (.pair (.int .i64) (.pair (.int .i64) (.pair (.int .i64) (.pair (.int .i64) (.pair (.int .i64) (.unit))))))) (.pair (.int .i64) (.pair (.int .i64) (.pair (.int .i64) (.pair (.sl (.int .i64)) (.unit)))))))), (23, .int .i64), (26, .sl (.int .i64)), (37, .sl (.pair (.int .i64) (.pair (.sl (.int .i64)) (.unit)))), (38, .sl (.pair (.int .i64) (.pair (.int .i64) (.pair (.int .i64) (.pair (.int .i64) (.pair (.int .i64) (.unit))))))), (39, .pair (.sl (.pair (.int .i64) (.pair (.sl (.int .i64)) (.unit)))) (.pair (.sl (.pair (.int .i64) (.pair (.int .i64) (.pair (.int .i64) (.pair (.int .i64) (.pair (.int .i64) (.unit))))))) (.pair (.int .i64) (.pair (.int .i64) (.pair (.int .i64) (.pair (.sl (.int .i64)) (.unit))))))), (40, .pair (.sl (.pair (.int .i64) (.pair (.sl (.int .i64)) (.unit)))) (.pair (.sl (.pair (.int .i64) (.pair (.int .i64) (.pair (.int .i64) (.pair (.int .i64) (.pair (.int .i64) (.unit))))))) (.pair (.int .i64) (.pair (.int .i64) (.pair (.int .i64) (.pair (.sl (.int .i64)) (.unit))))))), (41, .sl (.sl (.int .i64))), (44, .sl (.pair (.sl (.pair (.int .i64) (.pair (.int .i64) (.pair (.int .i64) (.pair (.int .i64) (.pair (.int .i64) (.unit))))))) (.pair (.int .i64) (.pair (.int .i64) (.pair (.int .i64) (.unit)))))), (48, .pair (.int .i64) (.pair (.sl (.int .i64)) (.unit))), (49, .pair (.int .i64) (.pair (.sl (.int .i64)) (.unit))), (50, .pair (.int .i64) (.pair (.int .i64) (.pair (.int .i64) (.pair (.int .i64) (.pair (.int .i64) (.unit)))))), (51, .pair (.int .i64) (.pair (.int .i64) (.pair (.int .i64) (.pair (.int .i64) (.pair (.int .i64) (.unit)))))), (59, .sl (.int .u32)), (61, .pair (.int .i64) (.pair (.int .i64) (.unit))), (63, .int .u32), (70, .pair (.sl (.pair (.int .i64) (.pair (.int .i64) (.pair (.int .i64) (.pair (.int .i64) (.pair (.int .i64) (.unit))))))) (.pair (.int .i64) (.pair (.int .i64) (.pair (.int .i64) (.unit))))), (71, .pair (.sl (.pair (.int .i64) (.pair (.int .i64) (.pair (.int .i64) (.pair (.int .i64) (.pair (.int .i64) (.unit))))))) (.pair (.int .i64) (.pair (.int .i64) (.pair (.int .i64) (.unit))))), (85, .int .u8), (86, .int .u8), (89, .int .i32), (90, .int .i32)], lookM [(2, .bor false true), (3, .bor false true), (4, .bor false true), (5, .bor false true), (6, .bor false true), (7, .bor false true), (8, .bor false true), (12, .bor false true), (21, .bor false true), (22, .own false (.bor false false)), (23, .bor false true), (26, .own false (.bor false false)), (37, .own false (.bor false false)), (38, .own false (.bor false false)), (39, .bor true false), (40, .bor true false), (41, .own false (.own true (.bor false true))), (44, .own false (.bor false false)), (48, .bor true false), (49, .bor true false), (50, .bor false true), (51, .bor false true), (59, .own false (.bor false false)), (61, .bor false true), (63, .bor false true), (70, .bor true false), (71, .bor true false), (85, .bor false true), (86, .bor false true), (89, .bor false true), (90, .bor false true)], hasT [61, 81], hasT [9, 10, 11]⟩
theorem block_Next_tabs : TabOK Try.prog block_Next_tab ∧ EqOK Try.prog block_Next_tab := tab_ok (by kernel_rfl) (by kernel_rfl)
def block_Next_phi (nf : Nat) : Nat → Option Contract := lookC []
def block_Next_keep : Nat → List Nat := lookK [(0, [0, 3, 8, 9, 10, 11])]
def block_Next_b0 (nf : Nat) (p : List (List (Int × Int × Int × Int × Int × Unit) × Int × Int × Int × Unit)) (g0 : List (List Int) → Int → Option (List (List Int) × Unit)) (next : List (List Int)) (t11 : Int) : Option (List (List Int) × Unit) :=
  bif decide (t11 < (↑p.length : Int)) then
    bif inb t11 p.length then
      bif decide ((p.getD t11.toNat ([], 0, 0, 0, ())).snd.snd.fst ≥ 0) then
        bif inb t11 next.length then
          bif ![(p.getD t11.toNat ([], 0, 0, 0, ())).snd.snd.fst].isEmpty && (List.length (next.getD t11.toNat []) + [(p.getD t11.toNat ([], 0, 0, 0, ())).snd.snd.fst].length).ble lim then
            bif inb t11 next.length then
              bif decide ([Stp.el t11.toNat] = [] ++ [Stp.el t11.toNat]) then
                bif decide ((p.getD t11.toNat ([], 0, 0, 0, ())).snd.fst ≥ 0) then
                  bif (p.getD t11.toNat ([], 0, 0, 0, ())).snd.snd.snd.fst != (p.getD t11.toNat ([], 0, 0, 0, ())).snd.snd.fst then
                    bif inb t11 (next.set t11.toNat (next.getD t11.toNat [] ++ [(p.getD t11.toNat ([], 0, 0, 0, ())).snd.snd.fst])).length then
                      bif ![(p.getD t11.toNat ([], 0, 0, 0, ())).snd.snd.snd.fst].isEmpty && (List.length ((next.set t11.toNat (next.getD t11.toNat [] ++ [(p.getD t11.toNat ([], 0, 0, 0, ())).snd.snd.fst])).getD t11.toNat []) + [(p.getD t11.toNat ([], 0, 0, 0, ())).snd.snd.snd.fst].length).ble lim then
                        bif inb t11 (next.set t11.toNat (next.getD t11.toNat [] ++ [(p.getD t11.toNat ([], 0, 0, 0, ())).snd.snd.fst])).length then
                          bif decide ([Stp.el t11.toNat] = [] ++ [Stp.el t11.toNat]) then
                            g0 ((next.set t11.toNat (next.getD t11.toNat [] ++ [(p.getD t11.toNat ([], 0, 0, 0, ())).snd.snd.fst])).set t11.toNat ((next.set t11.toNat (next.getD t11.toNat [] ++ [(p.getD t11.toNat ([], 0, 0, 0, ())).snd.snd.fst])).getD t11.toNat [] ++ [(p.getD t11.toNat ([], 0, 0, 0, ())).snd.snd.snd.fst])) (IntKind.i64.wrap (t11 + 1))
                          else
                            none
                        else
                          none
                      else
                        none
                    else
                      none
                  else
                    g0 (next.set t11.toNat (next.getD t11.toNat [] ++ [(p.getD t11.toNat ([], 0, 0, 0, ())).snd.snd.fst])) (IntKind.i64.wrap (t11 + 1))
                else
                  g0 (next.set t11.toNat (next.getD t11.toNat [] ++ [(p.getD t11.toNat ([], 0, 0, 0, ())).snd.snd.fst])) (IntKind.i64.wrap (t11 + 1))
              else
                none
            else
              none
          else
            none
        else
          none
      else
        bif decide ((p.getD t11.toNat ([], 0, 0, 0, ())).snd.fst ≥ 0) then
          bif (p.getD t11.toNat ([], 0, 0, 0, ())).snd.snd.snd.fst != (p.getD t11.toNat ([], 0, 0, 0, ())).snd.snd.fst then
            bif inb t11 next.length then
              bif ![(p.getD t11.toNat ([], 0, 0, 0, ())).snd.snd.snd.fst].isEmpty && (List.length (next.getD t11.toNat []) + [(p.getD t11.toNat ([], 0, 0, 0, ())).snd.snd.snd.fst].length).ble lim then
                bif inb t11 next.length then
                  bif decide ([Stp.el t11.toNat] = [] ++ [Stp.el t11.toNat]) then
                    g0 (next.set t11.toNat (next.getD t11.toNat [] ++ [(p.getD t11.toNat ([], 0, 0, 0, ())).snd.snd.snd.fst])) (IntKind.i64.wrap (t11 + 1))
                  else
                    none
                else
                  none
              else
                none
            else
              none
          else
            g0 next (IntKind.i64.wrap (t11 + 1))
        else
          g0 next (IntKind.i64.wrap (t11 + 1))
    else
      none
  else
    some ((next, ()))
def block_Next_p (nf : Nat) (l0 : List (List (Int × Int × Int × Int × Int × Unit) × Int × Int × Int × Unit) → List (List Int) → Int → Option (List (List Int) × Unit)) (p : List (List (Int × Int × Int × Int × Int × Unit) × Int × Int × Int × Unit)) : Option (List (List Int) × Unit) :=
  bif decide (0 ≤ (↑p.length : Int)) && decide ((↑p.length : Int) ≤ (↑p.length : Int)) && decide ((↑p.length : Int) ≤ (↑lim : Int)) then
    l0 p (List.replicate (↑p.length : Int).toNat []) 0
  else
    none
def block_Next_l0 (nf : Nat) (p : List (List (Int × Int × Int × Int × Int × Unit) × Int × Int × Int × Unit)) : Nat → List (List Int) → Int → Option (List (List Int) × Unit)
  | 0, _, _ => none
  | fu + 1, next, t11 => block_Next_b0 nf  p  (block_Next_l0 nf p  fu) next t11
def block_Next_f (nf : Nat) (p : List (List (Int × Int × Int × Int × Int × Unit) × Int × Int × Int × Unit)) : Option (List (List Int) × Unit) := block_Next_p nf (fun p0 v0 v1 => block_Next_l0 nf p0 nf v0 v1) p
noncomputable def block_Next_L0 (nf : Nat) : LC (List (List Int) × Unit) := theL (findL block_Next_tab (block_Next_phi nf) (fun _ F => iter nf F) block_Next_keep 0 0 (codeOf Try.f17) (fin block_Next_tab [((Ty.int IntKind.i64).sl.sl, Md.own false (Md.bor false false))] (resL (none) Try.f17)) (fun _ _ => none) (fin block_Next_tab [((Ty.int IntKind.i64).sl.sl, Md.own false (Md.bor false false))] (resL (none) Try.f17)))
def block_Next_m0 (p : List (List (Int × Int × Int × Int × Int × Unit) × Int × Int × Int × Unit)) (next : List (List Int)) (t11 : Int) : St := ⟨fresh, [(0, AV.v (((Ty.int IntKind.i64).pair ((Ty.int IntKind.i64).pair ((Ty.int IntKind.i64).pair ((Ty.int IntKind.i64).pair ((Ty.int IntKind.i64).pair Ty.unit))))).sl.pair ((Ty.int IntKind.i64).pair ((Ty.int IntKind.i64).pair ((Ty.int IntKind.i64).pair Ty.unit)))).sl (Md.bor true false) p), (3, AV.ow 500003 (Ty.int IntKind.i64).sl.sl (Md.own false (Md.own true (Md.bor false true))) next), (8, AV.dead), (9, AV.v (((Ty.int IntKind.i64).pair ((Ty.int IntKind.i64).pair ((Ty.int IntKind.i64).pair ((Ty.int IntKind.i64).pair ((Ty.int IntKind.i64).pair Ty.unit))))).sl.pair ((Ty.int IntKind.i64).pair ((Ty.int IntKind.i64).pair ((Ty.int IntKind.i64).pair Ty.unit)))).sl (Md.bor true false) p), (10, AV.v (Ty.int IntKind.i64) (Md.bor false true) (↑p.length : Int)), (11, AV.v (Ty.int IntKind.i64) (Md.bor false true) t11)]⟩
theorem block_Next_h0 (nf : Nat)  (p : List (List (Int × Int × Int × Int × Int × Unit) × Int × Int × Int × Unit)) (fu : Nat) (next : List (List Int)) (t11 : Int) : iter (fu + 1) (LC.F block_Next_tab (block_Next_phi nf) (fun _ F => iter nf F) block_Next_keep 0 (block_Next_L0 nf )) (block_Next_m0 p next t11) = block_Next_b0 nf  p  (fun next t11 => iter fu (LC.F block_Next_tab (block_Next_phi nf) (fun _ F => iter nf F) block_Next_keep 0 (block_Next_L0 nf )) (block_Next_m0 p next t11)) next t11 := by kernel_rfl
theorem block_Next_e0 (nf : Nat)  (p : List (List (Int × Int × Int × Int × Int × Unit) × Int × Int × Int × Unit)) : ∀ (fu : Nat) (next : List (List Int)) (t11 : Int), iter fu (LC.F block_Next_tab (block_Next_phi nf) (fun _ F => iter nf F) block_Next_keep 0 (block_Next_L0 nf )) (block_Next_m0 p next t11) = block_Next_l0 nf p  fu next t11 := by
  intro fu
  induction fu with
  | zero => intros; rfl
  | succ fu ih =>
    intro next t11
    rw [block_Next_h0 nf  p fu next t11]
    simp only [ih]
    rfl
theorem block_Next_eq (nf : Nat) (p : List (List (Int × Int × Int × Int × Int × Unit) × Int × Int × Int × Unit)) : runF block_Next_tab (block_Next_phi nf) block_Next_keep nf [PT.val (((Ty.int IntKind.i64).pair ((Ty.int IntKind.i64).pair ((Ty.int IntKind.i64).pair ((Ty.int IntKind.i64).pair ((Ty.int IntKind.i64).pair Ty.unit))))).sl.pair ((Ty.int IntKind.i64).pair ((Ty.int IntKind.i64).pair ((Ty.int IntKind.i64).pair Ty.unit)))).sl (Md.bor true false)] [((Ty.int IntKind.i64).sl.sl, Md.own false (Md.bor false false))] (resL (none) Try.f17) (codeOf Try.f17) ⟨p, ()⟩ = block_Next_f nf p := by
  have h : runF block_Next_tab (block_Next_phi nf) block_Next_keep nf [PT.val (((Ty.int IntKind.i64).pair ((Ty.int IntKind.i64).pair ((Ty.int IntKind.i64).pair ((Ty.int IntKind.i64).pair ((Ty.int IntKind.i64).pair Ty.unit))))).sl.pair ((Ty.int IntKind.i64).pair ((Ty.int IntKind.i64).pair ((Ty.int IntKind.i64).pair Ty.unit)))).sl (Md.bor true false)] [((Ty.int IntKind.i64).sl.sl, Md.own false (Md.bor false false))] (resL (none) Try.f17) (codeOf Try.f17) ⟨p, ()⟩ = block_Next_p nf (fun p0 v0 v1 => iter nf (LC.F block_Next_tab (block_Next_phi nf) (fun _ F => iter nf F) block_Next_keep 0 (block_Next_L0 nf)) (block_Next_m0 p0 v0 v1)) p := by kernel_rfl
  rw [h]
  simp only [block_Next_e0]
  rfl
def block_Next_F (nf : Nat) (x : denPs [.val (.sl (.pair (.sl (.pair (.int .i64) (.pair (.int .i64) (.pair (.int .i64) (.pair (.int .i64) (.pair (.int .i64) (.unit))))))) (.pair (.int .i64) (.pair (.int .i64) (.pair (.int .i64) (.unit)))))) (.bor true false)]) : Option (denL [(.sl (.sl (.int .i64)), .own false (.bor false false))]) := block_Next_f nf x.1
def block_Next_C (nf : Nat) : Contract := ⟨[.val (.sl (.pair (.sl (.pair (.int .i64) (.pair (.int .i64) (.pair (.int .i64) (.pair (.int .i64) (.pair (.int .i64) (.unit))))))) (.pair (.int .i64) (.pair (.int .i64) (.pair (.int .i64) (.unit)))))) (.bor true false)], [(.sl (.sl (.int .i64)), .own false (.bor false false))], block_Next_F nf, none⟩
theorem block_Next_ok : FnOK Try.prog 17 := ⟨Try.f17, codeOf Try.f17, Try.func17, by kernel_rfl, by kernel_rfl⟩
theorem block_Next_holds (nf : Nat) : Contract.Holds Try.prog 17 (block_Next_C nf) :=
  fn_holds (Φ := block_Next_phi nf) (keep := block_Next_keep) (n := nf) ⟨block_Next_tabs.1, block_Next_tabs.2, ctx_nil, mixed⟩ (fn := Try.f17) ⟨Try.func17, by kernel_rfl, by kernel_rfl, by kernel_rfl⟩ (fun x => block_Next_eq nf x.1)

/-! codemason single.bare -/
def single_bare_phi (nf : Nat) : Nat → Option Contract := lookC []
def single_bare_keep : Nat → List Nat := lookK [(0, [0, 3, 6, 7, 8, 21])]
def single_bare_b0 (nf : Nat) (l' : List (List (Int × List Int × Unit) × List (Int × Int × Int × Int × Int × Unit) × Int × Int × Int × List Int × Unit)) (g0 : List (List (Int × Int × Int × Int × Int × Unit) × Int × Int × Int × Unit) → Int → Option (List (List (Int × Int × Int × Int × Int × Unit) × Int × Int × Int × Unit) × Unit)) (p : List (List (Int × Int × Int × Int × Int × Unit) × Int × Int × Int × Unit)) (t8 : Int) : Option (List (List (Int × Int × Int × Int × Int × Unit) × Int × Int × Int × Unit) × Unit) :=
  bif decide (t8 < (↑l'.length : Int)) then
    bif inb t8 l'.length then
      bif !false && leM (((Ty.int IntKind.i64).pair ((Ty.int IntKind.i64).pair ((Ty.int IntKind.i64).pair ((Ty.int IntKind.i64).pair ((Ty.int IntKind.i64).pair Ty.unit))))).sl.pair ((Ty.int IntKind.i64).pair ((Ty.int IntKind.i64).pair ((Ty.int IntKind.i64).pair Ty.unit)))) 0 (Md.bor false false) (Md.bor false false) && (p.length + [(([] : List (Int × Int × Int × Int × Int × Unit)), (l'.getD t8.toNat ([], [], 0, 0, 0, [], ())).snd.snd.fst, (l'.getD t8.toNat ([], [], 0, 0, 0, [], ())).snd.snd.snd.fst, (l'.getD t8.toNat ([], [], 0, 0, 0, [], ())).snd.snd.snd.snd.fst, ())].length).ble lim then
        g0 (p ++ [(([] : List (Int × Int × Int × Int × Int × Unit)), (l'.getD t8.toNat ([], [], 0, 0, 0, [], ())).snd.snd.fst, (l'.getD t8.toNat ([], [], 0, 0, 0, [], ())).snd.snd.snd.fst, (l'.getD t8.toNat ([], [], 0, 0, 0, [], ())).snd.snd.snd.snd.fst, ())]) (IntKind.i64.wrap (t8 + 1))
      else
        none
    else
      none
  else
    some ((p, ()))
def single_bare_p (nf : Nat) (l0 : List (List (Int × List Int × Unit) × List (Int × Int × Int × Int × Int × Unit) × Int × Int × Int × List Int × Unit) → List (List (Int × Int × Int × Int × Int × Unit) × Int × Int × Int × Unit) → Int → Option (List (List (Int × Int × Int × Int × Int × Unit) × Int × Int × Int × Unit) × Unit)) (l' : List (List (Int × List Int × Unit) × List (Int × Int × Int × Int × Int × Unit) × Int × Int × Int × List Int × Unit)) : Option (List (List (Int × Int × Int × Int × Int × Unit) × Int × Int × Int × Unit) × Unit) :=
  l0 l' [] 0
def single_bare_l0 (nf : Nat) (l' : List (List (Int × List Int × Unit) × List (Int × Int × Int × Int × Int × Unit) × Int × Int × Int × List Int × Unit)) : Nat → List (List (Int × Int × Int × Int × Int × Unit) × Int × Int × Int × Unit) → Int → Option (List (List (Int × Int × Int × Int × Int × Unit) × Int × Int × Int × Unit) × Unit)
  | 0, _, _ => none
  | fu + 1, p, t8 => single_bare_b0 nf  l'  (single_bare_l0 nf l'  fu) p t8
def single_bare_f (nf : Nat) (l' : List (List (Int × List Int × Unit) × List (Int × Int × Int × Int × Int × Unit) × Int × Int × Int × List Int × Unit)) : Option (List (List (Int × Int × Int × Int × Int × Unit) × Int × Int × Int × Unit) × Unit) := single_bare_p nf (fun p0 v0 v1 => single_bare_l0 nf p0 nf v0 v1) l'
noncomputable def single_bare_L0 (nf : Nat) : LC (List (List (Int × Int × Int × Int × Int × Unit) × Int × Int × Int × Unit) × Unit) := theL (findL tab (single_bare_phi nf) (fun _ F => iter nf F) single_bare_keep 0 0 (codeOf Try.f18) (fin tab [((((Ty.int IntKind.i64).pair ((Ty.int IntKind.i64).pair ((Ty.int IntKind.i64).pair ((Ty.int IntKind.i64).pair ((Ty.int IntKind.i64).pair Ty.unit))))).sl.pair ((Ty.int IntKind.i64).pair ((Ty.int IntKind.i64).pair ((Ty.int IntKind.i64).pair Ty.unit)))).sl, Md.own false (Md.bor false false))] (resL (none) Try.f18)) (fun _ _ => none) (fin tab [((((Ty.int IntKind.i64).pair ((Ty.int IntKind.i64).pair ((Ty.int IntKind.i64).pair ((Ty.int IntKind.i64).pair ((Ty.int IntKind.i64).pair Ty.unit))))).sl.pair ((Ty.int IntKind.i64).pair ((Ty.int IntKind.i64).pair ((Ty.int IntKind.i64).pair Ty.unit)))).sl, Md.own false (Md.bor false false))] (resL (none) Try.f18)))
def single_bare_m0 (l' : List (List (Int × List Int × Unit) × List (Int × Int × Int × Int × Int × Unit) × Int × Int × Int × List Int × Unit)) (p : List (List (Int × Int × Int × Int × Int × Unit) × Int × Int × Int × Unit)) (t8 : Int) : St := ⟨fresh, [(0, AV.v (((Ty.int IntKind.i64).pair ((Ty.int IntKind.i64).sl.pair Ty.unit)).sl.pair (((Ty.int IntKind.i64).pair ((Ty.int IntKind.i64).pair ((Ty.int IntKind.i64).pair ((Ty.int IntKind.i64).pair ((Ty.int IntKind.i64).pair Ty.unit))))).sl.pair ((Ty.int IntKind.i64).pair ((Ty.int IntKind.i64).pair ((Ty.int IntKind.i64).pair ((Ty.int IntKind.i64).sl.pair Ty.unit)))))).sl (Md.bor true false) l'), (3, AV.ow 500003 (((Ty.int IntKind.i64).pair ((Ty.int IntKind.i64).pair ((Ty.int IntKind.i64).pair ((Ty.int IntKind.i64).pair ((Ty.int IntKind.i64).pair Ty.unit))))).sl.pair ((Ty.int IntKind.i64).pair ((Ty.int IntKind.i64).pair ((Ty.int IntKind.i64).pair Ty.unit)))).sl (Md.own false (Md.bor false false)) p), (6, AV.v (((Ty.int IntKind.i64).pair ((Ty.int IntKind.i64).sl.pair Ty.unit)).sl.pair (((Ty.int IntKind.i64).pair ((Ty.int IntKind.i64).pair ((Ty.int IntKind.i64).pair ((Ty.int IntKind.i64).pair ((Ty.int IntKind.i64).pair Ty.unit))))).sl.pair ((Ty.int IntKind.i64).pair ((Ty.int IntKind.i64).pair ((Ty.int IntKind.i64).pair ((Ty.int IntKind.i64).sl.pair Ty.unit)))))).sl (Md.bor true false) l'), (7, AV.v (Ty.int IntKind.i64) (Md.bor false true) (↑l'.length : Int)), (8, AV.v (Ty.int IntKind.i64) (Md.bor false true) t8), (21, AV.dead)]⟩
theorem single_bare_h0 (nf : Nat)  (l' : List (List (Int × List Int × Unit) × List (Int × Int × Int × Int × Int × Unit) × Int × Int × Int × List Int × Unit)) (fu : Nat) (p : List (List (Int × Int × Int × Int × Int × Unit) × Int × Int × Int × Unit)) (t8 : Int) : iter (fu + 1) (LC.F tab (single_bare_phi nf) (fun _ F => iter nf F) single_bare_keep 0 (single_bare_L0 nf )) (single_bare_m0 l' p t8) = single_bare_b0 nf  l'  (fun p t8 => iter fu (LC.F tab (single_bare_phi nf) (fun _ F => iter nf F) single_bare_keep 0 (single_bare_L0 nf )) (single_bare_m0 l' p t8)) p t8 := by kernel_rfl
theorem single_bare_e0 (nf : Nat)  (l' : List (List (Int × List Int × Unit) × List (Int × Int × Int × Int × Int × Unit) × Int × Int × Int × List Int × Unit)) : ∀ (fu : Nat) (p : List (List (Int × Int × Int × Int × Int × Unit) × Int × Int × Int × Unit)) (t8 : Int), iter fu (LC.F tab (single_bare_phi nf) (fun _ F => iter nf F) single_bare_keep 0 (single_bare_L0 nf )) (single_bare_m0 l' p t8) = single_bare_l0 nf l'  fu p t8 := by
  intro fu
  induction fu with
  | zero => intros; rfl
  | succ fu ih =>
    intro p t8
    rw [single_bare_h0 nf  l' fu p t8]
    simp only [ih]
    rfl
theorem single_bare_eq (nf : Nat) (l' : List (List (Int × List Int × Unit) × List (Int × Int × Int × Int × Int × Unit) × Int × Int × Int × List Int × Unit)) : runF tab (single_bare_phi nf) single_bare_keep nf [PT.val (((Ty.int IntKind.i64).pair ((Ty.int IntKind.i64).sl.pair Ty.unit)).sl.pair (((Ty.int IntKind.i64).pair ((Ty.int IntKind.i64).pair ((Ty.int IntKind.i64).pair ((Ty.int IntKind.i64).pair ((Ty.int IntKind.i64).pair Ty.unit))))).sl.pair ((Ty.int IntKind.i64).pair ((Ty.int IntKind.i64).pair ((Ty.int IntKind.i64).pair ((Ty.int IntKind.i64).sl.pair Ty.unit)))))).sl (Md.bor true false)] [((((Ty.int IntKind.i64).pair ((Ty.int IntKind.i64).pair ((Ty.int IntKind.i64).pair ((Ty.int IntKind.i64).pair ((Ty.int IntKind.i64).pair Ty.unit))))).sl.pair ((Ty.int IntKind.i64).pair ((Ty.int IntKind.i64).pair ((Ty.int IntKind.i64).pair Ty.unit)))).sl, Md.own false (Md.bor false false))] (resL (none) Try.f18) (codeOf Try.f18) ⟨l', ()⟩ = single_bare_f nf l' := by
  have h : runF tab (single_bare_phi nf) single_bare_keep nf [PT.val (((Ty.int IntKind.i64).pair ((Ty.int IntKind.i64).sl.pair Ty.unit)).sl.pair (((Ty.int IntKind.i64).pair ((Ty.int IntKind.i64).pair ((Ty.int IntKind.i64).pair ((Ty.int IntKind.i64).pair ((Ty.int IntKind.i64).pair Ty.unit))))).sl.pair ((Ty.int IntKind.i64).pair ((Ty.int IntKind.i64).pair ((Ty.int IntKind.i64).pair ((Ty.int IntKind.i64).sl.pair Ty.unit)))))).sl (Md.bor true false)] [((((Ty.int IntKind.i64).pair ((Ty.int IntKind.i64).pair ((Ty.int IntKind.i64).pair ((Ty.int IntKind.i64).pair ((Ty.int IntKind.i64).pair Ty.unit))))).sl.pair ((Ty.int IntKind.i64).pair ((Ty.int IntKind.i64).pair ((Ty.int IntKind.i64).pair Ty.unit)))).sl, Md.own false (Md.bor false false))] (resL (none) Try.f18) (codeOf Try.f18) ⟨l', ()⟩ = single_bare_p nf (fun p0 v0 v1 => iter nf (LC.F tab (single_bare_phi nf) (fun _ F => iter nf F) single_bare_keep 0 (single_bare_L0 nf)) (single_bare_m0 p0 v0 v1)) l' := by kernel_rfl
  rw [h]
  simp only [single_bare_e0]
  rfl
def single_bare_F (nf : Nat) (x : denPs [.val (.sl (.pair (.sl (.pair (.int .i64) (.pair (.sl (.int .i64)) (.unit)))) (.pair (.sl (.pair (.int .i64) (.pair (.int .i64) (.pair (.int .i64) (.pair (.int .i64) (.pair (.int .i64) (.unit))))))) (.pair (.int .i64) (.pair (.int .i64) (.pair (.int .i64) (.pair (.sl (.int .i64)) (.unit)))))))) (.bor true false)]) : Option (denL [(.sl (.pair (.sl (.pair (.int .i64) (.pair (.int .i64) (.pair (.int .i64) (.pair (.int .i64) (.pair (.int .i64) (.unit))))))) (.pair (.int .i64) (.pair (.int .i64) (.pair (.int .i64) (.unit))))), .own false (.bor false false))]) := single_bare_f nf x.1
def single_bare_C (nf : Nat) : Contract := ⟨[.val (.sl (.pair (.sl (.pair (.int .i64) (.pair (.sl (.int .i64)) (.unit)))) (.pair (.sl (.pair (.int .i64) (.pair (.int .i64) (.pair (.int .i64) (.pair (.int .i64) (.pair (.int .i64) (.unit))))))) (.pair (.int .i64) (.pair (.int .i64) (.pair (.int .i64) (.pair (.sl (.int .i64)) (.unit)))))))) (.bor true false)], [(.sl (.pair (.sl (.pair (.int .i64) (.pair (.int .i64) (.pair (.int .i64) (.pair (.int .i64) (.pair (.int .i64) (.unit))))))) (.pair (.int .i64) (.pair (.int .i64) (.pair (.int .i64) (.unit))))), .own false (.bor false false))], single_bare_F nf, none⟩
theorem single_bare_ok : FnOK Try.prog 18 := ⟨Try.f18, codeOf Try.f18, Try.func18, by kernel_rfl, by kernel_rfl⟩
theorem single_bare_holds (nf : Nat) : Contract.Holds Try.prog 18 (single_bare_C nf) :=
  fn_holds (Φ := single_bare_phi nf) (keep := single_bare_keep) (n := nf) ⟨tabs.1, tabs.2, ctx_nil, mixed⟩ (fn := Try.f18) ⟨Try.func18, by kernel_rfl, by kernel_rfl, by kernel_rfl⟩ (fun x => single_bare_eq nf x.1)

/-! codemason single.uses -/
def single_uses_phi (nf : Nat) : Nat → Option Contract := lookC []
def single_uses_keep : Nat → List Nat := lookK []
def single_uses_p (nf : Nat)  (s : Int × Int × Int × Int × Int × Unit) : Option (List Int × Unit) :=
  bif s.fst == 1 then
    some (([], ()))
  else
    bif s.fst == 2 then
      some (([s.snd.snd.snd.snd.fst], ()))
    else
      some (([s.snd.snd.fst, s.snd.snd.snd.fst], ()))
def single_uses_f (nf : Nat) (s : Int × Int × Int × Int × Int × Unit) : Option (List Int × Unit) := single_uses_p nf  s
theorem single_uses_eq (nf : Nat) (s : Int × Int × Int × Int × Int × Unit) : runF tab (single_uses_phi nf) single_uses_keep nf [PT.val ((Ty.int IntKind.i64).pair ((Ty.int IntKind.i64).pair ((Ty.int IntKind.i64).pair ((Ty.int IntKind.i64).pair ((Ty.int IntKind.i64).pair Ty.unit))))) (Md.bor true false)] [((Ty.int IntKind.i64).sl, Md.own false (Md.bor false false))] (resL (none) Try.f33) (codeOf Try.f33) ⟨s, ()⟩ = single_uses_f nf s := by
  have h : runF tab (single_uses_phi nf) single_uses_keep nf [PT.val ((Ty.int IntKind.i64).pair ((Ty.int IntKind.i64).pair ((Ty.int IntKind.i64).pair ((Ty.int IntKind.i64).pair ((Ty.int IntKind.i64).pair Ty.unit))))) (Md.bor true false)] [((Ty.int IntKind.i64).sl, Md.own false (Md.bor false false))] (resL (none) Try.f33) (codeOf Try.f33) ⟨s, ()⟩ = single_uses_p nf  s := by kernel_rfl
  exact h
def single_uses_F (nf : Nat) (x : denPs [.val (.pair (.int .i64) (.pair (.int .i64) (.pair (.int .i64) (.pair (.int .i64) (.pair (.int .i64) (.unit)))))) (.bor true false)]) : Option (denL [(.sl (.int .i64), .own false (.bor false false))]) := single_uses_f nf x.1
def single_uses_C (nf : Nat) : Contract := ⟨[.val (.pair (.int .i64) (.pair (.int .i64) (.pair (.int .i64) (.pair (.int .i64) (.pair (.int .i64) (.unit)))))) (.bor true false)], [(.sl (.int .i64), .own false (.bor false false))], single_uses_F nf, none⟩
theorem single_uses_ok : FnOK Try.prog 33 := ⟨Try.f33, codeOf Try.f33, Try.func33, by kernel_rfl, by kernel_rfl⟩
theorem single_uses_holds (nf : Nat) : Contract.Holds Try.prog 33 (single_uses_C nf) :=
  fn_holds (Φ := single_uses_phi nf) (keep := single_uses_keep) (n := nf) ⟨tabs.1, tabs.2, ctx_nil, mixed⟩ (fn := Try.f33) ⟨Try.func33, by kernel_rfl, by kernel_rfl, by kernel_rfl⟩ (fun x => single_uses_eq nf x.1)

/-! codemason single.bad 1 -/
def single_bad_1_phi (nf : Nat) : Nat → Option Contract := lookC []
def single_bad_1_keep : Nat → List Nat := lookK []
def single_bad_1_p (nf : Nat)  (i : Int) : Option (Bool × Unit) :=
  bif decide (i < 0) then
    some ((true, ()))
  else
    some ((decide (i ≥ 128), ()))
def single_bad_1_f (nf : Nat) (i : Int) : Option (Bool × Unit) := single_bad_1_p nf  i
theorem single_bad_1_eq (nf : Nat) (i : Int) : runF tab (single_bad_1_phi nf) single_bad_1_keep nf [PT.val (Ty.int IntKind.i64) (Md.bor true false)] [(Ty.bool, Md.bor false true)] (resL (none) Try.f48) (codeOf Try.f48) ⟨i, ()⟩ = single_bad_1_f nf i := by
  have h : runF tab (single_bad_1_phi nf) single_bad_1_keep nf [PT.val (Ty.int IntKind.i64) (Md.bor true false)] [(Ty.bool, Md.bor false true)] (resL (none) Try.f48) (codeOf Try.f48) ⟨i, ()⟩ = single_bad_1_p nf  i := by kernel_rfl
  exact h
def single_bad_1_F (nf : Nat) (x : denPs [.val (.int .i64) (.bor true false)]) : Option (denL [(.bool, .bor false true)]) := single_bad_1_f nf x.1
def single_bad_1_C (nf : Nat) : Contract := ⟨[.val (.int .i64) (.bor true false)], [(.bool, .bor false true)], single_bad_1_F nf, none⟩
theorem single_bad_1_ok : FnOK Try.prog 48 := ⟨Try.f48, codeOf Try.f48, Try.func48, by kernel_rfl, by kernel_rfl⟩
theorem single_bad_1_holds (nf : Nat) : Contract.Holds Try.prog 48 (single_bad_1_C nf) :=
  fn_holds (Φ := single_bad_1_phi nf) (keep := single_bad_1_keep) (n := nf) ⟨tabs.1, tabs.2, ctx_nil, mixed⟩ (fn := Try.f48) ⟨Try.func48, by kernel_rfl, by kernel_rfl, by kernel_rfl⟩ (fun x => single_bad_1_eq nf x.1)

/-! slices.IndexFunc   int int  codemason single.bad 1 -/
def slices_IndexFunc__single_bad_1_phi (nf : Nat) : Nat → Option Contract := lookC [(48, single_bad_1_C nf)]
def slices_IndexFunc__single_bad_1_keep : Nat → List Nat := lookK [(0, [0, 1, 7, 8])]
def slices_IndexFunc__single_bad_1_b0 (nf : Nat) (s : List Int) (g0 : Int → Option (Int × Unit)) (t8 : Int) : Option (Int × Unit) :=
  bif decide (t8 < (↑s.length : Int)) then
    bif inb t8 s.length then
      Option.bind (single_bad_1_f nf (s.getD t8.toNat 0)) fun r =>
      bif r.fst then
        some ((t8, ()))
      else
        g0 (IntKind.i64.wrap (t8 + 1))
    else
      none
  else
    some ((-1, ()))
def slices_IndexFunc__single_bad_1_p (nf : Nat) (l0 : List Int → Int → Option (Int × Unit)) (s : List Int) (f : Unit) : Option (Int × Unit) :=
  l0 s 0
def slices_IndexFunc__single_bad_1_l0 (nf : Nat) (s : List Int) : Nat → Int → Option (Int × Unit)
  | 0, _ => none
  | fu + 1, t8 => slices_IndexFunc__single_bad_1_b0 nf  s  (slices_IndexFunc__single_bad_1_l0 nf s  fu) t8
def slices_IndexFunc__single_bad_1_f (nf : Nat) (s : List Int) (f : Unit) : Option (Int × Unit) := slices_IndexFunc__single_bad_1_p nf (fun p0 v0 => slices_IndexFunc__single_bad_1_l0 nf p0 nf v0) s f
noncomputable def slices_IndexFunc__single_bad_1_L0 (nf : Nat) : LC (Int × Unit) := theL (findL tab (slices_IndexFunc__single_bad_1_phi nf) (fun _ F => iter nf F) slices_IndexFunc__single_bad_1_keep 0 0 (codeOf Try.f49) (fin tab [(Ty.int IntKind.i64, Md.bor false true)] (resL (none) Try.f49)) (fun _ _ => none) (fin tab [(Ty.int IntKind.i64, Md.bor false true)] (resL (none) Try.f49)))
def slices_IndexFunc__single_bad_1_m0 (s : List Int) (t8 : Int) : St := ⟨fresh, [(0, AV.v (Ty.int IntKind.i64).sl (Md.bor true false) s), (1, AV.clo 48 []), (7, AV.v (Ty.int IntKind.i64) (Md.bor false true) (↑s.length : Int)), (8, AV.v (Ty.int IntKind.i64) (Md.bor false true) t8)]⟩
theorem slices_IndexFunc__single_bad_1_h0 (nf : Nat)  (s : List Int) (fu : Nat) (t8 : Int) : iter (fu + 1) (LC.F tab (slices_IndexFunc__single_bad_1_phi nf) (fun _ F => iter nf F) slices_IndexFunc__single_bad_1_keep 0 (slices_IndexFunc__single_bad_1_L0 nf )) (slices_IndexFunc__single_bad_1_m0 s t8) = slices_IndexFunc__single_bad_1_b0 nf  s  (fun t8 => iter fu (LC.F tab (slices_IndexFunc__single_bad_1_phi nf) (fun _ F => iter nf F) slices_IndexFunc__single_bad_1_keep 0 (slices_IndexFunc__single_bad_1_L0 nf )) (slices_IndexFunc__single_bad_1_m0 s t8)) t8 := by kernel_rfl
theorem slices_IndexFunc__single_bad_1_e0 (nf : Nat)  (s : List Int) : ∀ (fu : Nat) (t8 : Int), iter fu (LC.F tab (slices_IndexFunc__single_bad_1_phi nf) (fun _ F => iter nf F) slices_IndexFunc__single_bad_1_keep 0 (slices_IndexFunc__single_bad_1_L0 nf )) (slices_IndexFunc__single_bad_1_m0 s t8) = slices_IndexFunc__single_bad_1_l0 nf s  fu t8 := by
  intro fu
  induction fu with
  | zero => intros; rfl
  | succ fu ih =>
    intro t8
    rw [slices_IndexFunc__single_bad_1_h0 nf  s fu t8]
    simp only [ih]
    rfl
theorem slices_IndexFunc__single_bad_1_eq (nf : Nat) (s : List Int) (f : Unit) : runF tab (slices_IndexFunc__single_bad_1_phi nf) slices_IndexFunc__single_bad_1_keep nf [PT.val (Ty.int IntKind.i64).sl (Md.bor true false), PT.clo 48 []] [(Ty.int IntKind.i64, Md.bor false true)] (resL (none) Try.f49) (codeOf Try.f49) ⟨s, f, ()⟩ = slices_IndexFunc__single_bad_1_f nf s f := by
  have h : runF tab (slices_IndexFunc__single_bad_1_phi nf) slices_IndexFunc__single_bad_1_keep nf [PT.val (Ty.int IntKind.i64).sl (Md.bor true false), PT.clo 48 []] [(Ty.int IntKind.i64, Md.bor false true)] (resL (none) Try.f49) (codeOf Try.f49) ⟨s, f, ()⟩ = slices_IndexFunc__single_bad_1_p nf (fun p0 v0 => iter nf (LC.F tab (slices_IndexFunc__single_bad_1_phi nf) (fun _ F => iter nf F) slices_IndexFunc__single_bad_1_keep 0 (slices_IndexFunc__single_bad_1_L0 nf)) (slices_IndexFunc__single_bad_1_m0 p0 v0)) s f := by kernel_rfl
  rw [h]
  simp only [slices_IndexFunc__single_bad_1_e0]
  rfl
def slices_IndexFunc__single_bad_1_F (nf : Nat) (x : denPs [.val (.sl (.int .i64)) (.bor true false), .clo 48 []]) : Option (denL [(.int .i64, .bor false true)]) := slices_IndexFunc__single_bad_1_f nf x.1 x.2.1
def slices_IndexFunc__single_bad_1_C (nf : Nat) : Contract := ⟨[.val (.sl (.int .i64)) (.bor true false), .clo 48 []], [(.int .i64, .bor false true)], slices_IndexFunc__single_bad_1_F nf, none⟩
theorem slices_IndexFunc__single_bad_1_ok : FnOK Try.prog 49 := ⟨Try.f49, codeOf Try.f49, Try.func49, by kernel_rfl, by kernel_rfl⟩
theorem slices_IndexFunc__single_bad_1_holds (nf : Nat) : Contract.Holds Try.prog 49 (slices_IndexFunc__single_bad_1_C nf) :=
  fn_holds (Φ := slices_IndexFunc__single_bad_1_phi nf) (keep := slices_IndexFunc__single_bad_1_keep) (n := nf) ⟨tabs.1, tabs.2, (ctx_cons single_bad_1_ok (single_bad_1_holds nf) ctx_nil), mixed⟩ (fn := Try.f49) ⟨Try.func49, by kernel_rfl, by kernel_rfl, by kernel_rfl⟩ (fun x => slices_IndexFunc__single_bad_1_eq nf x.1 x.2.1)

/-! slices.ContainsFunc   int int  codemason single.bad 1 -/
def slices_ContainsFunc__single_bad_1_phi (nf : Nat) : Nat → Option Contract := lookC [(49, slices_IndexFunc__single_bad_1_C nf)]
def slices_ContainsFunc__single_bad_1_keep : Nat → List Nat := lookK []
def slices_ContainsFunc__single_bad_1_p (nf : Nat)  (s : List Int) (f : Unit) : Option (Bool × Unit) :=
  Option.bind (slices_IndexFunc__single_bad_1_f nf s (())) fun r =>
  some ((decide (r.fst ≥ 0), ()))
def slices_ContainsFunc__single_bad_1_f (nf : Nat) (s : List Int) (f : Unit) : Option (Bool × Unit) := slices_ContainsFunc__single_bad_1_p nf  s f
theorem slices_ContainsFunc__single_bad_1_eq (nf : Nat) (s : List Int) (f : Unit) : runF tab (slices_ContainsFunc__single_bad_1_phi nf) slices_ContainsFunc__single_bad_1_keep nf [PT.val (Ty.int IntKind.i64).sl (Md.bor true false), PT.clo 48 []] [(Ty.bool, Md.bor false true)] (resL (none) Try.f42) (codeOf Try.f42) ⟨s, f, ()⟩ = slices_ContainsFunc__single_bad_1_f nf s f := by
  have h : runF tab (slices_ContainsFunc__single_bad_1_phi nf) slices_ContainsFunc__single_bad_1_keep nf [PT.val (Ty.int IntKind.i64).sl (Md.bor true false), PT.clo 48 []] [(Ty.bool, Md.bor false true)] (resL (none) Try.f42) (codeOf Try.f42) ⟨s, f, ()⟩ = slices_ContainsFunc__single_bad_1_p nf  s f := by kernel_rfl
  exact h
def slices_ContainsFunc__single_bad_1_F (nf : Nat) (x : denPs [.val (.sl (.int .i64)) (.bor true false), .clo 48 []]) : Option (denL [(.bool, .bor false true)]) := slices_ContainsFunc__single_bad_1_f nf x.1 x.2.1
def slices_ContainsFunc__single_bad_1_C (nf : Nat) : Contract := ⟨[.val (.sl (.int .i64)) (.bor true false), .clo 48 []], [(.bool, .bor false true)], slices_ContainsFunc__single_bad_1_F nf, none⟩
theorem slices_ContainsFunc__single_bad_1_ok : FnOK Try.prog 42 := ⟨Try.f42, codeOf Try.f42, Try.func42, by kernel_rfl, by kernel_rfl⟩
theorem slices_ContainsFunc__single_bad_1_holds (nf : Nat) : Contract.Holds Try.prog 42 (slices_ContainsFunc__single_bad_1_C nf) :=
  fn_holds (Φ := slices_ContainsFunc__single_bad_1_phi nf) (keep := slices_ContainsFunc__single_bad_1_keep) (n := nf) ⟨tabs.1, tabs.2, (ctx_cons slices_IndexFunc__single_bad_1_ok (slices_IndexFunc__single_bad_1_holds nf) ctx_nil), mixed⟩ (fn := Try.f42) ⟨Try.func42, by kernel_rfl, by kernel_rfl, by kernel_rfl⟩ (fun x => slices_ContainsFunc__single_bad_1_eq nf x.1 x.2.1)

/-! codemason single.bad -/
def single_bad_phi (nf : Nat) : Nat → Option Contract := lookC [(42, slices_ContainsFunc__single_bad_1_C nf)]
def single_bad_keep : Nat → List Nat := lookK []
def single_bad_p (nf : Nat)  (l' : List Int) : Option (Bool × Unit) :=
  Option.bind (slices_ContainsFunc__single_bad_1_f nf l' (())) fun r =>
  some ((r.fst, ()))
def single_bad_f (nf : Nat) (l' : List Int) : Option (Bool × Unit) := single_bad_p nf  l'
theorem single_bad_eq (nf : Nat) (l' : List Int) : runF tab (single_bad_phi nf) single_bad_keep nf [PT.val (Ty.int IntKind.i64).sl (Md.bor true false)] [(Ty.bool, Md.bor false true)] (resL (none) Try.f40) (codeOf Try.f40) ⟨l', ()⟩ = single_bad_f nf l' := by
  have h : runF tab (single_bad_phi nf) single_bad_keep nf [PT.val (Ty.int IntKind.i64).sl (Md.bor true false)] [(Ty.bool, Md.bor false true)] (resL (none) Try.f40) (codeOf Try.f40) ⟨l', ()⟩ = single_bad_p nf  l' := by kernel_rfl
  exact h
def single_bad_F (nf : Nat) (x : denPs [.val (.sl (.int .i64)) (.bor true false)]) : Option (denL [(.bool, .bor false true)]) := single_bad_f nf x.1
def single_bad_C (nf : Nat) : Contract := ⟨[.val (.sl (.int .i64)) (.bor true false)], [(.bool, .bor false true)], single_bad_F nf, none⟩
theorem single_bad_ok : FnOK Try.prog 40 := ⟨Try.f40, codeOf Try.f40, Try.func40, by kernel_rfl, by kernel_rfl⟩
theorem single_bad_holds (nf : Nat) : Contract.Holds Try.prog 40 (single_bad_C nf) :=
  fn_holds (Φ := single_bad_phi nf) (keep := single_bad_keep) (n := nf) ⟨tabs.1, tabs.2, (ctx_cons slices_ContainsFunc__single_bad_1_ok (slices_ContainsFunc__single_bad_1_holds nf) ctx_nil), mixed⟩ (fn := Try.f40) ⟨Try.func40, by kernel_rfl, by kernel_rfl, by kernel_rfl⟩ (fun x => single_bad_eq nf x.1)

/-! codemason single.inside -/
def single_inside_phi (nf : Nat) : Nat → Option Contract := lookC [(33, single_uses_C nf), (40, single_bad_C nf)]
def single_inside_keep : Nat → List Nat := lookK [(2, [0, 2, 31, 32, 33, 34]), (0, [0, 1, 2, 9, 10, 11, 12])]
def single_inside_b0 (nf : Nat) (l2 : List (Int × List Int × Unit) × List (Int × Int × Int × Int × Int × Unit) × Int × Int × Int × List Int × Unit → List (Int × List Int × Unit) × List (Int × Int × Int × Int × Int × Unit) × Int × Int × Int × List Int × Unit → List (Int × List Int × Unit) × List (Int × Int × Int × Int × Int × Unit) × Int × Int × Int × List Int × Unit → Int → Option (Int × Unit)) (b : List (Int × List Int × Unit) × List (Int × Int × Int × Int × Int × Unit) × Int × Int × Int × List Int × Unit) (from' : Int) (g0 : List (Int × List Int × Unit) × List (Int × Int × Int × Int × Int × Unit) × Int × Int × Int × List Int × Unit → Int → Option (Int × Unit)) (b2 : List (Int × List Int × Unit) × List (Int × Int × Int × Int × Int × Unit) × Int × Int × Int × List Int × Unit) (t12 : Int) : Option (Int × Unit) :=
  bif decide (t12 < (↑(List.length b.fst) : Int)) then
    bif inb t12 (List.length b.fst) then
      bif (↑(List.length (List.getD b.fst t12.toNat (0, [], ())).snd.fst) : Int) != from' then
        some ((3, ()))
      else
        Option.bind (single_bad_f nf ([(List.getD b.fst t12.toNat (0, [], ())).fst])) fun r =>
        bif r.fst then
          some ((2, ()))
        else
          Option.bind (single_bad_f nf ((List.getD b.fst t12.toNat (0, [], ())).snd.fst)) fun r2 =>
          bif r2.fst then
            some ((2, ()))
          else
            g0 b2 (IntKind.i64.wrap (t12 + 1))
    else
      none
  else
    l2 b b2 b2 0
def single_inside_b2 (nf : Nat) (b : List (Int × List Int × Unit) × List (Int × Int × Int × Int × Int × Unit) × Int × Int × Int × List Int × Unit) (b2 : List (Int × List Int × Unit) × List (Int × Int × Int × Int × Int × Unit) × Int × Int × Int × List Int × Unit) (g2 : List (Int × List Int × Unit) × List (Int × Int × Int × Int × Int × Unit) × Int × Int × Int × List Int × Unit → Int → Option (Int × Unit)) (b3 : List (Int × List Int × Unit) × List (Int × Int × Int × Int × Int × Unit) × Int × Int × Int × List Int × Unit) (t34 : Int) : Option (Int × Unit) :=
  bif decide (t34 < (↑(List.length b2.snd.fst) : Int)) then
    bif inb t34 (List.length b2.snd.fst) then
      bif decide ((List.getD b2.snd.fst t34.toNat (0, 0, 0, 0, 0, ())).fst < 1) then
        some ((6, ()))
      else
        bif decide ((List.getD b2.snd.fst t34.toNat (0, 0, 0, 0, 0, ())).fst > 6) then
          some ((6, ()))
        else
          bif (List.getD b2.snd.fst t34.toNat (0, 0, 0, 0, 0, ())).fst == 1 then
            bif decide ((List.getD b2.snd.fst t34.toNat (0, 0, 0, 0, 0, ())).snd.snd.snd.snd.fst < 0) then
              some ((4, ()))
            else
              bif decide ((List.getD b2.snd.fst t34.toNat (0, 0, 0, 0, 0, ())).snd.snd.snd.snd.fst > 255) then
                some ((4, ()))
              else
                Option.bind (single_bad_f nf ([(List.getD b2.snd.fst t34.toNat (0, 0, 0, 0, 0, ())).snd.fst])) fun r3 =>
                bif r3.fst then
                  some ((2, ()))
                else
                  Option.bind (single_uses_f nf (List.getD b2.snd.fst t34.toNat (0, 0, 0, 0, 0, ()))) fun r4 =>
                  Option.bind (single_bad_f nf r4.fst) fun r5 =>
                  bif r5.fst then
                    some ((2, ()))
                  else
                    g2 b3 (IntKind.i64.wrap (t34 + 1))
          else
            Option.bind (single_bad_f nf ([(List.getD b2.snd.fst t34.toNat (0, 0, 0, 0, 0, ())).snd.fst])) fun r6 =>
            bif r6.fst then
              some ((2, ()))
            else
              Option.bind (single_uses_f nf (List.getD b2.snd.fst t34.toNat (0, 0, 0, 0, 0, ()))) fun r7 =>
              Option.bind (single_bad_f nf r7.fst) fun r8 =>
              bif r8.fst then
                some ((2, ()))
              else
                g2 b3 (IntKind.i64.wrap (t34 + 1))
    else
      none
  else
    bif decide (b3.snd.snd.fst ≥ 0) then
      Option.bind (single_bad_f nf ([b3.snd.snd.fst])) fun r9 =>
      bif r9.fst then
        some ((2, ()))
      else
        Option.bind (single_bad_f nf b3.snd.snd.snd.snd.snd.fst) fun r10 =>
        bif r10.fst then
          some ((2, ()))
        else
          some ((0, ()))
    else
      Option.bind (single_bad_f nf b3.snd.snd.snd.snd.snd.fst) fun r11 =>
      bif r11.fst then
        some ((2, ()))
      else
        some ((0, ()))
def single_inside_p (nf : Nat) (l0 : List (Int × List Int × Unit) × List (Int × Int × Int × Int × Int × Unit) × Int × Int × Int × List Int × Unit → Int → List (Int × List Int × Unit) × List (Int × Int × Int × Int × Int × Unit) × Int × Int × Int × List Int × Unit → Int → Option (Int × Unit)) (b : List (Int × List Int × Unit) × List (Int × Int × Int × Int × Int × Unit) × Int × Int × Int × List Int × Unit) (from' : Int) : Option (Int × Unit) :=
  l0 b from' b 0
def single_inside_l2 (nf : Nat) (b : List (Int × List Int × Unit) × List (Int × Int × Int × Int × Int × Unit) × Int × Int × Int × List Int × Unit) (b2 : List (Int × List Int × Unit) × List (Int × Int × Int × Int × Int × Unit) × Int × Int × Int × List Int × Unit) : Nat → List (Int × List Int × Unit) × List (Int × Int × Int × Int × Int × Unit) × Int × Int × Int × List Int × Unit → Int → Option (Int × Unit)
  | 0, _, _ => none
  | fu + 1, b3, t34 => single_inside_b2 nf  b b2  (single_inside_l2 nf b b2  fu) b3 t34
def single_inside_l0 (nf : Nat) (b : List (Int × List Int × Unit) × List (Int × Int × Int × Int × Int × Unit) × Int × Int × Int × List Int × Unit) (from' : Int) : Nat → List (Int × List Int × Unit) × List (Int × Int × Int × Int × Int × Unit) × Int × Int × Int × List Int × Unit → Int → Option (Int × Unit)
  | 0, _, _ => none
  | fu + 1, b2, t12 => single_inside_b0 nf (fun _ p1 v0 v1 => single_inside_l2 nf b p1  nf v0 v1) b from'  (single_inside_l0 nf b from'  fu) b2 t12
def single_inside_f (nf : Nat) (b : List (Int × List Int × Unit) × List (Int × Int × Int × Int × Int × Unit) × Int × Int × Int × List Int × Unit) (from' : Int) : Option (Int × Unit) := single_inside_p nf (fun p0 p1 v0 v1 => single_inside_l0 nf p0 p1 nf v0 v1) b from'
noncomputable def single_inside_L0 (nf : Nat) : LC (Int × Unit) := theL (findL tab (single_inside_phi nf) (fun _ F => iter nf F) single_inside_keep 0 0 (codeOf Try.f19) (fin tab [(Ty.int IntKind.i64, Md.bor false true)] (resL (none) Try.f19)) (fun _ _ => none) (fin tab [(Ty.int IntKind.i64, Md.bor false true)] (resL (none) Try.f19)))
def single_inside_m0 (b : List (Int × List Int × Unit) × List (Int × Int × Int × Int × Int × Unit) × Int × Int × Int × List Int × Unit) (from' : Int) (b2 : List (Int × List Int × Unit) × List (Int × Int × Int × Int × Int × Unit) × Int × Int × Int × List Int × Unit) (t12 : Int) : St := ⟨fresh, [(0, AV.v (((Ty.int IntKind.i64).pair ((Ty.int IntKind.i64).sl.pair Ty.unit)).sl.pair (((Ty.int IntKind.i64).pair ((Ty.int IntKind.i64).pair ((Ty.int IntKind.i64).pair ((Ty.int IntKind.i64).pair ((Ty.int IntKind.i64).pair Ty.unit))))).sl.pair ((Ty.int IntKind.i64).pair ((Ty.int IntKind.i64).pair ((Ty.int IntKind.i64).pair ((Ty.int IntKind.i64).sl.pair Ty.unit)))))) (Md.bor true false) b), (1, AV.v (Ty.int IntKind.i64) (Md.bor false true) from'), (2, AV.box 2 500002 (((Ty.int IntKind.i64).pair ((Ty.int IntKind.i64).sl.pair Ty.unit)).sl.pair (((Ty.int IntKind.i64).pair ((Ty.int IntKind.i64).pair ((Ty.int IntKind.i64).pair ((Ty.int IntKind.i64).pair ((Ty.int IntKind.i64).pair Ty.unit))))).sl.pair ((Ty.int IntKind.i64).pair ((Ty.int IntKind.i64).pair ((Ty.int IntKind.i64).pair ((Ty.int IntKind.i64).sl.pair Ty.unit)))))) (Md.bor true false) b2), (9, AV.pl 2 2 [Stp.dr, Stp.fld 0]), (10, AV.v ((Ty.int IntKind.i64).pair ((Ty.int IntKind.i64).sl.pair Ty.unit)).sl (Md.bor true false) b.fst), (11, AV.v (Ty.int IntKind.i64) (Md.bor false true) (↑(List.length b.fst) : Int)), (12, AV.v (Ty.int IntKind.i64) (Md.bor false true) t12)]⟩
noncomputable def single_inside_L2 (nf : Nat) : LC (Int × Unit) := theL (findL tab (single_inside_phi nf) (fun _ F => iter nf F) single_inside_keep 2 0 (codeOf Try.f19) (fin tab [(Ty.int IntKind.i64, Md.bor false true)] (resL (none) Try.f19)) (fun _ _ => none) (fin tab [(Ty.int IntKind.i64, Md.bor false true)] (resL (none) Try.f19)))
def single_inside_m2 (b : List (Int × List Int × Unit) × List (Int × Int × Int × Int × Int × Unit) × Int × Int × Int × List Int × Unit) (b2 : List (Int × List Int × Unit) × List (Int × Int × Int × Int × Int × Unit) × Int × Int × Int × List Int × Unit) (b3 : List (Int × List Int × Unit) × List (Int × Int × Int × Int × Int × Unit) × Int × Int × Int × List Int × Unit) (t34 : Int) : St := ⟨fresh, [(0, AV.v (((Ty.int IntKind.i64).pair ((Ty.int IntKind.i64).sl.pair Ty.unit)).sl.pair (((Ty.int IntKind.i64).pair ((Ty.int IntKind.i64).pair ((Ty.int IntKind.i64).pair ((Ty.int IntKind.i64).pair ((Ty.int IntKind.i64).pair Ty.unit))))).sl.pair ((Ty.int IntKind.i64).pair ((Ty.int IntKind.i64).pair ((Ty.int IntKind.i64).pair ((Ty.int IntKind.i64).sl.pair Ty.unit)))))) (Md.bor true false) b), (2, AV.box 2 500002 (((Ty.int IntKind.i64).pair ((Ty.int IntKind.i64).sl.pair Ty.unit)).sl.pair (((Ty.int IntKind.i64).pair ((Ty.int IntKind.i64).pair ((Ty.int IntKind.i64).pair ((Ty.int IntKind.i64).pair ((Ty.int IntKind.i64).pair Ty.unit))))).sl.pair ((Ty.int IntKind.i64).pair ((Ty.int IntKind.i64).pair ((Ty.int IntKind.i64).pair ((Ty.int IntKind.i64).sl.pair Ty.unit)))))) (Md.bor true false) b3), (31, AV.pl 2 2 [Stp.dr, Stp.fld 1]), (32, AV.v ((Ty.int IntKind.i64).pair ((Ty.int IntKind.i64).pair ((Ty.int IntKind.i64).pair ((Ty.int IntKind.i64).pair ((Ty.int IntKind.i64).pair Ty.unit))))).sl (Md.bor true false) b2.snd.fst), (33, AV.v (Ty.int IntKind.i64) (Md.bor false true) (↑(List.length b2.snd.fst) : Int)), (34, AV.v (Ty.int IntKind.i64) (Md.bor false true) t34)]⟩
theorem single_inside_h2 (nf : Nat)  (b : List (Int × List Int × Unit) × List (Int × Int × Int × Int × Int × Unit) × Int × Int × Int × List Int × Unit) (b2 : List (Int × List Int × Unit) × List (Int × Int × Int × Int × Int × Unit) × Int × Int × Int × List Int × Unit) (fu : Nat) (b3 : List (Int × List Int × Unit) × List (Int × Int × Int × Int × Int × Unit) × Int × Int × Int × List Int × Unit) (t34 : Int) : iter (fu + 1) (LC.F tab (single_inside_phi nf) (fun _ F => iter nf F) single_inside_keep 2 (single_inside_L2 nf )) (single_inside_m2 b b2 b3 t34) = single_inside_b2 nf  b b2  (fun b3 t34 => iter fu (LC.F tab (single_inside_phi nf) (fun _ F => iter nf F) single_inside_keep 2 (single_inside_L2 nf )) (single_inside_m2 b b2 b3 t34)) b3 t34 := by kernel_rfl
theorem single_inside_e2 (nf : Nat)  (b : List (Int × List Int × Unit) × List (Int × Int × Int × Int × Int × Unit) × Int × Int × Int × List Int × Unit) (b2 : List (Int × List Int × Unit) × List (Int × Int × Int × Int × Int × Unit) × Int × Int × Int × List Int × Unit) : ∀ (fu : Nat) (b3 : List (Int × List Int × Unit) × List (Int × Int × Int × Int × Int × Unit) × Int × Int × Int × List Int × Unit) (t34 : Int), iter fu (LC.F tab (single_inside_phi nf) (fun _ F => iter nf F) single_inside_keep 2 (single_inside_L2 nf )) (single_inside_m2 b b2 b3 t34) = single_inside_l2 nf b b2  fu b3 t34 := by
  intro fu
  induction fu with
  | zero => intros; rfl
  | succ fu ih =>
    intro b3 t34
    rw [single_inside_h2 nf  b b2 fu b3 t34]
    simp only [ih]
    rfl
theorem single_inside_h0 (nf : Nat)  (b : List (Int × List Int × Unit) × List (Int × Int × Int × Int × Int × Unit) × Int × Int × Int × List Int × Unit) (from' : Int) (fu : Nat) (b2 : List (Int × List Int × Unit) × List (Int × Int × Int × Int × Int × Unit) × Int × Int × Int × List Int × Unit) (t12 : Int) : iter (fu + 1) (LC.F tab (single_inside_phi nf) (fun _ F => iter nf F) single_inside_keep 0 (single_inside_L0 nf )) (single_inside_m0 b from' b2 t12) = single_inside_b0 nf (fun _ p1 v0 v1 => iter nf (LC.F tab (single_inside_phi nf) (fun _ F => iter nf F) single_inside_keep 2 (single_inside_L2 nf )) (single_inside_m2 b p1 v0 v1)) b from'  (fun b2 t12 => iter fu (LC.F tab (single_inside_phi nf) (fun _ F => iter nf F) single_inside_keep 0 (single_inside_L0 nf )) (single_inside_m0 b from' b2 t12)) b2 t12 := by kernel_rfl
theorem single_inside_e0 (nf : Nat)  (b : List (Int × List Int × Unit) × List (Int × Int × Int × Int × Int × Unit) × Int × Int × Int × List Int × Unit) (from' : Int) : ∀ (fu : Nat) (b2 : List (Int × List Int × Unit) × List (Int × Int × Int × Int × Int × Unit) × Int × Int × Int × List Int × Unit) (t12 : Int), iter fu (LC.F tab (single_inside_phi nf) (fun _ F => iter nf F) single_inside_keep 0 (single_inside_L0 nf )) (single_inside_m0 b from' b2 t12) = single_inside_l0 nf b from'  fu b2 t12 := by
  intro fu
  induction fu with
  | zero => intros; rfl
  | succ fu ih =>
    intro b2 t12
    rw [single_inside_h0 nf  b from' fu b2 t12]
    simp only [ih, single_inside_e2]
    rfl
theorem single_inside_eq (nf : Nat) (b : List (Int × List Int × Unit) × List (Int × Int × Int × Int × Int × Unit) × Int × Int × Int × List Int × Unit) (from' : Int) : runF tab (single_inside_phi nf) single_inside_keep nf [PT.val (((Ty.int IntKind.i64).pair ((Ty.int IntKind.i64).sl.pair Ty.unit)).sl.pair (((Ty.int IntKind.i64).pair ((Ty.int IntKind.i64).pair ((Ty.int IntKind.i64).pair ((Ty.int IntKind.i64).pair ((Ty.int IntKind.i64).pair Ty.unit))))).sl.pair ((Ty.int IntKind.i64).pair ((Ty.int IntKind.i64).pair ((Ty.int IntKind.i64).pair ((Ty.int IntKind.i64).sl.pair Ty.unit)))))) (Md.bor true false), PT.val (Ty.int IntKind.i64) (Md.bor true false)] [(Ty.int IntKind.i64, Md.bor false true)] (resL (none) Try.f19) (codeOf Try.f19) ⟨b, from', ()⟩ = single_inside_f nf b from' := by
  have h : runF tab (single_inside_phi nf) single_inside_keep nf [PT.val (((Ty.int IntKind.i64).pair ((Ty.int IntKind.i64).sl.pair Ty.unit)).sl.pair (((Ty.int IntKind.i64).pair ((Ty.int IntKind.i64).pair ((Ty.int IntKind.i64).pair ((Ty.int IntKind.i64).pair ((Ty.int IntKind.i64).pair Ty.unit))))).sl.pair ((Ty.int IntKind.i64).pair ((Ty.int IntKind.i64).pair ((Ty.int IntKind.i64).pair ((Ty.int IntKind.i64).sl.pair Ty.unit)))))) (Md.bor true false), PT.val (Ty.int IntKind.i64) (Md.bor true false)] [(Ty.int IntKind.i64, Md.bor false true)] (resL (none) Try.f19) (codeOf Try.f19) ⟨b, from', ()⟩ = single_inside_p nf (fun p0 p1 v0 v1 => iter nf (LC.F tab (single_inside_phi nf) (fun _ F => iter nf F) single_inside_keep 0 (single_inside_L0 nf)) (single_inside_m0 p0 p1 v0 v1)) b from' := by kernel_rfl
  rw [h]
  simp only [single_inside_e0]
  rfl
def single_inside_F (nf : Nat) (x : denPs [.val (.pair (.sl (.pair (.int .i64) (.pair (.sl (.int .i64)) (.unit)))) (.pair (.sl (.pair (.int .i64) (.pair (.int .i64) (.pair (.int .i64) (.pair (.int .i64) (.pair (.int .i64) (.unit))))))) (.pair (.int .i64) (.pair (.int .i64) (.pair (.int .i64) (.pair (.sl (.int .i64)) (.unit))))))) (.bor true false), .val (.int .i64) (.bor true false)]) : Option (denL [(.int .i64, .bor false true)]) := single_inside_f nf x.1 x.2.1
def single_inside_C (nf : Nat) : Contract := ⟨[.val (.pair (.sl (.pair (.int .i64) (.pair (.sl (.int .i64)) (.unit)))) (.pair (.sl (.pair (.int .i64) (.pair (.int .i64) (.pair (.int .i64) (.pair (.int .i64) (.pair (.int .i64) (.unit))))))) (.pair (.int .i64) (.pair (.int .i64) (.pair (.int .i64) (.pair (.sl (.int .i64)) (.unit))))))) (.bor true false), .val (.int .i64) (.bor true false)], [(.int .i64, .bor false true)], single_inside_F nf, none⟩
theorem single_inside_ok : FnOK Try.prog 19 := ⟨Try.f19, codeOf Try.f19, Try.func19, by kernel_rfl, by kernel_rfl⟩
theorem single_inside_holds (nf : Nat) : Contract.Holds Try.prog 19 (single_inside_C nf) :=
  fn_holds (Φ := single_inside_phi nf) (keep := single_inside_keep) (n := nf) ⟨tabs.1, tabs.2, (ctx_cons single_uses_ok (single_uses_holds nf) (ctx_cons single_bad_ok (single_bad_holds nf) ctx_nil)), mixed⟩ (fn := Try.f19) ⟨Try.func19, by kernel_rfl, by kernel_rfl, by kernel_rfl⟩ (fun x => single_inside_eq nf x.1 x.2.1)

/-! codemason single.Check -/
def single_Check_phi (nf : Nat) : Nat → Option Contract := lookC [(14, single_large_C nf), (15, single_Check_1_C nf), (16, single_From_C nf), (17, block_Next_C nf), (18, single_bare_C nf), (19, single_inside_C nf)]
def single_Check_keep : Nat → List Nat := lookK [(2, [1, 3, 8, 65, 66, 67, 68]), (0, [0, 1, 3, 5, 15, 16, 17, 18])]
def single_Check_b0 (nf : Nat) (l2 : List (List (Int × List Int × Unit) × List (Int × Int × Int × Int × Int × Unit) × Int × Int × Int × List Int × Unit) → List (List (Int × List Int × Unit) × List (Int × Int × Int × Int × Int × Unit) × Int × Int × Int × List Int × Unit) → List (List (Int × List Int × Unit) × List (Int × Int × Int × Int × Int × Unit) × Int × Int × Int × List Int × Unit) → List (List Int) → Int → Option (Int × Unit)) (vars : Int) (l' : List (List (Int × List Int × Unit) × List (Int × Int × Int × Int × Int × Unit) × Int × Int × Int × List Int × Unit)) (g0 : List (List (Int × List Int × Unit) × List (Int × Int × Int × Int × Int × Unit) × Int × Int × Int × List Int × Unit) → Int → Option (Int × Unit)) (l'2 : List (List (Int × List Int × Unit) × List (Int × Int × Int × Int × Int × Unit) × Int × Int × Int × List Int × Unit)) (t18 : Int) : Option (Int × Unit) :=
  bif decide (t18 < (↑l'.length : Int)) then
    bif inb t18 l'.length then
      bif decide ((l'.getD t18.toNat ([], [], 0, 0, 0, [], ())).snd.snd.fst < (-1)) then
        some ((3, ()))
      else
        Option.bind (single_Check_1_f nf ((l'.getD t18.toNat ([], [], 0, 0, 0, [], ())).snd.snd.snd.fst) l'2) fun r2 =>
        bif !r2.fst then
          bif (l'.getD t18.toNat ([], [], 0, 0, 0, [], ())).snd.snd.snd.fst != (-1) then
            some ((3, ()))
          else
            bif decide ((l'.getD t18.toNat ([], [], 0, 0, 0, [], ())).snd.snd.fst ≥ 0) then
              some ((3, ()))
            else
              bif decide ((l'.getD t18.toNat ([], [], 0, 0, 0, [], ())).snd.snd.fst ≥ 0) then
                Option.bind (single_Check_1_f nf ((l'.getD t18.toNat ([], [], 0, 0, 0, [], ())).snd.snd.snd.snd.fst) l'2) fun r3 =>
                bif !r3.fst then
                  some ((3, ()))
                else
                  bif (↑(List.length (l'.getD t18.toNat ([], [], 0, 0, 0, [], ())).snd.snd.snd.snd.snd.fst) : Int) != vars then
                    some ((3, ()))
                  else
                    g0 l'2 (IntKind.i64.wrap (t18 + 1))
              else
                bif (↑(List.length (l'.getD t18.toNat ([], [], 0, 0, 0, [], ())).snd.snd.snd.snd.snd.fst) : Int) != vars then
                  some ((3, ()))
                else
                  g0 l'2 (IntKind.i64.wrap (t18 + 1))
        else
          bif decide ((l'.getD t18.toNat ([], [], 0, 0, 0, [], ())).snd.snd.fst ≥ 0) then
            Option.bind (single_Check_1_f nf ((l'.getD t18.toNat ([], [], 0, 0, 0, [], ())).snd.snd.snd.snd.fst) l'2) fun r4 =>
            bif !r4.fst then
              some ((3, ()))
            else
              bif (↑(List.length (l'.getD t18.toNat ([], [], 0, 0, 0, [], ())).snd.snd.snd.snd.snd.fst) : Int) != vars then
                some ((3, ()))
              else
                g0 l'2 (IntKind.i64.wrap (t18 + 1))
          else
            bif (↑(List.length (l'.getD t18.toNat ([], [], 0, 0, 0, [], ())).snd.snd.snd.snd.snd.fst) : Int) != vars then
              some ((3, ()))
            else
              g0 l'2 (IntKind.i64.wrap (t18 + 1))
    else
      none
  else
    Option.bind (single_bare_f nf l'2) fun r5 =>
    Option.bind (block_Next_f nf r5.fst) fun r6 =>
    Option.bind (single_From_f nf r6.fst) fun r7 =>
    l2 l' l'2 l'2 r7.fst 0
def single_Check_b2 (nf : Nat) (l' : List (List (Int × List Int × Unit) × List (Int × Int × Int × Int × Int × Unit) × Int × Int × Int × List Int × Unit)) (l'2 : List (List (Int × List Int × Unit) × List (Int × Int × Int × Int × Int × Unit) × Int × Int × Int × List Int × Unit)) (g2 : List (List (Int × List Int × Unit) × List (Int × Int × Int × Int × Int × Unit) × Int × Int × Int × List Int × Unit) → List (List Int) → Int → Option (Int × Unit)) (l'3 : List (List (Int × List Int × Unit) × List (Int × Int × Int × Int × Int × Unit) × Int × Int × Int × List Int × Unit)) (from' : List (List Int)) (t68 : Int) : Option (Int × Unit) :=
  bif decide (t68 < (↑l'2.length : Int)) then
    bif inb t68 l'2.length then
      bif inb t68 from'.length then
        Option.bind (single_inside_f nf (l'2.getD t68.toNat ([], [], 0, 0, 0, [], ())) ((↑(List.length (from'.getD t68.toNat [])) : Int))) fun r8 =>
        bif r8.fst != 0 then
          some ((r8.fst, ()))
        else
          g2 l'3 from' (IntKind.i64.wrap (t68 + 1))
      else
        none
    else
      none
  else
    some ((0, ()))
def single_Check_p (nf : Nat) (l0 : Int → List (List (Int × List Int × Unit) × List (Int × Int × Int × Int × Int × Unit) × Int × Int × Int × List Int × Unit) → List (List (Int × List Int × Unit) × List (Int × Int × Int × Int × Int × Unit) × Int × Int × Int × List Int × Unit) → Int → Option (Int × Unit)) (vars : Int) (l' : List (List (Int × List Int × Unit) × List (Int × Int × Int × Int × Int × Unit) × Int × Int × Int × List Int × Unit)) : Option (Int × Unit) :=
  Option.bind (single_large_f nf vars l') fun r =>
  bif r.fst then
    some ((1, ()))
  else
    l0 vars l' l' 0
def single_Check_l2 (nf : Nat) (l' : List (List (Int × List Int × Unit) × List (Int × Int × Int × Int × Int × Unit) × Int × Int × Int × List Int × Unit)) (l'2 : List (List (Int × List Int × Unit) × List (Int × Int × Int × Int × Int × Unit) × Int × Int × Int × List Int × Unit)) : Nat → List (List (Int × List Int × Unit) × List (Int × Int × Int × Int × Int × Unit) × Int × Int × Int × List Int × Unit) → List (List Int) → Int → Option (Int × Unit)
  | 0, _, _, _ => none
  | fu + 1, l'3, from', t68 => single_Check_b2 nf  l' l'2  (single_Check_l2 nf l' l'2  fu) l'3 from' t68
def single_Check_l0 (nf : Nat) (vars : Int) (l' : List (List (Int × List Int × Unit) × List (Int × Int × Int × Int × Int × Unit) × Int × Int × Int × List Int × Unit)) : Nat → List (List (Int × List Int × Unit) × List (Int × Int × Int × Int × Int × Unit) × Int × Int × Int × List Int × Unit) → Int → Option (Int × Unit)
  | 0, _, _ => none
  | fu + 1, l'2, t18 => single_Check_b0 nf (fun _ p1 v0 v1 v2 => single_Check_l2 nf l' p1  nf v0 v1 v2) vars l'  (single_Check_l0 nf vars l'  fu) l'2 t18
def single_Check_f (nf : Nat) (vars : Int) (l' : List (List (Int × List Int × Unit) × List (Int × Int × Int × Int × Int × Unit) × Int × Int × Int × List Int × Unit)) : Option (Int × Unit) := single_Check_p nf (fun p0 p1 v0 v1 => single_Check_l0 nf p0 p1 nf v0 v1) vars l'
noncomputable def single_Check_L0 (nf : Nat) : LC (Int × Unit) := theL (findL tab (single_Check_phi nf) (fun _ F => iter nf F) single_Check_keep 0 0 (codeOf Try.f6) (fin tab [(Ty.int IntKind.i64, Md.bor false true)] (resL (none) Try.f6)) (fun _ _ => none) (fin tab [(Ty.int IntKind.i64, Md.bor false true)] (resL (none) Try.f6)))
def single_Check_m0 (vars : Int) (l' : List (List (Int × List Int × Unit) × List (Int × Int × Int × Int × Int × Unit) × Int × Int × Int × List Int × Unit)) (l'2 : List (List (Int × List Int × Unit) × List (Int × Int × Int × Int × Int × Unit) × Int × Int × Int × List Int × Unit)) (t18 : Int) : St := ⟨fresh, [(0, AV.v (Ty.int IntKind.i64) (Md.bor false true) vars), (1, AV.v (((Ty.int IntKind.i64).pair ((Ty.int IntKind.i64).sl.pair Ty.unit)).sl.pair (((Ty.int IntKind.i64).pair ((Ty.int IntKind.i64).pair ((Ty.int IntKind.i64).pair ((Ty.int IntKind.i64).pair ((Ty.int IntKind.i64).pair Ty.unit))))).sl.pair ((Ty.int IntKind.i64).pair ((Ty.int IntKind.i64).pair ((Ty.int IntKind.i64).pair ((Ty.int IntKind.i64).sl.pair Ty.unit)))))).sl (Md.bor true false) l'), (3, AV.box 3 500003 (((Ty.int IntKind.i64).pair ((Ty.int IntKind.i64).sl.pair Ty.unit)).sl.pair (((Ty.int IntKind.i64).pair ((Ty.int IntKind.i64).pair ((Ty.int IntKind.i64).pair ((Ty.int IntKind.i64).pair ((Ty.int IntKind.i64).pair Ty.unit))))).sl.pair ((Ty.int IntKind.i64).pair ((Ty.int IntKind.i64).pair ((Ty.int IntKind.i64).pair ((Ty.int IntKind.i64).sl.pair Ty.unit)))))).sl (Md.bor true false) l'2), (5, AV.clo 15 [AV.pl 3 3 [Stp.dr]]), (15, AV.clo 15 [AV.pl 3 3 [Stp.dr]]), (16, AV.v (((Ty.int IntKind.i64).pair ((Ty.int IntKind.i64).sl.pair Ty.unit)).sl.pair (((Ty.int IntKind.i64).pair ((Ty.int IntKind.i64).pair ((Ty.int IntKind.i64).pair ((Ty.int IntKind.i64).pair ((Ty.int IntKind.i64).pair Ty.unit))))).sl.pair ((Ty.int IntKind.i64).pair ((Ty.int IntKind.i64).pair ((Ty.int IntKind.i64).pair ((Ty.int IntKind.i64).sl.pair Ty.unit)))))).sl (Md.bor true false) l'), (17, AV.v (Ty.int IntKind.i64) (Md.bor false true) (↑l'.length : Int)), (18, AV.v (Ty.int IntKind.i64) (Md.bor false true) t18)]⟩
noncomputable def single_Check_L2 (nf : Nat) : LC (Int × Unit) := theL (findL tab (single_Check_phi nf) (fun _ F => iter nf F) single_Check_keep 2 0 (codeOf Try.f6) (fin tab [(Ty.int IntKind.i64, Md.bor false true)] (resL (none) Try.f6)) (fun _ _ => none) (fin tab [(Ty.int IntKind.i64, Md.bor false true)] (resL (none) Try.f6)))
def single_Check_m2 (l' : List (List (Int × List Int × Unit) × List (Int × Int × Int × Int × Int × Unit) × Int × Int × Int × List Int × Unit)) (l'2 : List (List (Int × List Int × Unit) × List (Int × Int × Int × Int × Int × Unit) × Int × Int × Int × List Int × Unit)) (l'3 : List (List (Int × List Int × Unit) × List (Int × Int × Int × Int × Int × Unit) × Int × Int × Int × List Int × Unit)) (from' : List (List Int)) (t68 : Int) : St := ⟨fresh, [(1, AV.v (((Ty.int IntKind.i64).pair ((Ty.int IntKind.i64).sl.pair Ty.unit)).sl.pair (((Ty.int IntKind.i64).pair ((Ty.int IntKind.i64).pair ((Ty.int IntKind.i64).pair ((Ty.int IntKind.i64).pair ((Ty.int IntKind.i64).pair Ty.unit))))).sl.pair ((Ty.int IntKind.i64).pair ((Ty.int IntKind.i64).pair ((Ty.int IntKind.i64).pair ((Ty.int IntKind.i64).sl.pair Ty.unit)))))).sl (Md.bor true false) l'), (3, AV.box 3 500003 (((Ty.int IntKind.i64).pair ((Ty.int IntKind.i64).sl.pair Ty.unit)).sl.pair (((Ty.int IntKind.i64).pair ((Ty.int IntKind.i64).pair ((Ty.int IntKind.i64).pair ((Ty.int IntKind.i64).pair ((Ty.int IntKind.i64).pair Ty.unit))))).sl.pair ((Ty.int IntKind.i64).pair ((Ty.int IntKind.i64).pair ((Ty.int IntKind.i64).pair ((Ty.int IntKind.i64).sl.pair Ty.unit)))))).sl (Md.bor true false) l'3), (8, AV.ow 500008 (Ty.int IntKind.i64).sl.sl (Md.own false (Md.bor false false)) from'), (65, AV.dead), (66, AV.v (((Ty.int IntKind.i64).pair ((Ty.int IntKind.i64).sl.pair Ty.unit)).sl.pair (((Ty.int IntKind.i64).pair ((Ty.int IntKind.i64).pair ((Ty.int IntKind.i64).pair ((Ty.int IntKind.i64).pair ((Ty.int IntKind.i64).pair Ty.unit))))).sl.pair ((Ty.int IntKind.i64).pair ((Ty.int IntKind.i64).pair ((Ty.int IntKind.i64).pair ((Ty.int IntKind.i64).sl.pair Ty.unit)))))).sl (Md.bor true false) l'2), (67, AV.v (Ty.int IntKind.i64) (Md.bor false true) (↑l'2.length : Int)), (68, AV.v (Ty.int IntKind.i64) (Md.bor false true) t68)]⟩
theorem single_Check_h2 (nf : Nat)  (l' : List (List (Int × List Int × Unit) × List (Int × Int × Int × Int × Int × Unit) × Int × Int × Int × List Int × Unit)) (l'2 : List (List (Int × List Int × Unit) × List (Int × Int × Int × Int × Int × Unit) × Int × Int × Int × List Int × Unit)) (fu : Nat) (l'3 : List (List (Int × List Int × Unit) × List (Int × Int × Int × Int × Int × Unit) × Int × Int × Int × List Int × Unit)) (from' : List (List Int)) (t68 : Int) : iter (fu + 1) (LC.F tab (single_Check_phi nf) (fun _ F => iter nf F) single_Check_keep 2 (single_Check_L2 nf )) (single_Check_m2 l' l'2 l'3 from' t68) = single_Check_b2 nf  l' l'2  (fun l'3 from' t68 => iter fu (LC.F tab (single_Check_phi nf) (fun _ F => iter nf F) single_Check_keep 2 (single_Check_L2 nf )) (single_Check_m2 l' l'2 l'3 from' t68)) l'3 from' t68 := by kernel_rfl
theorem single_Check_e2 (nf : Nat)  (l' : List (List (Int × List Int × Unit) × List (Int × Int × Int × Int × Int × Unit) × Int × Int × Int × List Int × Unit)) (l'2 : List (List (Int × List Int × Unit) × List (Int × Int × Int × Int × Int × Unit) × Int × Int × Int × List Int × Unit)) : ∀ (fu : Nat) (l'3 : List (List (Int × List Int × Unit) × List (Int × Int × Int × Int × Int × Unit) × Int × Int × Int × List Int × Unit)) (from' : List (List Int)) (t68 : Int), iter fu (LC.F tab (single_Check_phi nf) (fun _ F => iter nf F) single_Check_keep 2 (single_Check_L2 nf )) (single_Check_m2 l' l'2 l'3 from' t68) = single_Check_l2 nf l' l'2  fu l'3 from' t68 := by
  intro fu
  induction fu with
  | zero => intros; rfl
  | succ fu ih =>
    intro l'3 from' t68
    rw [single_Check_h2 nf  l' l'2 fu l'3 from' t68]
    simp only [ih]
    rfl
theorem single_Check_h0 (nf : Nat)  (vars : Int) (l' : List (List (Int × List Int × Unit) × List (Int × Int × Int × Int × Int × Unit) × Int × Int × Int × List Int × Unit)) (fu : Nat) (l'2 : List (List (Int × List Int × Unit) × List (Int × Int × Int × Int × Int × Unit) × Int × Int × Int × List Int × Unit)) (t18 : Int) : iter (fu + 1) (LC.F tab (single_Check_phi nf) (fun _ F => iter nf F) single_Check_keep 0 (single_Check_L0 nf )) (single_Check_m0 vars l' l'2 t18) = single_Check_b0 nf (fun _ p1 v0 v1 v2 => iter nf (LC.F tab (single_Check_phi nf) (fun _ F => iter nf F) single_Check_keep 2 (single_Check_L2 nf )) (single_Check_m2 l' p1 v0 v1 v2)) vars l'  (fun l'2 t18 => iter fu (LC.F tab (single_Check_phi nf) (fun _ F => iter nf F) single_Check_keep 0 (single_Check_L0 nf )) (single_Check_m0 vars l' l'2 t18)) l'2 t18 := by kernel_rfl
theorem single_Check_e0 (nf : Nat)  (vars : Int) (l' : List (List (Int × List Int × Unit) × List (Int × Int × Int × Int × Int × Unit) × Int × Int × Int × List Int × Unit)) : ∀ (fu : Nat) (l'2 : List (List (Int × List Int × Unit) × List (Int × Int × Int × Int × Int × Unit) × Int × Int × Int × List Int × Unit)) (t18 : Int), iter fu (LC.F tab (single_Check_phi nf) (fun _ F => iter nf F) single_Check_keep 0 (single_Check_L0 nf )) (single_Check_m0 vars l' l'2 t18) = single_Check_l0 nf vars l'  fu l'2 t18 := by
  intro fu
  induction fu with
  | zero => intros; rfl
  | succ fu ih =>
    intro l'2 t18
    rw [single_Check_h0 nf  vars l' fu l'2 t18]
    simp only [ih, single_Check_e2]
    rfl
theorem single_Check_eq (nf : Nat) (vars : Int) (l' : List (List (Int × List Int × Unit) × List (Int × Int × Int × Int × Int × Unit) × Int × Int × Int × List Int × Unit)) : runF tab (single_Check_phi nf) single_Check_keep nf [PT.val (Ty.int IntKind.i64) (Md.bor true false), PT.val (((Ty.int IntKind.i64).pair ((Ty.int IntKind.i64).sl.pair Ty.unit)).sl.pair (((Ty.int IntKind.i64).pair ((Ty.int IntKind.i64).pair ((Ty.int IntKind.i64).pair ((Ty.int IntKind.i64).pair ((Ty.int IntKind.i64).pair Ty.unit))))).sl.pair ((Ty.int IntKind.i64).pair ((Ty.int IntKind.i64).pair ((Ty.int IntKind.i64).pair ((Ty.int IntKind.i64).sl.pair Ty.unit)))))).sl (Md.bor true false)] [(Ty.int IntKind.i64, Md.bor false true)] (resL (none) Try.f6) (codeOf Try.f6) ⟨vars, l', ()⟩ = single_Check_f nf vars l' := by
  have h : runF tab (single_Check_phi nf) single_Check_keep nf [PT.val (Ty.int IntKind.i64) (Md.bor true false), PT.val (((Ty.int IntKind.i64).pair ((Ty.int IntKind.i64).sl.pair Ty.unit)).sl.pair (((Ty.int IntKind.i64).pair ((Ty.int IntKind.i64).pair ((Ty.int IntKind.i64).pair ((Ty.int IntKind.i64).pair ((Ty.int IntKind.i64).pair Ty.unit))))).sl.pair ((Ty.int IntKind.i64).pair ((Ty.int IntKind.i64).pair ((Ty.int IntKind.i64).pair ((Ty.int IntKind.i64).sl.pair Ty.unit)))))).sl (Md.bor true false)] [(Ty.int IntKind.i64, Md.bor false true)] (resL (none) Try.f6) (codeOf Try.f6) ⟨vars, l', ()⟩ = single_Check_p nf (fun p0 p1 v0 v1 => iter nf (LC.F tab (single_Check_phi nf) (fun _ F => iter nf F) single_Check_keep 0 (single_Check_L0 nf)) (single_Check_m0 p0 p1 v0 v1)) vars l' := by kernel_rfl
  rw [h]
  simp only [single_Check_e0]
  rfl
def single_Check_F (nf : Nat) (x : denPs [.val (.int .i64) (.bor true false), .val (.sl (.pair (.sl (.pair (.int .i64) (.pair (.sl (.int .i64)) (.unit)))) (.pair (.sl (.pair (.int .i64) (.pair (.int .i64) (.pair (.int .i64) (.pair (.int .i64) (.pair (.int .i64) (.unit))))))) (.pair (.int .i64) (.pair (.int .i64) (.pair (.int .i64) (.pair (.sl (.int .i64)) (.unit)))))))) (.bor true false)]) : Option (denL [(.int .i64, .bor false true)]) := single_Check_f nf x.1 x.2.1
def single_Check_C (nf : Nat) : Contract := ⟨[.val (.int .i64) (.bor true false), .val (.sl (.pair (.sl (.pair (.int .i64) (.pair (.sl (.int .i64)) (.unit)))) (.pair (.sl (.pair (.int .i64) (.pair (.int .i64) (.pair (.int .i64) (.pair (.int .i64) (.pair (.int .i64) (.unit))))))) (.pair (.int .i64) (.pair (.int .i64) (.pair (.int .i64) (.pair (.sl (.int .i64)) (.unit)))))))) (.bor true false)], [(.int .i64, .bor false true)], single_Check_F nf, none⟩
theorem single_Check_ok : FnOK Try.prog 6 := ⟨Try.f6, codeOf Try.f6, Try.func6, by kernel_rfl, by kernel_rfl⟩
theorem single_Check_holds (nf : Nat) : Contract.Holds Try.prog 6 (single_Check_C nf) :=
  fn_holds (Φ := single_Check_phi nf) (keep := single_Check_keep) (n := nf) ⟨tabs.1, tabs.2, (ctx_cons single_large_ok (single_large_holds nf) (ctx_cons single_Check_1_ok (single_Check_1_holds nf) (ctx_cons single_From_ok (single_From_holds nf) (ctx_cons block_Next_ok (block_Next_holds nf) (ctx_cons single_bare_ok (single_bare_holds nf) (ctx_cons single_inside_ok (single_inside_holds nf) ctx_nil)))))), mixed⟩ (fn := Try.f6) ⟨Try.func6, by kernel_rfl, by kernel_rfl, by kernel_rfl⟩ (fun x => single_Check_eq nf x.1 x.2.1)

/-! codemason codemasonref.Inside -/
def ref_Inside_phi (nf : Nat) : Nat → Option Contract := lookC []
def ref_Inside_keep : Nat → List Nat := lookK [(0, [0, 1, 7, 8, 9])]
def ref_Inside_b0 (nf : Nat) (n' : Int) (l' : List Int) (g0 : Int → Option (Bool × Unit)) (t9 : Int) : Option (Bool × Unit) :=
  bif decide (t9 < (↑l'.length : Int)) then
    bif inb t9 l'.length then
      bif decide (l'.getD t9.toNat 0 < 0) then
        some ((false, ()))
      else
        bif decide (l'.getD t9.toNat 0 ≥ n') then
          some ((false, ()))
        else
          g0 (IntKind.i64.wrap (t9 + 1))
    else
      none
  else
    some ((true, ()))
def ref_Inside_p (nf : Nat) (l0 : Int → List Int → Int → Option (Bool × Unit)) (n' : Int) (l' : List Int) : Option (Bool × Unit) :=
  l0 n' l' 0
def ref_Inside_l0 (nf : Nat) (n' : Int) (l' : List Int) : Nat → Int → Option (Bool × Unit)
  | 0, _ => none
  | fu + 1, t9 => ref_Inside_b0 nf  n' l'  (ref_Inside_l0 nf n' l'  fu) t9
def ref_Inside_f (nf : Nat) (n' : Int) (l' : List Int) : Option (Bool × Unit) := ref_Inside_p nf (fun p0 p1 v0 => ref_Inside_l0 nf p0 p1 nf v0) n' l'
noncomputable def ref_Inside_L0 (nf : Nat) : LC (Bool × Unit) := theL (findL tab (ref_Inside_phi nf) (fun _ F => iter nf F) ref_Inside_keep 0 0 (codeOf Try.f20) (fin tab [(Ty.bool, Md.bor false true)] (resL (none) Try.f20)) (fun _ _ => none) (fin tab [(Ty.bool, Md.bor false true)] (resL (none) Try.f20)))
def ref_Inside_m0 (n' : Int) (l' : List Int) (t9 : Int) : St := ⟨fresh, [(0, AV.v (Ty.int IntKind.i64) (Md.bor false true) n'), (1, AV.v (Ty.int IntKind.i64).sl (Md.bor true false) l'), (7, AV.v (Ty.int IntKind.i64).sl (Md.bor true false) l'), (8, AV.v (Ty.int IntKind.i64) (Md.bor false true) (↑l'.length : Int)), (9, AV.v (Ty.int IntKind.i64) (Md.bor false true) t9)]⟩
theorem ref_Inside_h0 (nf : Nat)  (n' : Int) (l' : List Int) (fu : Nat) (t9 : Int) : iter (fu + 1) (LC.F tab (ref_Inside_phi nf) (fun _ F => iter nf F) ref_Inside_keep 0 (ref_Inside_L0 nf )) (ref_Inside_m0 n' l' t9) = ref_Inside_b0 nf  n' l'  (fun t9 => iter fu (LC.F tab (ref_Inside_phi nf) (fun _ F => iter nf F) ref_Inside_keep 0 (ref_Inside_L0 nf )) (ref_Inside_m0 n' l' t9)) t9 := by kernel_rfl
theorem ref_Inside_e0 (nf : Nat)  (n' : Int) (l' : List Int) : ∀ (fu : Nat) (t9 : Int), iter fu (LC.F tab (ref_Inside_phi nf) (fun _ F => iter nf F) ref_Inside_keep 0 (ref_Inside_L0 nf )) (ref_Inside_m0 n' l' t9) = ref_Inside_l0 nf n' l'  fu t9 := by
  intro fu
  induction fu with
  | zero => intros; rfl
  | succ fu ih =>
    intro t9
    rw [ref_Inside_h0 nf  n' l' fu t9]
    simp only [ih]
    rfl
theorem ref_Inside_eq (nf : Nat) (n' : Int) (l' : List Int) : runF tab (ref_Inside_phi nf) ref_Inside_keep nf [PT.val (Ty.int IntKind.i64) (Md.bor true false), PT.val (Ty.int IntKind.i64).sl (Md.bor true false)] [(Ty.bool, Md.bor false true)] (resL (none) Try.f20) (codeOf Try.f20) ⟨n', l', ()⟩ = ref_Inside_f nf n' l' := by
  have h : runF tab (ref_Inside_phi nf) ref_Inside_keep nf [PT.val (Ty.int IntKind.i64) (Md.bor true false), PT.val (Ty.int IntKind.i64).sl (Md.bor true false)] [(Ty.bool, Md.bor false true)] (resL (none) Try.f20) (codeOf Try.f20) ⟨n', l', ()⟩ = ref_Inside_p nf (fun p0 p1 v0 => iter nf (LC.F tab (ref_Inside_phi nf) (fun _ F => iter nf F) ref_Inside_keep 0 (ref_Inside_L0 nf)) (ref_Inside_m0 p0 p1 v0)) n' l' := by kernel_rfl
  rw [h]
  simp only [ref_Inside_e0]
  rfl
def ref_Inside_F (nf : Nat) (x : denPs [.val (.int .i64) (.bor true false), .val (.sl (.int .i64)) (.bor true false)]) : Option (denL [(.bool, .bor false true)]) := ref_Inside_f nf x.1 x.2.1
def ref_Inside_C (nf : Nat) : Contract := ⟨[.val (.int .i64) (.bor true false), .val (.sl (.int .i64)) (.bor true false)], [(.bool, .bor false true)], ref_Inside_F nf, none⟩
theorem ref_Inside_ok : FnOK Try.prog 20 := ⟨Try.f20, codeOf Try.f20, Try.func20, by kernel_rfl, by kernel_rfl⟩
theorem ref_Inside_holds (nf : Nat) : Contract.Holds Try.prog 20 (ref_Inside_C nf) :=
  fn_holds (Φ := ref_Inside_phi nf) (keep := ref_Inside_keep) (n := nf) ⟨tabs.1, tabs.2, ctx_nil, mixed⟩ (fn := Try.f20) ⟨Try.func20, by kernel_rfl, by kernel_rfl, by kernel_rfl⟩ (fun x => ref_Inside_eq nf x.1 x.2.1)

/-! codemason codemasonref.Has -/
def ref_Has_phi (nf : Nat) : Nat → Option Contract := lookC []
def ref_Has_keep : Nat → List Nat := lookK [(0, [0, 1, 7, 8, 9])]
def ref_Has_b0 (nf : Nat) (l' : List Int) (x : Int) (g0 : Int → Option (Bool × Unit)) (t9 : Int) : Option (Bool × Unit) :=
  bif decide (t9 < (↑l'.length : Int)) then
    bif inb t9 l'.length then
      bif x == l'.getD t9.toNat 0 then
        some ((true, ()))
      else
        g0 (IntKind.i64.wrap (t9 + 1))
    else
      none
  else
    some ((false, ()))
def ref_Has_p (nf : Nat) (l0 : List Int → Int → Int → Option (Bool × Unit)) (l' : List Int) (x : Int) : Option (Bool × Unit) :=
  l0 l' x 0
def ref_Has_l0 (nf : Nat) (l' : List Int) (x : Int) : Nat → Int → Option (Bool × Unit)
  | 0, _ => none
  | fu + 1, t9 => ref_Has_b0 nf  l' x  (ref_Has_l0 nf l' x  fu) t9
def ref_Has_f (nf : Nat) (l' : List Int) (x : Int) : Option (Bool × Unit) := ref_Has_p nf (fun p0 p1 v0 => ref_Has_l0 nf p0 p1 nf v0) l' x
noncomputable def ref_Has_L0 (nf : Nat) : LC (Bool × Unit) := theL (findL tab (ref_Has_phi nf) (fun _ F => iter nf F) ref_Has_keep 0 0 (codeOf Try.f38) (fin tab [(Ty.bool, Md.bor false true)] (resL (none) Try.f38)) (fun _ _ => none) (fin tab [(Ty.bool, Md.bor false true)] (resL (none) Try.f38)))
def ref_Has_m0 (l' : List Int) (x : Int) (t9 : Int) : St := ⟨fresh, [(0, AV.v (Ty.int IntKind.i64).sl (Md.bor true false) l'), (1, AV.v (Ty.int IntKind.i64) (Md.bor false true) x), (7, AV.v (Ty.int IntKind.i64).sl (Md.bor true false) l'), (8, AV.v (Ty.int IntKind.i64) (Md.bor false true) (↑l'.length : Int)), (9, AV.v (Ty.int IntKind.i64) (Md.bor false true) t9)]⟩
theorem ref_Has_h0 (nf : Nat)  (l' : List Int) (x : Int) (fu : Nat) (t9 : Int) : iter (fu + 1) (LC.F tab (ref_Has_phi nf) (fun _ F => iter nf F) ref_Has_keep 0 (ref_Has_L0 nf )) (ref_Has_m0 l' x t9) = ref_Has_b0 nf  l' x  (fun t9 => iter fu (LC.F tab (ref_Has_phi nf) (fun _ F => iter nf F) ref_Has_keep 0 (ref_Has_L0 nf )) (ref_Has_m0 l' x t9)) t9 := by kernel_rfl
theorem ref_Has_e0 (nf : Nat)  (l' : List Int) (x : Int) : ∀ (fu : Nat) (t9 : Int), iter fu (LC.F tab (ref_Has_phi nf) (fun _ F => iter nf F) ref_Has_keep 0 (ref_Has_L0 nf )) (ref_Has_m0 l' x t9) = ref_Has_l0 nf l' x  fu t9 := by
  intro fu
  induction fu with
  | zero => intros; rfl
  | succ fu ih =>
    intro t9
    rw [ref_Has_h0 nf  l' x fu t9]
    simp only [ih]
    rfl
theorem ref_Has_eq (nf : Nat) (l' : List Int) (x : Int) : runF tab (ref_Has_phi nf) ref_Has_keep nf [PT.val (Ty.int IntKind.i64).sl (Md.bor true false), PT.val (Ty.int IntKind.i64) (Md.bor true false)] [(Ty.bool, Md.bor false true)] (resL (none) Try.f38) (codeOf Try.f38) ⟨l', x, ()⟩ = ref_Has_f nf l' x := by
  have h : runF tab (ref_Has_phi nf) ref_Has_keep nf [PT.val (Ty.int IntKind.i64).sl (Md.bor true false), PT.val (Ty.int IntKind.i64) (Md.bor true false)] [(Ty.bool, Md.bor false true)] (resL (none) Try.f38) (codeOf Try.f38) ⟨l', x, ()⟩ = ref_Has_p nf (fun p0 p1 v0 => iter nf (LC.F tab (ref_Has_phi nf) (fun _ F => iter nf F) ref_Has_keep 0 (ref_Has_L0 nf)) (ref_Has_m0 p0 p1 v0)) l' x := by kernel_rfl
  rw [h]
  simp only [ref_Has_e0]
  rfl
def ref_Has_F (nf : Nat) (x : denPs [.val (.sl (.int .i64)) (.bor true false), .val (.int .i64) (.bor true false)]) : Option (denL [(.bool, .bor false true)]) := ref_Has_f nf x.1 x.2.1
def ref_Has_C (nf : Nat) : Contract := ⟨[.val (.sl (.int .i64)) (.bor true false), .val (.int .i64) (.bor true false)], [(.bool, .bor false true)], ref_Has_F nf, none⟩
theorem ref_Has_ok : FnOK Try.prog 38 := ⟨Try.f38, codeOf Try.f38, Try.func38, by kernel_rfl, by kernel_rfl⟩
theorem ref_Has_holds (nf : Nat) : Contract.Holds Try.prog 38 (ref_Has_C nf) :=
  fn_holds (Φ := ref_Has_phi nf) (keep := ref_Has_keep) (n := nf) ⟨tabs.1, tabs.2, ctx_nil, mixed⟩ (fn := Try.f38) ⟨Try.func38, by kernel_rfl, by kernel_rfl, by kernel_rfl⟩ (fun x => ref_Has_eq nf x.1 x.2.1)

/-! codemason codemasonref.Turned -/
def ref_Turned_tab : Tab := ⟨lookT [(2, .int .i64), (3, .int .i64), (4, .bool), (5, .int .u8), (6, .int .u8), (7, .pair (.int .i64) (.pair (.int .i64) (.pair (.bool) (.pair (.int .u8) (.unit))))), (8, .pair (.int .i64) (.pair (.int .i64) (.pair (.bool) (.pair (.int .u8) (.unit))))), (12, .int .u64), (21, .int .i32), (22, .sl (.pair (.sl (.pair (.int .i64) (.pair (.sl (.int .i64)) (.unit)))) (.pair (.sl (.pair (.int .i64) (.pair (.int .i64) (.pair (.int .i64) (.pair (.int .i64) (.pair (.int .i64) (.unit))))))) (.pair (.int .i64) (.pair (.int .i64) (.pair (.int .i64) (.pair (.sl (.int .i64)) (.unit)))))))), (23, .int .i64), (26, .sl (.int .i64)), (37, .sl (.pair (.int .i64) (.pair (.sl (.int .i64)) (.unit)))), (38, .sl (.pair (.int .i64) (.pair (.int .i64) (.pair (.int .i64) (.pair (.int .i64) (.pair (.int .i64) (.unit))))))), (39, .pair (.sl (.pair (.int .i64) (.pair (.sl (.int .i64)) (.unit)))) (.pair (.sl (.pair (.int .i64) (.pair (.int .i64) (.pair (.int .i64) (.pair (.int .i64) (.pair (.int .i64) (.unit))))))) (.pair (.int .i64) (.pair (.int .i64) (.pair (.int .i64) (.pair (.sl (.int .i64)) (.unit))))))), (40, .pair (.sl (.pair (.int .i64) (.pair (.sl (.int .i64)) (.unit)))) (.pair (.sl (.pair (.int .i64) (.pair (.int .i64) (.pair (.int .i64) (.pair (.int .i64) (.pair (.int .i64) (.unit))))))) (.pair (.int .i64) (.pair (.int .i64) (.pair (.int .i64) (.pair (.sl (.int .i64)) (.unit))))))), (41, .sl (.sl (.int .i64))), (44, .sl (.pair (.sl (.pair (.int .i64) (.pair (.int .i64) (.pair (.int .i64) (.pair (.int .i64) (.pair (.int .i64) (.unit))))))) (.pair (.int .i64) (.pair (.int .i64) (.pair (.int .i64) (.unit)))))), (48, .pair (.int .i64) (.pair (.sl (.int .i64)) (.unit))), (49, .pair (.int .i64) (.pair (.sl (.int .i64)) (.unit))), (50, .pair (.int .i64) (.pair (.int .i64) (.pair (.int .i64) (.pair (.int .i64) (.pair (.int .i64) (.unit)))))), (51, .pair (.int .i64) (.pair (.int .i64) (.pair (.int .i64) (.pair (.int .i64) (.pair (.int .i64) (.unit)))))), (59, .sl (.int .u32)), (61, .pair (.int .i64) (.pair (.int .i64) (.unit))), (63, .int .u32), (70, .pair (.sl (.pair (.int .i64) (.pair (.int .i64) (.pair (.int .i64) (.pair (.int .i64) (.pair (.int .i64) (.unit))))))) (.pair (.int .i64) (.pair (.int .i64) (.pair (.int .i64) (.unit))))), (71, .pair (.sl (.pair (.int .i64) (.pair (.int .i64) (.pair (.int .i64) (.pair (.int .i64) (.pair (.int .i64) (.unit))))))) (.pair (.int .i64) (.pair (.int .i64) (.pair (.int .i64) (.unit))))), (85, .int .u8), (86, .int .u8), (89, .int .i32), (90, .int .i32)], lookM [(2, .bor false true), (3, .bor false true), (4, .bor false true), (5, .bor false true), (6, .bor false true), (7, .bor false true), (8, .bor false true), (12, .bor false true), (21, .bor false true), (22, .own false (.bor false false)), (23, .bor false true), (26, .own false (.bor false false)), (37, .own false (.bor false false)), (38, .own false (.bor false false)), (39, .bor true false), (40, .bor true false), (41, .own false (.own true (.bor false true))), (44, .own false (.bor false false)), (48, .bor true false), (49, .bor true false), (50, .bor false true), (51, .bor false true), (59, .own false (.bor false false)), (61, .bor false true), (63, .bor false true), (70, .bor true false), (71, .bor true false), (85, .bor false true), (86, .bor false true), (89, .bor false true), (90, .bor false true)], hasT [61, 81], hasT [9, 10, 11]⟩
theorem ref_Turned_tabs : TabOK Try.prog ref_Turned_tab ∧ EqOK Try.prog ref_Turned_tab := tab_ok (by kernel_rfl) (by kernel_rfl)
def ref_Turned_phi (nf : Nat) : Nat → Option Contract := lookC [(38, ref_Has_C nf)]
def ref_Turned_keep : Nat → List Nat := lookK [(2, [0, 3, 4, 5, 8]), (0, [0, 3, 4, 8])]
def ref_Turned_b0 (nf : Nat) (l2 : List (List Int) → Int → List (List Int) → Int → Option (List (List Int) × Unit)) (next : List (List Int)) (g0 : List (List Int) → Int → Option (List (List Int) × Unit)) (out : List (List Int)) (j : Int) : Option (List (List Int) × Unit) :=
  bif decide (j < (↑next.length : Int)) then
    l2 next j out 0
  else
    some ((out, ()))
def ref_Turned_b2 (nf : Nat) (next : List (List Int)) (j : Int) (g0 : List (List Int) → Int → Option (List (List Int) × Unit)) (g2 : List (List Int) → Int → Option (List (List Int) × Unit)) (out2 : List (List Int)) (i : Int) : Option (List (List Int) × Unit) :=
  bif decide (i < (↑next.length : Int)) then
    bif inb i next.length then
      Option.bind (ref_Has_f nf (next.getD i.toNat []) j) fun r =>
      bif r.fst then
        bif inb j out2.length then
          bif ![i].isEmpty && (List.length (out2.getD j.toNat []) + [i].length).ble lim then
            bif inb j out2.length then
              bif decide ([Stp.el j.toNat] = [] ++ [Stp.el j.toNat]) then
                g2 (out2.set j.toNat (out2.getD j.toNat [] ++ [i])) (IntKind.i64.wrap (i + 1))
              else
                none
            else
              none
          else
            none
        else
          none
      else
        g2 out2 (IntKind.i64.wrap (i + 1))
    else
      none
  else
    g0 out2 (IntKind.i64.wrap (j + 1))
def ref_Turned_p (nf : Nat) (l0 : List (List Int) → List (List Int) → Int → Option (List (List Int) × Unit)) (next : List (List Int)) : Option (List (List Int) × Unit) :=
  bif decide (0 ≤ (↑next.length : Int)) && decide ((↑next.length : Int) ≤ (↑next.length : Int)) && decide ((↑next.length : Int) ≤ (↑lim : Int)) then
    l0 next (List.replicate (↑next.length : Int).toNat []) 0
  else
    none
def ref_Turned_l2 (nf : Nat) (next : List (List Int)) (j : Int) (g0 : List (List Int) → Int → Option (List (List Int) × Unit)) : Nat → List (List Int) → Int → Option (List (List Int) × Unit)
  | 0, _, _ => none
  | fu + 1, out2, i => ref_Turned_b2 nf  next j g0 (ref_Turned_l2 nf next j g0 fu) out2 i
def ref_Turned_l0 (nf : Nat) (next : List (List Int)) : Nat → List (List Int) → Int → Option (List (List Int) × Unit)
  | 0, _, _ => none
  | fu + 1, out, j => ref_Turned_b0 nf (fun _ p1 v0 v1 => ref_Turned_l2 nf next p1 (fun out j => ref_Turned_l0 nf next  fu out j) nf v0 v1) next  (ref_Turned_l0 nf next  fu) out j
def ref_Turned_f (nf : Nat) (next : List (List Int)) : Option (List (List Int) × Unit) := ref_Turned_p nf (fun p0 v0 v1 => ref_Turned_l0 nf p0 nf v0 v1) next
noncomputable def ref_Turned_L0 (nf : Nat) : LC (List (List Int) × Unit) := theL (findL ref_Turned_tab (ref_Turned_phi nf) (fun _ F => iter nf F) ref_Turned_keep 0 0 (codeOf Try.f41) (fin ref_Turned_tab [((Ty.int IntKind.i64).sl.sl, Md.own false (Md.bor false false))] (resL (none) Try.f41)) (fun _ _ => none) (fin ref_Turned_tab [((Ty.int IntKind.i64).sl.sl, Md.own false (Md.bor false false))] (resL (none) Try.f41)))
def ref_Turned_m0 (next : List (List Int)) (out : List (List Int)) (j : Int) : St := ⟨fresh, [(0, AV.v (Ty.int IntKind.i64).sl.sl (Md.bor true false) next), (3, AV.ow 500003 (Ty.int IntKind.i64).sl.sl (Md.own false (Md.own true (Md.bor false true))) out), (4, AV.v (Ty.int IntKind.i64) (Md.bor false true) j), (8, AV.dead)]⟩
noncomputable def ref_Turned_L2 (nf : Nat) (G0 : St → Option (List (List Int) × Unit)) : LC (List (List Int) × Unit) := theL (findL ref_Turned_tab (ref_Turned_phi nf) (fun _ F => iter nf F) ref_Turned_keep 2 0 (ref_Turned_L0 nf ).c (fun st => norm (ref_Turned_keep 0) st G0) (ref_Turned_L0 nf ).Kx (ref_Turned_L0 nf ).Kr)
def ref_Turned_m2 (next : List (List Int)) (j : Int) (out2 : List (List Int)) (i : Int) : St := ⟨fresh, [(0, AV.v (Ty.int IntKind.i64).sl.sl (Md.bor true false) next), (3, AV.ow 500003 (Ty.int IntKind.i64).sl.sl (Md.own false (Md.own true (Md.bor false true))) out2), (4, AV.v (Ty.int IntKind.i64) (Md.bor false true) j), (5, AV.v (Ty.int IntKind.i64) (Md.bor false true) i), (8, AV.dead)]⟩
theorem ref_Turned_h2 (nf : Nat) (G0 : St → Option (List (List Int) × Unit)) (next : List (List Int)) (j : Int) (fu : Nat) (out2 : List (List Int)) (i : Int) : iter (fu + 1) (LC.F ref_Turned_tab (ref_Turned_phi nf) (fun _ F => iter nf F) ref_Turned_keep 2 (ref_Turned_L2 nf G0)) (ref_Turned_m2 next j out2 i) = ref_Turned_b2 nf  next j (fun out j => G0 (ref_Turned_m0 next out j)) (fun out2 i => iter fu (LC.F ref_Turned_tab (ref_Turned_phi nf) (fun _ F => iter nf F) ref_Turned_keep 2 (ref_Turned_L2 nf G0)) (ref_Turned_m2 next j out2 i)) out2 i := by kernel_rfl
theorem ref_Turned_e2 (nf : Nat) (G0 : St → Option (List (List Int) × Unit)) (next : List (List Int)) (j : Int) : ∀ (fu : Nat) (out2 : List (List Int)) (i : Int), iter fu (LC.F ref_Turned_tab (ref_Turned_phi nf) (fun _ F => iter nf F) ref_Turned_keep 2 (ref_Turned_L2 nf G0)) (ref_Turned_m2 next j out2 i) = ref_Turned_l2 nf next j (fun out j => G0 (ref_Turned_m0 next out j)) fu out2 i := by
  intro fu
  induction fu with
  | zero => intros; rfl
  | succ fu ih =>
    intro out2 i
    rw [ref_Turned_h2 nf G0 next j fu out2 i]
    simp only [ih]
    rfl
theorem ref_Turned_h0 (nf : Nat)  (next : List (List Int)) (fu : Nat) (out : List (List Int)) (j : Int) : iter (fu + 1) (LC.F ref_Turned_tab (ref_Turned_phi nf) (fun _ F => iter nf F) ref_Turned_keep 0 (ref_Turned_L0 nf )) (ref_Turned_m0 next out j) = ref_Turned_b0 nf (fun _ p1 v0 v1 => iter nf (LC.F ref_Turned_tab (ref_Turned_phi nf) (fun _ F => iter nf F) ref_Turned_keep 2 (ref_Turned_L2 nf (iter fu (LC.F ref_Turned_tab (ref_Turned_phi nf) (fun _ F => iter nf F) ref_Turned_keep 0 (ref_Turned_L0 nf ))))) (ref_Turned_m2 next p1 v0 v1)) next  (fun out j => iter fu (LC.F ref_Turned_tab (ref_Turned_phi nf) (fun _ F => iter nf F) ref_Turned_keep 0 (ref_Turned_L0 nf )) (ref_Turned_m0 next out j)) out j := by kernel_rfl
theorem ref_Turned_e0 (nf : Nat)  (next : List (List Int)) : ∀ (fu : Nat) (out : List (List Int)) (j : Int), iter fu (LC.F ref_Turned_tab (ref_Turned_phi nf) (fun _ F => iter nf F) ref_Turned_keep 0 (ref_Turned_L0 nf )) (ref_Turned_m0 next out j) = ref_Turned_l0 nf next  fu out j := by
  intro fu
  induction fu with
  | zero => intros; rfl
  | succ fu ih =>
    intro out j
    rw [ref_Turned_h0 nf  next fu out j]
    simp only [ih, ref_Turned_e2]
    rfl
theorem ref_Turned_eq (nf : Nat) (next : List (List Int)) : runF ref_Turned_tab (ref_Turned_phi nf) ref_Turned_keep nf [PT.val (Ty.int IntKind.i64).sl.sl (Md.bor true false)] [((Ty.int IntKind.i64).sl.sl, Md.own false (Md.bor false false))] (resL (none) Try.f41) (codeOf Try.f41) ⟨next, ()⟩ = ref_Turned_f nf next := by
  have h : runF ref_Turned_tab (ref_Turned_phi nf) ref_Turned_keep nf [PT.val (Ty.int IntKind.i64).sl.sl (Md.bor true false)] [((Ty.int IntKind.i64).sl.sl, Md.own false (Md.bor false false))] (resL (none) Try.f41) (codeOf Try.f41) ⟨next, ()⟩ = ref_Turned_p nf (fun p0 v0 v1 => iter nf (LC.F ref_Turned_tab (ref_Turned_phi nf) (fun _ F => iter nf F) ref_Turned_keep 0 (ref_Turned_L0 nf)) (ref_Turned_m0 p0 v0 v1)) next := by kernel_rfl
  rw [h]
  simp only [ref_Turned_e0]
  rfl
def ref_Turned_F (nf : Nat) (x : denPs [.val (.sl (.sl (.int .i64))) (.bor true false)]) : Option (denL [(.sl (.sl (.int .i64)), .own false (.bor false false))]) := ref_Turned_f nf x.1
def ref_Turned_C (nf : Nat) : Contract := ⟨[.val (.sl (.sl (.int .i64))) (.bor true false)], [(.sl (.sl (.int .i64)), .own false (.bor false false))], ref_Turned_F nf, none⟩
theorem ref_Turned_ok : FnOK Try.prog 41 := ⟨Try.f41, codeOf Try.f41, Try.func41, by kernel_rfl, by kernel_rfl⟩
theorem ref_Turned_holds (nf : Nat) : Contract.Holds Try.prog 41 (ref_Turned_C nf) :=
  fn_holds (Φ := ref_Turned_phi nf) (keep := ref_Turned_keep) (n := nf) ⟨ref_Turned_tabs.1, ref_Turned_tabs.2, (ctx_cons ref_Has_ok (ref_Has_holds nf) ctx_nil), mixed⟩ (fn := Try.f41) ⟨Try.func41, by kernel_rfl, by kernel_rfl, by kernel_rfl⟩ (fun x => ref_Turned_eq nf x.1)

/-! codemason codemasonref.Froms -/
def ref_Froms_phi (nf : Nat) : Nat → Option Contract := lookC [(41, ref_Turned_C nf)]
def ref_Froms_keep : Nat → List Nat := lookK []
def ref_Froms_p (nf : Nat)  (next : List (List Int)) : Option (List (List Int) × Unit) :=
  Option.bind (ref_Turned_f nf next) fun r =>
  bif inb 0 (List.length r.fst) then
    bif bimp false !List.isEmpty (List.getD r.fst 0 []) && ([-1].length + List.length (List.getD r.fst 0 [])).ble lim then
      bif inb 0 (List.length r.fst) then
        some ((List.set r.fst 0 ([-1] ++ List.getD r.fst 0 []), ()))
      else
        none
    else
      none
  else
    none
def ref_Froms_f (nf : Nat) (next : List (List Int)) : Option (List (List Int) × Unit) := ref_Froms_p nf  next
theorem ref_Froms_eq (nf : Nat) (next : List (List Int)) : runF tab (ref_Froms_phi nf) ref_Froms_keep nf [PT.val (Ty.int IntKind.i64).sl.sl (Md.bor true false)] [((Ty.int IntKind.i64).sl.sl, Md.own false (Md.bor false false))] (resL (none) Try.f21) (codeOf Try.f21) ⟨next, ()⟩ = ref_Froms_f nf next := by
  have h : runF tab (ref_Froms_phi nf) ref_Froms_keep nf [PT.val (Ty.int IntKind.i64).sl.sl (Md.bor true false)] [((Ty.int IntKind.i64).sl.sl, Md.own false (Md.bor false false))] (resL (none) Try.f21) (codeOf Try.f21) ⟨next, ()⟩ = ref_Froms_p nf  next := by kernel_rfl
  exact h
def ref_Froms_F (nf : Nat) (x : denPs [.val (.sl (.sl (.int .i64))) (.bor true false)]) : Option (denL [(.sl (.sl (.int .i64)), .own false (.bor false false))]) := ref_Froms_f nf x.1
def ref_Froms_C (nf : Nat) : Contract := ⟨[.val (.sl (.sl (.int .i64))) (.bor true false)], [(.sl (.sl (.int .i64)), .own false (.bor false false))], ref_Froms_F nf, none⟩
theorem ref_Froms_ok : FnOK Try.prog 21 := ⟨Try.f21, codeOf Try.f21, Try.func21, by kernel_rfl, by kernel_rfl⟩
theorem ref_Froms_holds (nf : Nat) : Contract.Holds Try.prog 21 (ref_Froms_C nf) :=
  fn_holds (Φ := ref_Froms_phi nf) (keep := ref_Froms_keep) (n := nf) ⟨tabs.1, tabs.2, (ctx_cons ref_Turned_ok (ref_Turned_holds nf) ctx_nil), mixed⟩ (fn := Try.f21) ⟨Try.func21, by kernel_rfl, by kernel_rfl, by kernel_rfl⟩ (fun x => ref_Froms_eq nf x.1)

/-! codemason codemasonref.Nexts -/
def ref_Nexts_phi (nf : Nat) : Nat → Option Contract := lookC []
def ref_Nexts_keep : Nat → List Nat := lookK [(0, [0, 3, 7, 8, 9, 39])]
def ref_Nexts_b0 (nf : Nat) (p : List (List (Int × Int × Int × Int × Int × Unit) × Int × Int × Int × Unit)) (g0 : List (List Int) → Int → Option (List (List Int) × Unit)) (out : List (List Int)) (t9 : Int) : Option (List (List Int) × Unit) :=
  bif decide (t9 < (↑p.length : Int)) then
    bif inb t9 p.length then
      bif (p.getD t9.toNat ([], 0, 0, 0, ())).snd.snd.fst != (-1) then
        bif (p.getD t9.toNat ([], 0, 0, 0, ())).snd.fst != (-1) then
          bif (p.getD t9.toNat ([], 0, 0, 0, ())).snd.snd.fst != (p.getD t9.toNat ([], 0, 0, 0, ())).snd.snd.snd.fst then
            bif !false && leM (Ty.int IntKind.i64).sl 0 (Md.bor false false) (Md.bor false false) && (out.length + [[] ++ [(p.getD t9.toNat ([], 0, 0, 0, ())).snd.snd.fst] ++ [(p.getD t9.toNat ([], 0, 0, 0, ())).snd.snd.snd.fst]].length).ble lim then
              g0 (out ++ [[] ++ [(p.getD t9.toNat ([], 0, 0, 0, ())).snd.snd.fst] ++ [(p.getD t9.toNat ([], 0, 0, 0, ())).snd.snd.snd.fst]]) (IntKind.i64.wrap (t9 + 1))
            else
              none
          else
            bif !false && leM (Ty.int IntKind.i64).sl 0 (Md.bor false false) (Md.bor false false) && (out.length + [[] ++ [(p.getD t9.toNat ([], 0, 0, 0, ())).snd.snd.fst]].length).ble lim then
              g0 (out ++ [[] ++ [(p.getD t9.toNat ([], 0, 0, 0, ())).snd.snd.fst]]) (IntKind.i64.wrap (t9 + 1))
            else
              none
        else
          bif !false && leM (Ty.int IntKind.i64).sl 0 (Md.bor false false) (Md.bor false false) && (out.length + [[] ++ [(p.getD t9.toNat ([], 0, 0, 0, ())).snd.snd.fst]].length).ble lim then
            g0 (out ++ [[] ++ [(p.getD t9.toNat ([], 0, 0, 0, ())).snd.snd.fst]]) (IntKind.i64.wrap (t9 + 1))
          else
            none
      else
        bif (p.getD t9.toNat ([], 0, 0, 0, ())).snd.fst != (-1) then
          bif (p.getD t9.toNat ([], 0, 0, 0, ())).snd.snd.fst != (p.getD t9.toNat ([], 0, 0, 0, ())).snd.snd.snd.fst then
            bif !false && leM (Ty.int IntKind.i64).sl 0 (Md.bor false false) (Md.bor false false) && (out.length + [[] ++ [(p.getD t9.toNat ([], 0, 0, 0, ())).snd.snd.snd.fst]].length).ble lim then
              g0 (out ++ [[] ++ [(p.getD t9.toNat ([], 0, 0, 0, ())).snd.snd.snd.fst]]) (IntKind.i64.wrap (t9 + 1))
            else
              none
          else
            bif !false && leM (Ty.int IntKind.i64).sl 0 (Md.bor false false) (Md.bor false false) && (out.length + [([] : List Unit)].length).ble lim then
              g0 (out ++ [[]]) (IntKind.i64.wrap (t9 + 1))
            else
              none
        else
          bif !false && leM (Ty.int IntKind.i64).sl 0 (Md.bor false false) (Md.bor false false) && (out.length + [([] : List Unit)].length).ble lim then
            g0 (out ++ [[]]) (IntKind.i64.wrap (t9 + 1))
          else
            none
    else
      none
  else
    some ((out, ()))
def ref_Nexts_p (nf : Nat) (l0 : List (List (Int × Int × Int × Int × Int × Unit) × Int × Int × Int × Unit) → List (List Int) → Int → Option (List (List Int) × Unit)) (p : List (List (Int × Int × Int × Int × Int × Unit) × Int × Int × Int × Unit)) : Option (List (List Int) × Unit) :=
  l0 p [] 0
def ref_Nexts_l0 (nf : Nat) (p : List (List (Int × Int × Int × Int × Int × Unit) × Int × Int × Int × Unit)) : Nat → List (List Int) → Int → Option (List (List Int) × Unit)
  | 0, _, _ => none
  | fu + 1, out, t9 => ref_Nexts_b0 nf  p  (ref_Nexts_l0 nf p  fu) out t9
def ref_Nexts_f (nf : Nat) (p : List (List (Int × Int × Int × Int × Int × Unit) × Int × Int × Int × Unit)) : Option (List (List Int) × Unit) := ref_Nexts_p nf (fun p0 v0 v1 => ref_Nexts_l0 nf p0 nf v0 v1) p
noncomputable def ref_Nexts_L0 (nf : Nat) : LC (List (List Int) × Unit) := theL (findL tab (ref_Nexts_phi nf) (fun _ F => iter nf F) ref_Nexts_keep 0 0 (codeOf Try.f22) (fin tab [((Ty.int IntKind.i64).sl.sl, Md.own false (Md.bor false false))] (resL (none) Try.f22)) (fun _ _ => none) (fin tab [((Ty.int IntKind.i64).sl.sl, Md.own false (Md.bor false false))] (resL (none) Try.f22)))
def ref_Nexts_m0 (p : List (List (Int × Int × Int × Int × Int × Unit) × Int × Int × Int × Unit)) (out : List (List Int)) (t9 : Int) : St := ⟨fresh, [(0, AV.v (((Ty.int IntKind.i64).pair ((Ty.int IntKind.i64).pair ((Ty.int IntKind.i64).pair ((Ty.int IntKind.i64).pair ((Ty.int IntKind.i64).pair Ty.unit))))).sl.pair ((Ty.int IntKind.i64).pair ((Ty.int IntKind.i64).pair ((Ty.int IntKind.i64).pair Ty.unit)))).sl (Md.bor true false) p), (3, AV.ow 500003 (Ty.int IntKind.i64).sl.sl (Md.own false (Md.bor false false)) out), (7, AV.v (((Ty.int IntKind.i64).pair ((Ty.int IntKind.i64).pair ((Ty.int IntKind.i64).pair ((Ty.int IntKind.i64).pair ((Ty.int IntKind.i64).pair Ty.unit))))).sl.pair ((Ty.int IntKind.i64).pair ((Ty.int IntKind.i64).pair ((Ty.int IntKind.i64).pair Ty.unit)))).sl (Md.bor true false) p), (8, AV.v (Ty.int IntKind.i64) (Md.bor false true) (↑p.length : Int)), (9, AV.v (Ty.int IntKind.i64) (Md.bor false true) t9), (39, AV.dead)]⟩
theorem ref_Nexts_h0 (nf : Nat)  (p : List (List (Int × Int × Int × Int × Int × Unit) × Int × Int × Int × Unit)) (fu : Nat) (out : List (List Int)) (t9 : Int) : iter (fu + 1) (LC.F tab (ref_Nexts_phi nf) (fun _ F => iter nf F) ref_Nexts_keep 0 (ref_Nexts_L0 nf )) (ref_Nexts_m0 p out t9) = ref_Nexts_b0 nf  p  (fun out t9 => iter fu (LC.F tab (ref_Nexts_phi nf) (fun _ F => iter nf F) ref_Nexts_keep 0 (ref_Nexts_L0 nf )) (ref_Nexts_m0 p out t9)) out t9 := by kernel_rfl
theorem ref_Nexts_e0 (nf : Nat)  (p : List (List (Int × Int × Int × Int × Int × Unit) × Int × Int × Int × Unit)) : ∀ (fu : Nat) (out : List (List Int)) (t9 : Int), iter fu (LC.F tab (ref_Nexts_phi nf) (fun _ F => iter nf F) ref_Nexts_keep 0 (ref_Nexts_L0 nf )) (ref_Nexts_m0 p out t9) = ref_Nexts_l0 nf p  fu out t9 := by
  intro fu
  induction fu with
  | zero => intros; rfl
  | succ fu ih =>
    intro out t9
    rw [ref_Nexts_h0 nf  p fu out t9]
    simp only [ih]
    rfl
theorem ref_Nexts_eq (nf : Nat) (p : List (List (Int × Int × Int × Int × Int × Unit) × Int × Int × Int × Unit)) : runF tab (ref_Nexts_phi nf) ref_Nexts_keep nf [PT.val (((Ty.int IntKind.i64).pair ((Ty.int IntKind.i64).pair ((Ty.int IntKind.i64).pair ((Ty.int IntKind.i64).pair ((Ty.int IntKind.i64).pair Ty.unit))))).sl.pair ((Ty.int IntKind.i64).pair ((Ty.int IntKind.i64).pair ((Ty.int IntKind.i64).pair Ty.unit)))).sl (Md.bor true false)] [((Ty.int IntKind.i64).sl.sl, Md.own false (Md.bor false false))] (resL (none) Try.f22) (codeOf Try.f22) ⟨p, ()⟩ = ref_Nexts_f nf p := by
  have h : runF tab (ref_Nexts_phi nf) ref_Nexts_keep nf [PT.val (((Ty.int IntKind.i64).pair ((Ty.int IntKind.i64).pair ((Ty.int IntKind.i64).pair ((Ty.int IntKind.i64).pair ((Ty.int IntKind.i64).pair Ty.unit))))).sl.pair ((Ty.int IntKind.i64).pair ((Ty.int IntKind.i64).pair ((Ty.int IntKind.i64).pair Ty.unit)))).sl (Md.bor true false)] [((Ty.int IntKind.i64).sl.sl, Md.own false (Md.bor false false))] (resL (none) Try.f22) (codeOf Try.f22) ⟨p, ()⟩ = ref_Nexts_p nf (fun p0 v0 v1 => iter nf (LC.F tab (ref_Nexts_phi nf) (fun _ F => iter nf F) ref_Nexts_keep 0 (ref_Nexts_L0 nf)) (ref_Nexts_m0 p0 v0 v1)) p := by kernel_rfl
  rw [h]
  simp only [ref_Nexts_e0]
  rfl
def ref_Nexts_F (nf : Nat) (x : denPs [.val (.sl (.pair (.sl (.pair (.int .i64) (.pair (.int .i64) (.pair (.int .i64) (.pair (.int .i64) (.pair (.int .i64) (.unit))))))) (.pair (.int .i64) (.pair (.int .i64) (.pair (.int .i64) (.unit)))))) (.bor true false)]) : Option (denL [(.sl (.sl (.int .i64)), .own false (.bor false false))]) := ref_Nexts_f nf x.1
def ref_Nexts_C (nf : Nat) : Contract := ⟨[.val (.sl (.pair (.sl (.pair (.int .i64) (.pair (.int .i64) (.pair (.int .i64) (.pair (.int .i64) (.pair (.int .i64) (.unit))))))) (.pair (.int .i64) (.pair (.int .i64) (.pair (.int .i64) (.unit)))))) (.bor true false)], [(.sl (.sl (.int .i64)), .own false (.bor false false))], ref_Nexts_F nf, none⟩
theorem ref_Nexts_ok : FnOK Try.prog 22 := ⟨Try.f22, codeOf Try.f22, Try.func22, by kernel_rfl, by kernel_rfl⟩
theorem ref_Nexts_holds (nf : Nat) : Contract.Holds Try.prog 22 (ref_Nexts_C nf) :=
  fn_holds (Φ := ref_Nexts_phi nf) (keep := ref_Nexts_keep) (n := nf) ⟨tabs.1, tabs.2, ctx_nil, mixed⟩ (fn := Try.f22) ⟨Try.func22, by kernel_rfl, by kernel_rfl, by kernel_rfl⟩ (fun x => ref_Nexts_eq nf x.1)

/-! codemason codemasonref.Bare -/
def ref_Bare_phi (nf : Nat) : Nat → Option Contract := lookC []
def ref_Bare_keep : Nat → List Nat := lookK [(0, [0, 3, 6, 7, 8, 21])]
def ref_Bare_b0 (nf : Nat) (l' : List (List (Int × List Int × Unit) × List (Int × Int × Int × Int × Int × Unit) × Int × Int × Int × List Int × Unit)) (g0 : List (List (Int × Int × Int × Int × Int × Unit) × Int × Int × Int × Unit) → Int → Option (List (List (Int × Int × Int × Int × Int × Unit) × Int × Int × Int × Unit) × Unit)) (p : List (List (Int × Int × Int × Int × Int × Unit) × Int × Int × Int × Unit)) (t8 : Int) : Option (List (List (Int × Int × Int × Int × Int × Unit) × Int × Int × Int × Unit) × Unit) :=
  bif decide (t8 < (↑l'.length : Int)) then
    bif inb t8 l'.length then
      bif !false && leM (((Ty.int IntKind.i64).pair ((Ty.int IntKind.i64).pair ((Ty.int IntKind.i64).pair ((Ty.int IntKind.i64).pair ((Ty.int IntKind.i64).pair Ty.unit))))).sl.pair ((Ty.int IntKind.i64).pair ((Ty.int IntKind.i64).pair ((Ty.int IntKind.i64).pair Ty.unit)))) 0 (Md.bor false false) (Md.bor false false) && (p.length + [(([] : List (Int × Int × Int × Int × Int × Unit)), (l'.getD t8.toNat ([], [], 0, 0, 0, [], ())).snd.snd.fst, (l'.getD t8.toNat ([], [], 0, 0, 0, [], ())).snd.snd.snd.fst, (l'.getD t8.toNat ([], [], 0, 0, 0, [], ())).snd.snd.snd.snd.fst, ())].length).ble lim then
        g0 (p ++ [(([] : List (Int × Int × Int × Int × Int × Unit)), (l'.getD t8.toNat ([], [], 0, 0, 0, [], ())).snd.snd.fst, (l'.getD t8.toNat ([], [], 0, 0, 0, [], ())).snd.snd.snd.fst, (l'.getD t8.toNat ([], [], 0, 0, 0, [], ())).snd.snd.snd.snd.fst, ())]) (IntKind.i64.wrap (t8 + 1))
      else
        none
    else
      none
  else
    some ((p, ()))
def ref_Bare_p (nf : Nat) (l0 : List (List (Int × List Int × Unit) × List (Int × Int × Int × Int × Int × Unit) × Int × Int × Int × List Int × Unit) → List (List (Int × Int × Int × Int × Int × Unit) × Int × Int × Int × Unit) → Int → Option (List (List (Int × Int × Int × Int × Int × Unit) × Int × Int × Int × Unit) × Unit)) (l' : List (List (Int × List Int × Unit) × List (Int × Int × Int × Int × Int × Unit) × Int × Int × Int × List Int × Unit)) : Option (List (List (Int × Int × Int × Int × Int × Unit) × Int × Int × Int × Unit) × Unit) :=
  l0 l' [] 0
def ref_Bare_l0 (nf : Nat) (l' : List (List (Int × List Int × Unit) × List (Int × Int × Int × Int × Int × Unit) × Int × Int × Int × List Int × Unit)) : Nat → List (List (Int × Int × Int × Int × Int × Unit) × Int × Int × Int × Unit) → Int → Option (List (List (Int × Int × Int × Int × Int × Unit) × Int × Int × Int × Unit) × Unit)
  | 0, _, _ => none
  | fu + 1, p, t8 => ref_Bare_b0 nf  l'  (ref_Bare_l0 nf l'  fu) p t8
def ref_Bare_f (nf : Nat) (l' : List (List (Int × List Int × Unit) × List (Int × Int × Int × Int × Int × Unit) × Int × Int × Int × List Int × Unit)) : Option (List (List (Int × Int × Int × Int × Int × Unit) × Int × Int × Int × Unit) × Unit) := ref_Bare_p nf (fun p0 v0 v1 => ref_Bare_l0 nf p0 nf v0 v1) l'
noncomputable def ref_Bare_L0 (nf : Nat) : LC (List (List (Int × Int × Int × Int × Int × Unit) × Int × Int × Int × Unit) × Unit) := theL (findL tab (ref_Bare_phi nf) (fun _ F => iter nf F) ref_Bare_keep 0 0 (codeOf Try.f23) (fin tab [((((Ty.int IntKind.i64).pair ((Ty.int IntKind.i64).pair ((Ty.int IntKind.i64).pair ((Ty.int IntKind.i64).pair ((Ty.int IntKind.i64).pair Ty.unit))))).sl.pair ((Ty.int IntKind.i64).pair ((Ty.int IntKind.i64).pair ((Ty.int IntKind.i64).pair Ty.unit)))).sl, Md.own false (Md.bor false false))] (resL (none) Try.f23)) (fun _ _ => none) (fin tab [((((Ty.int IntKind.i64).pair ((Ty.int IntKind.i64).pair ((Ty.int IntKind.i64).pair ((Ty.int IntKind.i64).pair ((Ty.int IntKind.i64).pair Ty.unit))))).sl.pair ((Ty.int IntKind.i64).pair ((Ty.int IntKind.i64).pair ((Ty.int IntKind.i64).pair Ty.unit)))).sl, Md.own false (Md.bor false false))] (resL (none) Try.f23)))
def ref_Bare_m0 (l' : List (List (Int × List Int × Unit) × List (Int × Int × Int × Int × Int × Unit) × Int × Int × Int × List Int × Unit)) (p : List (List (Int × Int × Int × Int × Int × Unit) × Int × Int × Int × Unit)) (t8 : Int) : St := ⟨fresh, [(0, AV.v (((Ty.int IntKind.i64).pair ((Ty.int IntKind.i64).sl.pair Ty.unit)).sl.pair (((Ty.int IntKind.i64).pair ((Ty.int IntKind.i64).pair ((Ty.int IntKind.i64).pair ((Ty.int IntKind.i64).pair ((Ty.int IntKind.i64).pair Ty.unit))))).sl.pair ((Ty.int IntKind.i64).pair ((Ty.int IntKind.i64).pair ((Ty.int IntKind.i64).pair ((Ty.int IntKind.i64).sl.pair Ty.unit)))))).sl (Md.bor true false) l'), (3, AV.ow 500003 (((Ty.int IntKind.i64).pair ((Ty.int IntKind.i64).pair ((Ty.int IntKind.i64).pair ((Ty.int IntKind.i64).pair ((Ty.int IntKind.i64).pair Ty.unit))))).sl.pair ((Ty.int IntKind.i64).pair ((Ty.int IntKind.i64).pair ((Ty.int IntKind.i64).pair Ty.unit)))).sl (Md.own false (Md.bor false false)) p), (6, AV.v (((Ty.int IntKind.i64).pair ((Ty.int IntKind.i64).sl.pair Ty.unit)).sl.pair (((Ty.int IntKind.i64).pair ((Ty.int IntKind.i64).pair ((Ty.int IntKind.i64).pair ((Ty.int IntKind.i64).pair ((Ty.int IntKind.i64).pair Ty.unit))))).sl.pair ((Ty.int IntKind.i64).pair ((Ty.int IntKind.i64).pair ((Ty.int IntKind.i64).pair ((Ty.int IntKind.i64).sl.pair Ty.unit)))))).sl (Md.bor true false) l'), (7, AV.v (Ty.int IntKind.i64) (Md.bor false true) (↑l'.length : Int)), (8, AV.v (Ty.int IntKind.i64) (Md.bor false true) t8), (21, AV.dead)]⟩
theorem ref_Bare_h0 (nf : Nat)  (l' : List (List (Int × List Int × Unit) × List (Int × Int × Int × Int × Int × Unit) × Int × Int × Int × List Int × Unit)) (fu : Nat) (p : List (List (Int × Int × Int × Int × Int × Unit) × Int × Int × Int × Unit)) (t8 : Int) : iter (fu + 1) (LC.F tab (ref_Bare_phi nf) (fun _ F => iter nf F) ref_Bare_keep 0 (ref_Bare_L0 nf )) (ref_Bare_m0 l' p t8) = ref_Bare_b0 nf  l'  (fun p t8 => iter fu (LC.F tab (ref_Bare_phi nf) (fun _ F => iter nf F) ref_Bare_keep 0 (ref_Bare_L0 nf )) (ref_Bare_m0 l' p t8)) p t8 := by kernel_rfl
theorem ref_Bare_e0 (nf : Nat)  (l' : List (List (Int × List Int × Unit) × List (Int × Int × Int × Int × Int × Unit) × Int × Int × Int × List Int × Unit)) : ∀ (fu : Nat) (p : List (List (Int × Int × Int × Int × Int × Unit) × Int × Int × Int × Unit)) (t8 : Int), iter fu (LC.F tab (ref_Bare_phi nf) (fun _ F => iter nf F) ref_Bare_keep 0 (ref_Bare_L0 nf )) (ref_Bare_m0 l' p t8) = ref_Bare_l0 nf l'  fu p t8 := by
  intro fu
  induction fu with
  | zero => intros; rfl
  | succ fu ih =>
    intro p t8
    rw [ref_Bare_h0 nf  l' fu p t8]
    simp only [ih]
    rfl
theorem ref_Bare_eq (nf : Nat) (l' : List (List (Int × List Int × Unit) × List (Int × Int × Int × Int × Int × Unit) × Int × Int × Int × List Int × Unit)) : runF tab (ref_Bare_phi nf) ref_Bare_keep nf [PT.val (((Ty.int IntKind.i64).pair ((Ty.int IntKind.i64).sl.pair Ty.unit)).sl.pair (((Ty.int IntKind.i64).pair ((Ty.int IntKind.i64).pair ((Ty.int IntKind.i64).pair ((Ty.int IntKind.i64).pair ((Ty.int IntKind.i64).pair Ty.unit))))).sl.pair ((Ty.int IntKind.i64).pair ((Ty.int IntKind.i64).pair ((Ty.int IntKind.i64).pair ((Ty.int IntKind.i64).sl.pair Ty.unit)))))).sl (Md.bor true false)] [((((Ty.int IntKind.i64).pair ((Ty.int IntKind.i64).pair ((Ty.int IntKind.i64).pair ((Ty.int IntKind.i64).pair ((Ty.int IntKind.i64).pair Ty.unit))))).sl.pair ((Ty.int IntKind.i64).pair ((Ty.int IntKind.i64).pair ((Ty.int IntKind.i64).pair Ty.unit)))).sl, Md.own false (Md.bor false false))] (resL (none) Try.f23) (codeOf Try.f23) ⟨l', ()⟩ = ref_Bare_f nf l' := by
  have h : runF tab (ref_Bare_phi nf) ref_Bare_keep nf [PT.val (((Ty.int IntKind.i64).pair ((Ty.int IntKind.i64).sl.pair Ty.unit)).sl.pair (((Ty.int IntKind.i64).pair ((Ty.int IntKind.i64).pair ((Ty.int IntKind.i64).pair ((Ty.int IntKind.i64).pair ((Ty.int IntKind.i64).pair Ty.unit))))).sl.pair ((Ty.int IntKind.i64).pair ((Ty.int IntKind.i64).pair ((Ty.int IntKind.i64).pair ((Ty.int IntKind.i64).sl.pair Ty.unit)))))).sl (Md.bor true false)] [((((Ty.int IntKind.i64).pair ((Ty.int IntKind.i64).pair ((Ty.int IntKind.i64).pair ((Ty.int IntKind.i64).pair ((Ty.int IntKind.i64).pair Ty.unit))))).sl.pair ((Ty.int IntKind.i64).pair ((Ty.int IntKind.i64).pair ((Ty.int IntKind.i64).pair Ty.unit)))).sl, Md.own false (Md.bor false false))] (resL (none) Try.f23) (codeOf Try.f23) ⟨l', ()⟩ = ref_Bare_p nf (fun p0 v0 v1 => iter nf (LC.F tab (ref_Bare_phi nf) (fun _ F => iter nf F) ref_Bare_keep 0 (ref_Bare_L0 nf)) (ref_Bare_m0 p0 v0 v1)) l' := by kernel_rfl
  rw [h]
  simp only [ref_Bare_e0]
  rfl
def ref_Bare_F (nf : Nat) (x : denPs [.val (.sl (.pair (.sl (.pair (.int .i64) (.pair (.sl (.int .i64)) (.unit)))) (.pair (.sl (.pair (.int .i64) (.pair (.int .i64) (.pair (.int .i64) (.pair (.int .i64) (.pair (.int .i64) (.unit))))))) (.pair (.int .i64) (.pair (.int .i64) (.pair (.int .i64) (.pair (.sl (.int .i64)) (.unit)))))))) (.bor true false)]) : Option (denL [(.sl (.pair (.sl (.pair (.int .i64) (.pair (.int .i64) (.pair (.int .i64) (.pair (.int .i64) (.pair (.int .i64) (.unit))))))) (.pair (.int .i64) (.pair (.int .i64) (.pair (.int .i64) (.unit))))), .own false (.bor false false))]) := ref_Bare_f nf x.1
def ref_Bare_C (nf : Nat) : Contract := ⟨[.val (.sl (.pair (.sl (.pair (.int .i64) (.pair (.sl (.int .i64)) (.unit)))) (.pair (.sl (.pair (.int .i64) (.pair (.int .i64) (.pair (.int .i64) (.pair (.int .i64) (.pair (.int .i64) (.unit))))))) (.pair (.int .i64) (.pair (.int .i64) (.pair (.int .i64) (.pair (.sl (.int .i64)) (.unit)))))))) (.bor true false)], [(.sl (.pair (.sl (.pair (.int .i64) (.pair (.int .i64) (.pair (.int .i64) (.pair (.int .i64) (.pair (.int .i64) (.unit))))))) (.pair (.int .i64) (.pair (.int .i64) (.pair (.int .i64) (.unit))))), .own false (.bor false false))], ref_Bare_F nf, none⟩
theorem ref_Bare_ok : FnOK Try.prog 23 := ⟨Try.f23, codeOf Try.f23, Try.func23, by kernel_rfl, by kernel_rfl⟩
theorem ref_Bare_holds (nf : Nat) : Contract.Holds Try.prog 23 (ref_Bare_C nf) :=
  fn_holds (Φ := ref_Bare_phi nf) (keep := ref_Bare_keep) (n := nf) ⟨tabs.1, tabs.2, ctx_nil, mixed⟩ (fn := Try.f23) ⟨Try.func23, by kernel_rfl, by kernel_rfl, by kernel_rfl⟩ (fun x => ref_Bare_eq nf x.1)

/-! codemason codemasonref.Value -/
def ref_Value_phi (nf : Nat) : Nat → Option Contract := lookC []
def ref_Value_keep : Nat → List Nat := lookK []
def ref_Value_p (nf : Nat)  (x : Int) : Option (Bool × Unit) :=
  bif decide (x ≥ 0) then
    some ((decide (x ≤ 255), ()))
  else
    some ((false, ()))
def ref_Value_f (nf : Nat) (x : Int) : Option (Bool × Unit) := ref_Value_p nf  x
theorem ref_Value_eq (nf : Nat) (x : Int) : runF tab (ref_Value_phi nf) ref_Value_keep nf [PT.val (Ty.int IntKind.i64) (Md.bor true false)] [(Ty.bool, Md.bor false true)] (resL (none) Try.f24) (codeOf Try.f24) ⟨x, ()⟩ = ref_Value_f nf x := by
  have h : runF tab (ref_Value_phi nf) ref_Value_keep nf [PT.val (Ty.int IntKind.i64) (Md.bor true false)] [(Ty.bool, Md.bor false true)] (resL (none) Try.f24) (codeOf Try.f24) ⟨x, ()⟩ = ref_Value_p nf  x := by kernel_rfl
  exact h
def ref_Value_F (nf : Nat) (x : denPs [.val (.int .i64) (.bor true false)]) : Option (denL [(.bool, .bor false true)]) := ref_Value_f nf x.1
def ref_Value_C (nf : Nat) : Contract := ⟨[.val (.int .i64) (.bor true false)], [(.bool, .bor false true)], ref_Value_F nf, none⟩
theorem ref_Value_ok : FnOK Try.prog 24 := ⟨Try.f24, codeOf Try.f24, Try.func24, by kernel_rfl, by kernel_rfl⟩
theorem ref_Value_holds (nf : Nat) : Contract.Holds Try.prog 24 (ref_Value_C nf) :=
  fn_holds (Φ := ref_Value_phi nf) (keep := ref_Value_keep) (n := nf) ⟨tabs.1, tabs.2, ctx_nil, mixed⟩ (fn := Try.f24) ⟨Try.func24, by kernel_rfl, by kernel_rfl, by kernel_rfl⟩ (fun x => ref_Value_eq nf x.1)

/-! codemason codemasonref.SingleCheck -/
def ref_SingleCheck_phi (nf : Nat) : Nat → Option Contract := lookC [(20, ref_Inside_C nf), (21, ref_Froms_C nf), (22, ref_Nexts_C nf), (23, ref_Bare_C nf), (24, ref_Value_C nf)]
def ref_SingleCheck_keep : Nat → List Nat := lookK [(8, [1, 11, 13, 114, 115, 116, 117, 150, 151, 152, 153]), (6, [1, 11, 12, 13, 114, 115, 116, 117, 122, 123, 124, 125]), (4, [1, 11, 114, 115, 116, 117]), (2, [0, 1, 59, 60, 61]), (0, [0, 1, 5, 6, 18, 19, 20])]
def ref_SingleCheck_b0 (nf : Nat) (l2 : Int → List (List (Int × List Int × Unit) × List (Int × Int × Int × Int × Int × Unit) × Int × Int × Int × List Int × Unit) → Int → Option (Int × Unit)) (vars : Int) (l' : List (List (Int × List Int × Unit) × List (Int × Int × Int × Int × Int × Unit) × Int × Int × Int × List Int × Unit)) (g0 : Int → Int → Int → Option (Int × Unit)) (steps : Int) (joins : Int) (t20 : Int) : Option (Int × Unit) :=
  bif decide (t20 < (↑l'.length : Int)) then
    bif inb t20 l'.length then
      g0 (IntKind.i64.wrap (steps + (↑(List.length (l'.getD t20.toNat ([], [], 0, 0, 0, [], ())).snd.fst) : Int))) (IntKind.i64.wrap (joins + (↑(List.length (l'.getD t20.toNat ([], [], 0, 0, 0, [], ())).fst) : Int))) (IntKind.i64.wrap (t20 + 1))
    else
      none
  else
    bif decide (vars < 1) then
      some ((1, ()))
    else
      bif decide (vars > 6) then
        some ((1, ()))
      else
        bif decide ((↑l'.length : Int) < 1) then
          some ((1, ()))
        else
          bif decide ((↑l'.length : Int) > 8) then
            some ((1, ()))
          else
            bif decide (steps > 20) then
              some ((1, ()))
            else
              bif decide (joins > 64) then
                some ((1, ()))
              else
                l2 vars l' 0
def ref_SingleCheck_b2 (nf : Nat) (l4 : List (List (Int × List Int × Unit) × List (Int × Int × Int × Int × Int × Unit) × Int × Int × Int × List Int × Unit) → List (List Int) → Int → Option (Int × Unit)) (vars : Int) (l' : List (List (Int × List Int × Unit) × List (Int × Int × Int × Int × Int × Unit) × Int × Int × Int × List Int × Unit)) (g2 : Int → Option (Int × Unit)) (t61 : Int) : Option (Int × Unit) :=
  bif decide (t61 < (↑l'.length : Int)) then
    bif inb t61 l'.length then
      bif decide ((l'.getD t61.toNat ([], [], 0, 0, 0, [], ())).snd.snd.fst < (-1)) then
        some ((3, ()))
      else
        bif (↑(List.length (l'.getD t61.toNat ([], [], 0, 0, 0, [], ())).snd.snd.snd.snd.snd.fst) : Int) != vars then
          some ((3, ()))
        else
          bif (l'.getD t61.toNat ([], [], 0, 0, 0, [], ())).snd.snd.fst == (-1) then
            bif (l'.getD t61.toNat ([], [], 0, 0, 0, [], ())).snd.snd.snd.fst != (-1) then
              Option.bind (ref_Inside_f nf ((↑l'.length : Int)) ([(l'.getD t61.toNat ([], [], 0, 0, 0, [], ())).snd.snd.snd.fst])) fun r =>
              bif !r.fst then
                some ((3, ()))
              else
                bif decide ((l'.getD t61.toNat ([], [], 0, 0, 0, [], ())).snd.snd.fst ≥ 0) then
                  Option.bind (ref_Inside_f nf ((↑l'.length : Int)) ([(l'.getD t61.toNat ([], [], 0, 0, 0, [], ())).snd.snd.snd.fst, (l'.getD t61.toNat ([], [], 0, 0, 0, [], ())).snd.snd.snd.snd.fst])) fun r2 =>
                  bif !r2.fst then
                    some ((3, ()))
                  else
                    g2 (IntKind.i64.wrap (t61 + 1))
                else
                  g2 (IntKind.i64.wrap (t61 + 1))
            else
              bif decide ((l'.getD t61.toNat ([], [], 0, 0, 0, [], ())).snd.snd.fst ≥ 0) then
                Option.bind (ref_Inside_f nf ((↑l'.length : Int)) ([(l'.getD t61.toNat ([], [], 0, 0, 0, [], ())).snd.snd.snd.fst, (l'.getD t61.toNat ([], [], 0, 0, 0, [], ())).snd.snd.snd.snd.fst])) fun r3 =>
                bif !r3.fst then
                  some ((3, ()))
                else
                  g2 (IntKind.i64.wrap (t61 + 1))
              else
                g2 (IntKind.i64.wrap (t61 + 1))
          else
            bif decide ((l'.getD t61.toNat ([], [], 0, 0, 0, [], ())).snd.snd.fst ≥ 0) then
              Option.bind (ref_Inside_f nf ((↑l'.length : Int)) ([(l'.getD t61.toNat ([], [], 0, 0, 0, [], ())).snd.snd.snd.fst, (l'.getD t61.toNat ([], [], 0, 0, 0, [], ())).snd.snd.snd.snd.fst])) fun r4 =>
              bif !r4.fst then
                some ((3, ()))
              else
                g2 (IntKind.i64.wrap (t61 + 1))
            else
              g2 (IntKind.i64.wrap (t61 + 1))
    else
      none
  else
    Option.bind (ref_Bare_f nf l') fun r5 =>
    Option.bind (ref_Nexts_f nf r5.fst) fun r6 =>
    Option.bind (ref_Froms_f nf r6.fst) fun r7 =>
    l4 l' r7.fst 0
def ref_SingleCheck_b4 (nf : Nat) (l6 : List (List (Int × List Int × Unit) × List (Int × Int × Int × Int × Int × Unit) × Int × Int × Int × List Int × Unit) → Int → List (List Int) → List (Int × List Int × Unit) × List (Int × Int × Int × Int × Int × Unit) × Int × Int × Int × List Int × Unit → Int → Option (Int × Unit)) (l' : List (List (Int × List Int × Unit) × List (Int × Int × Int × Int × Int × Unit) × Int × Int × Int × List Int × Unit)) (g4 : List (List Int) → Int → Option (Int × Unit)) (from' : List (List Int)) (t117 : Int) : Option (Int × Unit) :=
  bif decide (t117 < (↑l'.length : Int)) then
    bif inb t117 l'.length then
      l6 l' t117 from' (l'.getD t117.toNat ([], [], 0, 0, 0, [], ())) 0
    else
      none
  else
    some ((0, ()))
def ref_SingleCheck_b6 (nf : Nat) (l8 : List (List (Int × List Int × Unit) × List (Int × Int × Int × Int × Int × Unit) × Int × Int × Int × List Int × Unit) → Int → List (Int × List Int × Unit) × List (Int × Int × Int × Int × Int × Unit) × Int × Int × Int × List Int × Unit → List (List Int) → List (Int × List Int × Unit) × List (Int × Int × Int × Int × Int × Unit) × Int × Int × Int × List Int × Unit → Int → Option (Int × Unit)) (l' : List (List (Int × List Int × Unit) × List (Int × Int × Int × Int × Int × Unit) × Int × Int × Int × List Int × Unit)) (t117 : Int) (g4 : List (List Int) → Int → Option (Int × Unit)) (g6 : List (List Int) → List (Int × List Int × Unit) × List (Int × Int × Int × Int × Int × Unit) × Int × Int × Int × List Int × Unit → Int → Option (Int × Unit)) (from'2 : List (List Int)) (b : List (Int × List Int × Unit) × List (Int × Int × Int × Int × Int × Unit) × Int × Int × Int × List Int × Unit) (t125 : Int) : Option (Int × Unit) :=
  bif decide (t125 < (↑(List.length (l'.getD t117.toNat ([], [], 0, 0, 0, [], ())).fst) : Int)) then
    bif inb t125 (List.length (l'.getD t117.toNat ([], [], 0, 0, 0, [], ())).fst) then
      bif inb t117 from'2.length then
        bif (↑(List.length (List.getD (l'.getD t117.toNat ([], [], 0, 0, 0, [], ())).fst t125.toNat (0, [], ())).snd.fst) : Int) != (↑(List.length (from'2.getD t117.toNat [])) : Int) then
          some ((3, ()))
        else
          Option.bind (ref_Inside_f nf 128 ([(List.getD (l'.getD t117.toNat ([], [], 0, 0, 0, [], ())).fst t125.toNat (0, [], ())).fst])) fun r8 =>
          bif !r8.fst then
            some ((2, ()))
          else
            Option.bind (ref_Inside_f nf 128 ((List.getD (l'.getD t117.toNat ([], [], 0, 0, 0, [], ())).fst t125.toNat (0, [], ())).snd.fst)) fun r9 =>
            bif !r9.fst then
              some ((2, ()))
            else
              g6 from'2 b (IntKind.i64.wrap (t125 + 1))
      else
        none
    else
      none
  else
    l8 l' t117 b from'2 b 0
def ref_SingleCheck_b8 (nf : Nat) (l' : List (List (Int × List Int × Unit) × List (Int × Int × Int × Int × Int × Unit) × Int × Int × Int × List Int × Unit)) (t117 : Int) (b : List (Int × List Int × Unit) × List (Int × Int × Int × Int × Int × Unit) × Int × Int × Int × List Int × Unit) (g4 : List (List Int) → Int → Option (Int × Unit)) (g8 : List (List Int) → List (Int × List Int × Unit) × List (Int × Int × Int × Int × Int × Unit) × Int × Int × Int × List Int × Unit → Int → Option (Int × Unit)) (from'3 : List (List Int)) (b2 : List (Int × List Int × Unit) × List (Int × Int × Int × Int × Int × Unit) × Int × Int × Int × List Int × Unit) (t153 : Int) : Option (Int × Unit) :=
  bif decide (t153 < (↑(List.length b.snd.fst) : Int)) then
    bif inb t153 (List.length b.snd.fst) then
      bif decide ((List.getD b.snd.fst t153.toNat (0, 0, 0, 0, 0, ())).fst < 1) then
        some ((6, ()))
      else
        bif decide ((List.getD b.snd.fst t153.toNat (0, 0, 0, 0, 0, ())).fst > 6) then
          some ((6, ()))
        else
          bif (List.getD b.snd.fst t153.toNat (0, 0, 0, 0, 0, ())).fst == 1 then
            Option.bind (ref_Value_f nf ((List.getD b.snd.fst t153.toNat (0, 0, 0, 0, 0, ())).snd.snd.snd.snd.fst)) fun r10 =>
            bif !r10.fst then
              some ((4, ()))
            else
              Option.bind (ref_Inside_f nf 128 ([(List.getD b.snd.fst t153.toNat (0, 0, 0, 0, 0, ())).snd.fst])) fun r11 =>
              bif !r11.fst then
                some ((2, ()))
              else
                bif (List.getD b.snd.fst t153.toNat (0, 0, 0, 0, 0, ())).fst == 2 then
                  Option.bind (ref_Inside_f nf 128 ([(List.getD b.snd.fst t153.toNat (0, 0, 0, 0, 0, ())).snd.snd.snd.snd.fst])) fun r12 =>
                  bif !r12.fst then
                    some ((2, ()))
                  else
                    bif decide ((List.getD b.snd.fst t153.toNat (0, 0, 0, 0, 0, ())).fst ≥ 3) then
                      Option.bind (ref_Inside_f nf 128 ([(List.getD b.snd.fst t153.toNat (0, 0, 0, 0, 0, ())).snd.snd.fst, (List.getD b.snd.fst t153.toNat (0, 0, 0, 0, 0, ())).snd.snd.snd.fst])) fun r13 =>
                      bif !r13.fst then
                        some ((2, ()))
                      else
                        g8 from'3 b2 (IntKind.i64.wrap (t153 + 1))
                    else
                      g8 from'3 b2 (IntKind.i64.wrap (t153 + 1))
                else
                  bif decide ((List.getD b.snd.fst t153.toNat (0, 0, 0, 0, 0, ())).fst ≥ 3) then
                    Option.bind (ref_Inside_f nf 128 ([(List.getD b.snd.fst t153.toNat (0, 0, 0, 0, 0, ())).snd.snd.fst, (List.getD b.snd.fst t153.toNat (0, 0, 0, 0, 0, ())).snd.snd.snd.fst])) fun r14 =>
                    bif !r14.fst then
                      some ((2, ()))
                    else
                      g8 from'3 b2 (IntKind.i64.wrap (t153 + 1))
                  else
                    g8 from'3 b2 (IntKind.i64.wrap (t153 + 1))
          else
            Option.bind (ref_Inside_f nf 128 ([(List.getD b.snd.fst t153.toNat (0, 0, 0, 0, 0, ())).snd.fst])) fun r15 =>
            bif !r15.fst then
              some ((2, ()))
            else
              bif (List.getD b.snd.fst t153.toNat (0, 0, 0, 0, 0, ())).fst == 2 then
                Option.bind (ref_Inside_f nf 128 ([(List.getD b.snd.fst t153.toNat (0, 0, 0, 0, 0, ())).snd.snd.snd.snd.fst])) fun r16 =>
                bif !r16.fst then
                  some ((2, ()))
                else
                  bif decide ((List.getD b.snd.fst t153.toNat (0, 0, 0, 0, 0, ())).fst ≥ 3) then
                    Option.bind (ref_Inside_f nf 128 ([(List.getD b.snd.fst t153.toNat (0, 0, 0, 0, 0, ())).snd.snd.fst, (List.getD b.snd.fst t153.toNat (0, 0, 0, 0, 0, ())).snd.snd.snd.fst])) fun r17 =>
                    bif !r17.fst then
                      some ((2, ()))
                    else
                      g8 from'3 b2 (IntKind.i64.wrap (t153 + 1))
                  else
                    g8 from'3 b2 (IntKind.i64.wrap (t153 + 1))
              else
                bif decide ((List.getD b.snd.fst t153.toNat (0, 0, 0, 0, 0, ())).fst ≥ 3) then
                  Option.bind (ref_Inside_f nf 128 ([(List.getD b.snd.fst t153.toNat (0, 0, 0, 0, 0, ())).snd.snd.fst, (List.getD b.snd.fst t153.toNat (0, 0, 0, 0, 0, ())).snd.snd.snd.fst])) fun r18 =>
                  bif !r18.fst then
                    some ((2, ()))
                  else
                    g8 from'3 b2 (IntKind.i64.wrap (t153 + 1))
                else
                  g8 from'3 b2 (IntKind.i64.wrap (t153 + 1))
    else
      none
  else
    bif decide (b2.snd.snd.fst ≥ 128) then
      some ((2, ()))
    else
      Option.bind (ref_Inside_f nf 128 b2.snd.snd.snd.snd.snd.fst) fun r19 =>
      bif !r19.fst then
        some ((2, ()))
      else
        g4 from'3 (IntKind.i64.wrap (t117 + 1))
def ref_SingleCheck_p (nf : Nat) (l0 : Int → List (List (Int × List Int × Unit) × List (Int × Int × Int × Int × Int × Unit) × Int × Int × Int × List Int × Unit) → Int → Int → Int → Option (Int × Unit)) (vars : Int) (l' : List (List (Int × List Int × Unit) × List (Int × Int × Int × Int × Int × Unit) × Int × Int × Int × List Int × Unit)) : Option (Int × Unit) :=
  l0 vars l' 0 0 0
def ref_SingleCheck_l8 (nf : Nat) (l' : List (List (Int × List Int × Unit) × List (Int × Int × Int × Int × Int × Unit) × Int × Int × Int × List Int × Unit)) (t117 : Int) (b : List (Int × List Int × Unit) × List (Int × Int × Int × Int × Int × Unit) × Int × Int × Int × List Int × Unit) (g4 : List (List Int) → Int → Option (Int × Unit)) : Nat → List (List Int) → List (Int × List Int × Unit) × List (Int × Int × Int × Int × Int × Unit) × Int × Int × Int × List Int × Unit → Int → Option (Int × Unit)
  | 0, _, _, _ => none
  | fu + 1, from'3, b2, t153 => ref_SingleCheck_b8 nf  l' t117 b g4 (ref_SingleCheck_l8 nf l' t117 b g4 fu) from'3 b2 t153
def ref_SingleCheck_l6 (nf : Nat) (l' : List (List (Int × List Int × Unit) × List (Int × Int × Int × Int × Int × Unit) × Int × Int × Int × List Int × Unit)) (t117 : Int) (g4 : List (List Int) → Int → Option (Int × Unit)) : Nat → List (List Int) → List (Int × List Int × Unit) × List (Int × Int × Int × Int × Int × Unit) × Int × Int × Int × List Int × Unit → Int → Option (Int × Unit)
  | 0, _, _, _ => none
  | fu + 1, from'2, b, t125 => ref_SingleCheck_b6 nf (fun _ _ p2 v0 v1 v2 => ref_SingleCheck_l8 nf l' t117 p2 g4 nf v0 v1 v2) l' t117 g4 (ref_SingleCheck_l6 nf l' t117 g4 fu) from'2 b t125
def ref_SingleCheck_l4 (nf : Nat) (l' : List (List (Int × List Int × Unit) × List (Int × Int × Int × Int × Int × Unit) × Int × Int × Int × List Int × Unit)) : Nat → List (List Int) → Int → Option (Int × Unit)
  | 0, _, _ => none
  | fu + 1, from', t117 => ref_SingleCheck_b4 nf (fun _ p1 v0 v1 v2 => ref_SingleCheck_l6 nf l' p1 (fun from' t117 => ref_SingleCheck_l4 nf l'  fu from' t117) nf v0 v1 v2) l'  (ref_SingleCheck_l4 nf l'  fu) from' t117
def ref_SingleCheck_l2 (nf : Nat) (vars : Int) (l' : List (List (Int × List Int × Unit) × List (Int × Int × Int × Int × Int × Unit) × Int × Int × Int × List Int × Unit)) : Nat → Int → Option (Int × Unit)
  | 0, _ => none
  | fu + 1, t61 => ref_SingleCheck_b2 nf (fun _ v0 v1 => ref_SingleCheck_l4 nf l'  nf v0 v1) vars l'  (ref_SingleCheck_l2 nf vars l'  fu) t61
def ref_SingleCheck_l0 (nf : Nat) (vars : Int) (l' : List (List (Int × List Int × Unit) × List (Int × Int × Int × Int × Int × Unit) × Int × Int × Int × List Int × Unit)) : Nat → Int → Int → Int → Option (Int × Unit)
  | 0, _, _, _ => none
  | fu + 1, steps, joins, t20 => ref_SingleCheck_b0 nf (fun _ _ v0 => ref_SingleCheck_l2 nf vars l'  nf v0) vars l'  (ref_SingleCheck_l0 nf vars l'  fu) steps joins t20
def ref_SingleCheck_f (nf : Nat) (vars : Int) (l' : List (List (Int × List Int × Unit) × List (Int × Int × Int × Int × Int × Unit) × Int × Int × Int × List Int × Unit)) : Option (Int × Unit) := ref_SingleCheck_p nf (fun p0 p1 v0 v1 v2 => ref_SingleCheck_l0 nf p0 p1 nf v0 v1 v2) vars l'
noncomputable def ref_SingleCheck_L0 (nf : Nat) : LC (Int × Unit) := theL (findL tab (ref_SingleCheck_phi nf) (fun _ F => iter nf F) ref_SingleCheck_keep 0 0 (codeOf Try.f7) (fin tab [(Ty.int IntKind.i64, Md.bor false true)] (resL (none) Try.f7)) (fun _ _ => none) (fin tab [(Ty.int IntKind.i64, Md.bor false true)] (resL (none) Try.f7)))
def ref_SingleCheck_m0 (vars : Int) (l' : List (List (Int × List Int × Unit) × List (Int × Int × Int × Int × Int × Unit) × Int × Int × Int × List Int × Unit)) (steps : Int) (joins : Int) (t20 : Int) : St := ⟨fresh, [(0, AV.v (Ty.int IntKind.i64) (Md.bor false true) vars), (1, AV.v (((Ty.int IntKind.i64).pair ((Ty.int IntKind.i64).sl.pair Ty.unit)).sl.pair (((Ty.int IntKind.i64).pair ((Ty.int IntKind.i64).pair ((Ty.int IntKind.i64).pair ((Ty.int IntKind.i64).pair ((Ty.int IntKind.i64).pair Ty.unit))))).sl.pair ((Ty.int IntKind.i64).pair ((Ty.int IntKind.i64).pair ((Ty.int IntKind.i64).pair ((Ty.int IntKind.i64).sl.pair Ty.unit)))))).sl (Md.bor true false) l'), (5, AV.v (Ty.int IntKind.i64) (Md.bor false true) steps), (6, AV.v (Ty.int IntKind.i64) (Md.bor false true) joins), (18, AV.v (((Ty.int IntKind.i64).pair ((Ty.int IntKind.i64).sl.pair Ty.unit)).sl.pair (((Ty.int IntKind.i64).pair ((Ty.int IntKind.i64).pair ((Ty.int IntKind.i64).pair ((Ty.int IntKind.i64).pair ((Ty.int IntKind.i64).pair Ty.unit))))).sl.pair ((Ty.int IntKind.i64).pair ((Ty.int IntKind.i64).pair ((Ty.int IntKind.i64).pair ((Ty.int IntKind.i64).sl.pair Ty.unit)))))).sl (Md.bor true false) l'), (19, AV.v (Ty.int IntKind.i64) (Md.bor false true) (↑l'.length : Int)), (20, AV.v (Ty.int IntKind.i64) (Md.bor false true) t20)]⟩
noncomputable def ref_SingleCheck_L2 (nf : Nat) : LC (Int × Unit) := theL (findL tab (ref_SingleCheck_phi nf) (fun _ F => iter nf F) ref_SingleCheck_keep 2 0 (codeOf Try.f7) (fin tab [(Ty.int IntKind.i64, Md.bor false true)] (resL (none) Try.f7)) (fun _ _ => none) (fin tab [(Ty.int IntKind.i64, Md.bor false true)] (resL (none) Try.f7)))
def ref_SingleCheck_m2 (vars : Int) (l' : List (List (Int × List Int × Unit) × List (Int × Int × Int × Int × Int × Unit) × Int × Int × Int × List Int × Unit)) (t61 : Int) : St := ⟨fresh, [(0, AV.v (Ty.int IntKind.i64) (Md.bor false true) vars), (1, AV.v (((Ty.int IntKind.i64).pair ((Ty.int IntKind.i64).sl.pair Ty.unit)).sl.pair (((Ty.int IntKind.i64).pair ((Ty.int IntKind.i64).pair ((Ty.int IntKind.i64).pair ((Ty.int IntKind.i64).pair ((Ty.int IntKind.i64).pair Ty.unit))))).sl.pair ((Ty.int IntKind.i64).pair ((Ty.int IntKind.i64).pair ((Ty.int IntKind.i64).pair ((Ty.int IntKind.i64).sl.pair Ty.unit)))))).sl (Md.bor true false) l'), (59, AV.v (((Ty.int IntKind.i64).pair ((Ty.int IntKind.i64).sl.pair Ty.unit)).sl.pair (((Ty.int IntKind.i64).pair ((Ty.int IntKind.i64).pair ((Ty.int IntKind.i64).pair ((Ty.int IntKind.i64).pair ((Ty.int IntKind.i64).pair Ty.unit))))).sl.pair ((Ty.int IntKind.i64).pair ((Ty.int IntKind.i64).pair ((Ty.int IntKind.i64).pair ((Ty.int IntKind.i64).sl.pair Ty.unit)))))).sl (Md.bor true false) l'), (60, AV.v (Ty.int IntKind.i64) (Md.bor false true) (↑l'.length : Int)), (61, AV.v (Ty.int IntKind.i64) (Md.bor false true) t61)]⟩
noncomputable def ref_SingleCheck_L4 (nf : Nat) : LC (Int × Unit) := theL (findL tab (ref_SingleCheck_phi nf) (fun _ F => iter nf F) ref_SingleCheck_keep 4 0 (codeOf Try.f7) (fin tab [(Ty.int IntKind.i64, Md.bor false true)] (resL (none) Try.f7)) (fun _ _ => none) (fin tab [(Ty.int IntKind.i64, Md.bor false true)] (resL (none) Try.f7)))
def ref_SingleCheck_m4 (l' : List (List (Int × List Int × Unit) × List (Int × Int × Int × Int × Int × Unit) × Int × Int × Int × List Int × Unit)) (from' : List (List Int)) (t117 : Int) : St := ⟨fresh, [(1, AV.v (((Ty.int IntKind.i64).pair ((Ty.int IntKind.i64).sl.pair Ty.unit)).sl.pair (((Ty.int IntKind.i64).pair ((Ty.int IntKind.i64).pair ((Ty.int IntKind.i64).pair ((Ty.int IntKind.i64).pair ((Ty.int IntKind.i64).pair Ty.unit))))).sl.pair ((Ty.int IntKind.i64).pair ((Ty.int IntKind.i64).pair ((Ty.int IntKind.i64).pair ((Ty.int IntKind.i64).sl.pair Ty.unit)))))).sl (Md.bor true false) l'), (11, AV.ow 500011 (Ty.int IntKind.i64).sl.sl (Md.own false (Md.bor false false)) from'), (114, AV.dead), (115, AV.v (((Ty.int IntKind.i64).pair ((Ty.int IntKind.i64).sl.pair Ty.unit)).sl.pair (((Ty.int IntKind.i64).pair ((Ty.int IntKind.i64).pair ((Ty.int IntKind.i64).pair ((Ty.int IntKind.i64).pair ((Ty.int IntKind.i64).pair Ty.unit))))).sl.pair ((Ty.int IntKind.i64).pair ((Ty.int IntKind.i64).pair ((Ty.int IntKind.i64).pair ((Ty.int IntKind.i64).sl.pair Ty.unit)))))).sl (Md.bor true false) l'), (116, AV.v (Ty.int IntKind.i64) (Md.bor false true) (↑l'.length : Int)), (117, AV.v (Ty.int IntKind.i64) (Md.bor false true) t117)]⟩
noncomputable def ref_SingleCheck_L6 (nf : Nat) (G4 : St → Option (Int × Unit)) : LC (Int × Unit) := theL (findL tab (ref_SingleCheck_phi nf) (fun _ F => iter nf F) ref_SingleCheck_keep 6 4 (ref_SingleCheck_L4 nf ).c (fun st => norm (ref_SingleCheck_keep 4) st G4) (ref_SingleCheck_L4 nf ).Kx (ref_SingleCheck_L4 nf ).Kr)
def ref_SingleCheck_m6 (l' : List (List (Int × List Int × Unit) × List (Int × Int × Int × Int × Int × Unit) × Int × Int × Int × List Int × Unit)) (t117 : Int) (from'2 : List (List Int)) (b : List (Int × List Int × Unit) × List (Int × Int × Int × Int × Int × Unit) × Int × Int × Int × List Int × Unit) (t125 : Int) : St := ⟨fresh, [(1, AV.v (((Ty.int IntKind.i64).pair ((Ty.int IntKind.i64).sl.pair Ty.unit)).sl.pair (((Ty.int IntKind.i64).pair ((Ty.int IntKind.i64).pair ((Ty.int IntKind.i64).pair ((Ty.int IntKind.i64).pair ((Ty.int IntKind.i64).pair Ty.unit))))).sl.pair ((Ty.int IntKind.i64).pair ((Ty.int IntKind.i64).pair ((Ty.int IntKind.i64).pair ((Ty.int IntKind.i64).sl.pair Ty.unit)))))).sl (Md.bor true false) l'), (11, AV.ow 500011 (Ty.int IntKind.i64).sl.sl (Md.own false (Md.bor false false)) from'2), (12, AV.v (Ty.int IntKind.i64) (Md.bor false true) t117), (13, AV.box 13 500013 (((Ty.int IntKind.i64).pair ((Ty.int IntKind.i64).sl.pair Ty.unit)).sl.pair (((Ty.int IntKind.i64).pair ((Ty.int IntKind.i64).pair ((Ty.int IntKind.i64).pair ((Ty.int IntKind.i64).pair ((Ty.int IntKind.i64).pair Ty.unit))))).sl.pair ((Ty.int IntKind.i64).pair ((Ty.int IntKind.i64).pair ((Ty.int IntKind.i64).pair ((Ty.int IntKind.i64).sl.pair Ty.unit)))))) (Md.bor true false) b), (114, AV.dead), (115, AV.v (((Ty.int IntKind.i64).pair ((Ty.int IntKind.i64).sl.pair Ty.unit)).sl.pair (((Ty.int IntKind.i64).pair ((Ty.int IntKind.i64).pair ((Ty.int IntKind.i64).pair ((Ty.int IntKind.i64).pair ((Ty.int IntKind.i64).pair Ty.unit))))).sl.pair ((Ty.int IntKind.i64).pair ((Ty.int IntKind.i64).pair ((Ty.int IntKind.i64).pair ((Ty.int IntKind.i64).sl.pair Ty.unit)))))).sl (Md.bor true false) l'), (116, AV.v (Ty.int IntKind.i64) (Md.bor false true) (↑l'.length : Int)), (117, AV.v (Ty.int IntKind.i64) (Md.bor false true) t117), (122, AV.pl 13 13 [Stp.dr, Stp.fld 0]), (123, AV.v ((Ty.int IntKind.i64).pair ((Ty.int IntKind.i64).sl.pair Ty.unit)).sl (Md.bor true false) (l'.getD t117.toNat ([], [], 0, 0, 0, [], ())).fst), (124, AV.v (Ty.int IntKind.i64) (Md.bor false true) (↑(List.length (l'.getD t117.toNat ([], [], 0, 0, 0, [], ())).fst) : Int)), (125, AV.v (Ty.int IntKind.i64) (Md.bor false true) t125)]⟩
noncomputable def ref_SingleCheck_L8 (nf : Nat) (G4 : St → Option (Int × Unit)) : LC (Int × Unit) := theL (findL tab (ref_SingleCheck_phi nf) (fun _ F => iter nf F) ref_SingleCheck_keep 8 4 (ref_SingleCheck_L4 nf ).c (fun st => norm (ref_SingleCheck_keep 4) st G4) (ref_SingleCheck_L4 nf ).Kx (ref_SingleCheck_L4 nf ).Kr)
def ref_SingleCheck_m8 (l' : List (List (Int × List Int × Unit) × List (Int × Int × Int × Int × Int × Unit) × Int × Int × Int × List Int × Unit)) (t117 : Int) (b : List (Int × List Int × Unit) × List (Int × Int × Int × Int × Int × Unit) × Int × Int × Int × List Int × Unit) (from'3 : List (List Int)) (b2 : List (Int × List Int × Unit) × List (Int × Int × Int × Int × Int × Unit) × Int × Int × Int × List Int × Unit) (t153 : Int) : St := ⟨fresh, [(1, AV.v (((Ty.int IntKind.i64).pair ((Ty.int IntKind.i64).sl.pair Ty.unit)).sl.pair (((Ty.int IntKind.i64).pair ((Ty.int IntKind.i64).pair ((Ty.int IntKind.i64).pair ((Ty.int IntKind.i64).pair ((Ty.int IntKind.i64).pair Ty.unit))))).sl.pair ((Ty.int IntKind.i64).pair ((Ty.int IntKind.i64).pair ((Ty.int IntKind.i64).pair ((Ty.int IntKind.i64).sl.pair Ty.unit)))))).sl (Md.bor true false) l'), (11, AV.ow 500011 (Ty.int IntKind.i64).sl.sl (Md.own false (Md.bor false false)) from'3), (13, AV.box 13 500013 (((Ty.int IntKind.i64).pair ((Ty.int IntKind.i64).sl.pair Ty.unit)).sl.pair (((Ty.int IntKind.i64).pair ((Ty.int IntKind.i64).pair ((Ty.int IntKind.i64).pair ((Ty.int IntKind.i64).pair ((Ty.int IntKind.i64).pair Ty.unit))))).sl.pair ((Ty.int IntKind.i64).pair ((Ty.int IntKind.i64).pair ((Ty.int IntKind.i64).pair ((Ty.int IntKind.i64).sl.pair Ty.unit)))))) (Md.bor true false) b2), (114, AV.dead), (115, AV.v (((Ty.int IntKind.i64).pair ((Ty.int IntKind.i64).sl.pair Ty.unit)).sl.pair (((Ty.int IntKind.i64).pair ((Ty.int IntKind.i64).pair ((Ty.int IntKind.i64).pair ((Ty.int IntKind.i64).pair ((Ty.int IntKind.i64).pair Ty.unit))))).sl.pair ((Ty.int IntKind.i64).pair ((Ty.int IntKind.i64).pair ((Ty.int IntKind.i64).pair ((Ty.int IntKind.i64).sl.pair Ty.unit)))))).sl (Md.bor true false) l'), (116, AV.v (Ty.int IntKind.i64) (Md.bor false true) (↑l'.length : Int)), (117, AV.v (Ty.int IntKind.i64) (Md.bor false true) t117), (150, AV.pl 13 13 [Stp.dr, Stp.fld 1]), (151, AV.v ((Ty.int IntKind.i64).pair ((Ty.int IntKind.i64).pair ((Ty.int IntKind.i64).pair ((Ty.int IntKind.i64).pair ((Ty.int IntKind.i64).pair Ty.unit))))).sl (Md.bor true false) b.snd.fst), (152, AV.v (Ty.int IntKind.i64) (Md.bor false true) (↑(List.length b.snd.fst) : Int)), (153, AV.v (Ty.int IntKind.i64) (Md.bor false true) t153)]⟩
theorem ref_SingleCheck_h8 (nf : Nat) (G4 : St → Option (Int × Unit)) (l' : List (List (Int × List Int × Unit) × List (Int × Int × Int × Int × Int × Unit) × Int × Int × Int × List Int × Unit)) (t117 : Int) (b : List (Int × List Int × Unit) × List (Int × Int × Int × Int × Int × Unit) × Int × Int × Int × List Int × Unit) (fu : Nat) (from'3 : List (List Int)) (b2 : List (Int × List Int × Unit) × List (Int × Int × Int × Int × Int × Unit) × Int × Int × Int × List Int × Unit) (t153 : Int) : iter (fu + 1) (LC.F tab (ref_SingleCheck_phi nf) (fun _ F => iter nf F) ref_SingleCheck_keep 8 (ref_SingleCheck_L8 nf G4)) (ref_SingleCheck_m8 l' t117 b from'3 b2 t153) = ref_SingleCheck_b8 nf  l' t117 b (fun from' t117 => G4 (ref_SingleCheck_m4 l' from' t117)) (fun from'3 b2 t153 => iter fu (LC.F tab (ref_SingleCheck_phi nf) (fun _ F => iter nf F) ref_SingleCheck_keep 8 (ref_SingleCheck_L8 nf G4)) (ref_SingleCheck_m8 l' t117 b from'3 b2 t153)) from'3 b2 t153 := by kernel_rfl
theorem ref_SingleCheck_e8 (nf : Nat) (G4 : St → Option (Int × Unit)) (l' : List (List (Int × List Int × Unit) × List (Int × Int × Int × Int × Int × Unit) × Int × Int × Int × List Int × Unit)) (t117 : Int) (b : List (Int × List Int × Unit) × List (Int × Int × Int × Int × Int × Unit) × Int × Int × Int × List Int × Unit) : ∀ (fu : Nat) (from'3 : List (List Int)) (b2 : List (Int × List Int × Unit) × List (Int × Int × Int × Int × Int × Unit) × Int × Int × Int × List Int × Unit) (t153 : Int), iter fu (LC.F tab (ref_SingleCheck_phi nf) (fun _ F => iter nf F) ref_SingleCheck_keep 8 (ref_SingleCheck_L8 nf G4)) (ref_SingleCheck_m8 l' t117 b from'3 b2 t153) = ref_SingleCheck_l8 nf l' t117 b (fun from' t117 => G4 (ref_SingleCheck_m4 l' from' t117)) fu from'3 b2 t153 := by
  intro fu
  induction fu with
  | zero => intros; rfl
  | succ fu ih =>
    intro from'3 b2 t153
    rw [ref_SingleCheck_h8 nf G4 l' t117 b fu from'3 b2 t153]
    simp only [ih]
    rfl
theorem ref_SingleCheck_h6 (nf : Nat) (G4 : St → Option (Int × Unit)) (l' : List (List (Int × List Int × Unit) × List (Int × Int × Int × Int × Int × Unit) × Int × Int × Int × List Int × Unit)) (t117 : Int) (fu : Nat) (from'2 : List (List Int)) (b : List (Int × List Int × Unit) × List (Int × Int × Int × Int × Int × Unit) × Int × Int × Int × List Int × Unit) (t125 : Int) : iter (fu + 1) (LC.F tab (ref_SingleCheck_phi nf) (fun _ F => iter nf F) ref_SingleCheck_keep 6 (ref_SingleCheck_L6 nf G4)) (ref_SingleCheck_m6 l' t117 from'2 b t125) = ref_SingleCheck_b6 nf (fun _ _ p2 v0 v1 v2 => iter nf (LC.F tab (ref_SingleCheck_phi nf) (fun _ F => iter nf F) ref_SingleCheck_keep 8 (ref_SingleCheck_L8 nf G4)) (ref_SingleCheck_m8 l' t117 p2 v0 v1 v2)) l' t117 (fun from' t117 => G4 (ref_SingleCheck_m4 l' from' t117)) (fun from'2 b t125 => iter fu (LC.F tab (ref_SingleCheck_phi nf) (fun _ F => iter nf F) ref_SingleCheck_keep 6 (ref_SingleCheck_L6 nf G4)) (ref_SingleCheck_m6 l' t117 from'2 b t125)) from'2 b t125 := by kernel_rfl
theorem ref_SingleCheck_e6 (nf : Nat) (G4 : St → Option (Int × Unit)) (l' : List (List (Int × List Int × Unit) × List (Int × Int × Int × Int × Int × Unit) × Int × Int × Int × List Int × Unit)) (t117 : Int) : ∀ (fu : Nat) (from'2 : List (List Int)) (b : List (Int × List Int × Unit) × List (Int × Int × Int × Int × Int × Unit) × Int × Int × Int × List Int × Unit) (t125 : Int), iter fu (LC.F tab (ref_SingleCheck_phi nf) (fun _ F => iter nf F) ref_SingleCheck_keep 6 (ref_SingleCheck_L6 nf G4)) (ref_SingleCheck_m6 l' t117 from'2 b t125) = ref_SingleCheck_l6 nf l' t117 (fun from' t117 => G4 (ref_SingleCheck_m4 l' from' t117)) fu from'2 b t125 := by
  intro fu
  induction fu with
  | zero => intros; rfl
  | succ fu ih =>
    intro from'2 b t125
    rw [ref_SingleCheck_h6 nf G4 l' t117 fu from'2 b t125]
    simp only [ih, ref_SingleCheck_e8]
    rfl
theorem ref_SingleCheck_h4 (nf : Nat)  (l' : List (List (Int × List Int × Unit) × List (Int × Int × Int × Int × Int × Unit) × Int × Int × Int × List Int × Unit)) (fu : Nat) (from' : List (List Int)) (t117 : Int) : iter (fu + 1) (LC.F tab (ref_SingleCheck_phi nf) (fun _ F => iter nf F) ref_SingleCheck_keep 4 (ref_SingleCheck_L4 nf )) (ref_SingleCheck_m4 l' from' t117) = ref_SingleCheck_b4 nf (fun _ p1 v0 v1 v2 => iter nf (LC.F tab (ref_SingleCheck_phi nf) (fun _ F => iter nf F) ref_SingleCheck_keep 6 (ref_SingleCheck_L6 nf (iter fu (LC.F tab (ref_SingleCheck_phi nf) (fun _ F => iter nf F) ref_SingleCheck_keep 4 (ref_SingleCheck_L4 nf ))))) (ref_SingleCheck_m6 l' p1 v0 v1 v2)) l'  (fun from' t117 => iter fu (LC.F tab (ref_SingleCheck_phi nf) (fun _ F => iter nf F) ref_SingleCheck_keep 4 (ref_SingleCheck_L4 nf )) (ref_SingleCheck_m4 l' from' t117)) from' t117 := by kernel_rfl
theorem ref_SingleCheck_e4 (nf : Nat)  (l' : List (List (Int × List Int × Unit) × List (Int × Int × Int × Int × Int × Unit) × Int × Int × Int × List Int × Unit)) : ∀ (fu : Nat) (from' : List (List Int)) (t117 : Int), iter fu (LC.F tab (ref_SingleCheck_phi nf) (fun _ F => iter nf F) ref_SingleCheck_keep 4 (ref_SingleCheck_L4 nf )) (ref_SingleCheck_m4 l' from' t117) = ref_SingleCheck_l4 nf l'  fu from' t117 := by
  intro fu
  induction fu with
  | zero => intros; rfl
  | succ fu ih =>
    intro from' t117
    rw [ref_SingleCheck_h4 nf  l' fu from' t117]
    simp only [ih, ref_SingleCheck_e6]
    rfl
theorem ref_SingleCheck_h2 (nf : Nat)  (vars : Int) (l' : List (List (Int × List Int × Unit) × List (Int × Int × Int × Int × Int × Unit) × Int × Int × Int × List Int × Unit)) (fu : Nat) (t61 : Int) : iter (fu + 1) (LC.F tab (ref_SingleCheck_phi nf) (fun _ F => iter nf F) ref_SingleCheck_keep 2 (ref_SingleCheck_L2 nf )) (ref_SingleCheck_m2 vars l' t61) = ref_SingleCheck_b2 nf (fun _ v0 v1 => iter nf (LC.F tab (ref_SingleCheck_phi nf) (fun _ F => iter nf F) ref_SingleCheck_keep 4 (ref_SingleCheck_L4 nf )) (ref_SingleCheck_m4 l' v0 v1)) vars l'  (fun t61 => iter fu (LC.F tab (ref_SingleCheck_phi nf) (fun _ F => iter nf F) ref_SingleCheck_keep 2 (ref_SingleCheck_L2 nf )) (ref_SingleCheck_m2 vars l' t61)) t61 := by kernel_rfl
theorem ref_SingleCheck_e2 (nf : Nat)  (vars : Int) (l' : List (List (Int × List Int × Unit) × List (Int × Int × Int × Int × Int × Unit) × Int × Int × Int × List Int × Unit)) : ∀ (fu : Nat) (t61 : Int), iter fu (LC.F tab (ref_SingleCheck_phi nf) (fun _ F => iter nf F) ref_SingleCheck_keep 2 (ref_SingleCheck_L2 nf )) (ref_SingleCheck_m2 vars l' t61) = ref_SingleCheck_l2 nf vars l'  fu t61 := by
  intro fu
  induction fu with
  | zero => intros; rfl
  | succ fu ih =>
    intro t61
    rw [ref_SingleCheck_h2 nf  vars l' fu t61]
    simp only [ih, ref_SingleCheck_e4]
    rfl
theorem ref_SingleCheck_h0 (nf : Nat)  (vars : Int) (l' : List (List (Int × List Int × Unit) × List (Int × Int × Int × Int × Int × Unit) × Int × Int × Int × List Int × Unit)) (fu : Nat) (steps : Int) (joins : Int) (t20 : Int) : iter (fu + 1) (LC.F tab (ref_SingleCheck_phi nf) (fun _ F => iter nf F) ref_SingleCheck_keep 0 (ref_SingleCheck_L0 nf )) (ref_SingleCheck_m0 vars l' steps joins t20) = ref_SingleCheck_b0 nf (fun _ _ v0 => iter nf (LC.F tab (ref_SingleCheck_phi nf) (fun _ F => iter nf F) ref_SingleCheck_keep 2 (ref_SingleCheck_L2 nf )) (ref_SingleCheck_m2 vars l' v0)) vars l'  (fun steps joins t20 => iter fu (LC.F tab (ref_SingleCheck_phi nf) (fun _ F => iter nf F) ref_SingleCheck_keep 0 (ref_SingleCheck_L0 nf )) (ref_SingleCheck_m0 vars l' steps joins t20)) steps joins t20 := by kernel_rfl
theorem ref_SingleCheck_e0 (nf : Nat)  (vars : Int) (l' : List (List (Int × List Int × Unit) × List (Int × Int × Int × Int × Int × Unit) × Int × Int × Int × List Int × Unit)) : ∀ (fu : Nat) (steps : Int) (joins : Int) (t20 : Int), iter fu (LC.F tab (ref_SingleCheck_phi nf) (fun _ F => iter nf F) ref_SingleCheck_keep 0 (ref_SingleCheck_L0 nf )) (ref_SingleCheck_m0 vars l' steps joins t20) = ref_SingleCheck_l0 nf vars l'  fu steps joins t20 := by
  intro fu
  induction fu with
  | zero => intros; rfl
  | succ fu ih =>
    intro steps joins t20
    rw [ref_SingleCheck_h0 nf  vars l' fu steps joins t20]
    simp only [ih, ref_SingleCheck_e2]
    rfl
theorem ref_SingleCheck_eq (nf : Nat) (vars : Int) (l' : List (List (Int × List Int × Unit) × List (Int × Int × Int × Int × Int × Unit) × Int × Int × Int × List Int × Unit)) : runF tab (ref_SingleCheck_phi nf) ref_SingleCheck_keep nf [PT.val (Ty.int IntKind.i64) (Md.bor true false), PT.val (((Ty.int IntKind.i64).pair ((Ty.int IntKind.i64).sl.pair Ty.unit)).sl.pair (((Ty.int IntKind.i64).pair ((Ty.int IntKind.i64).pair ((Ty.int IntKind.i64).pair ((Ty.int IntKind.i64).pair ((Ty.int IntKind.i64).pair Ty.unit))))).sl.pair ((Ty.int IntKind.i64).pair ((Ty.int IntKind.i64).pair ((Ty.int IntKind.i64).pair ((Ty.int IntKind.i64).sl.pair Ty.unit)))))).sl (Md.bor true false)] [(Ty.int IntKind.i64, Md.bor false true)] (resL (none) Try.f7) (codeOf Try.f7) ⟨vars, l', ()⟩ = ref_SingleCheck_f nf vars l' := by
  have h : runF tab (ref_SingleCheck_phi nf) ref_SingleCheck_keep nf [PT.val (Ty.int IntKind.i64) (Md.bor true false), PT.val (((Ty.int IntKind.i64).pair ((Ty.int IntKind.i64).sl.pair Ty.unit)).sl.pair (((Ty.int IntKind.i64).pair ((Ty.int IntKind.i64).pair ((Ty.int IntKind.i64).pair ((Ty.int IntKind.i64).pair ((Ty.int IntKind.i64).pair Ty.unit))))).sl.pair ((Ty.int IntKind.i64).pair ((Ty.int IntKind.i64).pair ((Ty.int IntKind.i64).pair ((Ty.int IntKind.i64).sl.pair Ty.unit)))))).sl (Md.bor true false)] [(Ty.int IntKind.i64, Md.bor false true)] (resL (none) Try.f7) (codeOf Try.f7) ⟨vars, l', ()⟩ = ref_SingleCheck_p nf (fun p0 p1 v0 v1 v2 => iter nf (LC.F tab (ref_SingleCheck_phi nf) (fun _ F => iter nf F) ref_SingleCheck_keep 0 (ref_SingleCheck_L0 nf)) (ref_SingleCheck_m0 p0 p1 v0 v1 v2)) vars l' := by kernel_rfl
  rw [h]
  simp only [ref_SingleCheck_e0]
  rfl
def ref_SingleCheck_F (nf : Nat) (x : denPs [.val (.int .i64) (.bor true false), .val (.sl (.pair (.sl (.pair (.int .i64) (.pair (.sl (.int .i64)) (.unit)))) (.pair (.sl (.pair (.int .i64) (.pair (.int .i64) (.pair (.int .i64) (.pair (.int .i64) (.pair (.int .i64) (.unit))))))) (.pair (.int .i64) (.pair (.int .i64) (.pair (.int .i64) (.pair (.sl (.int .i64)) (.unit)))))))) (.bor true false)]) : Option (denL [(.int .i64, .bor false true)]) := ref_SingleCheck_f nf x.1 x.2.1
def ref_SingleCheck_C (nf : Nat) : Contract := ⟨[.val (.int .i64) (.bor true false), .val (.sl (.pair (.sl (.pair (.int .i64) (.pair (.sl (.int .i64)) (.unit)))) (.pair (.sl (.pair (.int .i64) (.pair (.int .i64) (.pair (.int .i64) (.pair (.int .i64) (.pair (.int .i64) (.unit))))))) (.pair (.int .i64) (.pair (.int .i64) (.pair (.int .i64) (.pair (.sl (.int .i64)) (.unit)))))))) (.bor true false)], [(.int .i64, .bor false true)], ref_SingleCheck_F nf, none⟩
theorem ref_SingleCheck_ok : FnOK Try.prog 7 := ⟨Try.f7, codeOf Try.f7, Try.func7, by kernel_rfl, by kernel_rfl⟩
theorem ref_SingleCheck_holds (nf : Nat) : Contract.Holds Try.prog 7 (ref_SingleCheck_C nf) :=
  fn_holds (Φ := ref_SingleCheck_phi nf) (keep := ref_SingleCheck_keep) (n := nf) ⟨tabs.1, tabs.2, (ctx_cons ref_Inside_ok (ref_Inside_holds nf) (ctx_cons ref_Froms_ok (ref_Froms_holds nf) (ctx_cons ref_Nexts_ok (ref_Nexts_holds nf) (ctx_cons ref_Bare_ok (ref_Bare_holds nf) (ctx_cons ref_Value_ok (ref_Value_holds nf) ctx_nil))))), mixed⟩ (fn := Try.f7) ⟨Try.func7, by kernel_rfl, by kernel_rfl, by kernel_rfl⟩ (fun x => ref_SingleCheck_eq nf x.1 x.2.1)

/-! codemason codemasonlaw.SingleChecks -/
def law_SingleChecks_phi (nf : Nat) : Nat → Option Contract := lookC [(6, single_Check_C nf), (7, ref_SingleCheck_C nf)]
def law_SingleChecks_keep : Nat → List Nat := lookK []
def law_SingleChecks_p (nf : Nat)  (vars : Int) (l' : List (List (Int × List Int × Unit) × List (Int × Int × Int × Int × Int × Unit) × Int × Int × Int × List Int × Unit)) : Option (Bool × Unit) :=
  Option.bind (single_Check_f nf vars l') fun r =>
  Option.bind (ref_SingleCheck_f nf vars l') fun r2 =>
  some ((r.fst == r2.fst, ()))
def law_SingleChecks_f (nf : Nat) (vars : Int) (l' : List (List (Int × List Int × Unit) × List (Int × Int × Int × Int × Int × Unit) × Int × Int × Int × List Int × Unit)) : Option (Bool × Unit) := law_SingleChecks_p nf  vars l'
theorem law_SingleChecks_eq (nf : Nat) (vars : Int) (l' : List (List (Int × List Int × Unit) × List (Int × Int × Int × Int × Int × Unit) × Int × Int × Int × List Int × Unit)) : runF tab (law_SingleChecks_phi nf) law_SingleChecks_keep nf [PT.val (Ty.int IntKind.i64) (Md.bor true false), PT.val (((Ty.int IntKind.i64).pair ((Ty.int IntKind.i64).sl.pair Ty.unit)).sl.pair (((Ty.int IntKind.i64).pair ((Ty.int IntKind.i64).pair ((Ty.int IntKind.i64).pair ((Ty.int IntKind.i64).pair ((Ty.int IntKind.i64).pair Ty.unit))))).sl.pair ((Ty.int IntKind.i64).pair ((Ty.int IntKind.i64).pair ((Ty.int IntKind.i64).pair ((Ty.int IntKind.i64).sl.pair Ty.unit)))))).sl (Md.bor true false)] [(Ty.bool, Md.bor false true)] (resL (none) Try.f3) (codeOf Try.f3) ⟨vars, l', ()⟩ = law_SingleChecks_f nf vars l' := by
  have h : runF tab (law_SingleChecks_phi nf) law_SingleChecks_keep nf [PT.val (Ty.int IntKind.i64) (Md.bor true false), PT.val (((Ty.int IntKind.i64).pair ((Ty.int IntKind.i64).sl.pair Ty.unit)).sl.pair (((Ty.int IntKind.i64).pair ((Ty.int IntKind.i64).pair ((Ty.int IntKind.i64).pair ((Ty.int IntKind.i64).pair ((Ty.int IntKind.i64).pair Ty.unit))))).sl.pair ((Ty.int IntKind.i64).pair ((Ty.int IntKind.i64).pair ((Ty.int IntKind.i64).pair ((Ty.int IntKind.i64).sl.pair Ty.unit)))))).sl (Md.bor true false)] [(Ty.bool, Md.bor false true)] (resL (none) Try.f3) (codeOf Try.f3) ⟨vars, l', ()⟩ = law_SingleChecks_p nf  vars l' := by kernel_rfl
  exact h
def law_SingleChecks_F (nf : Nat) (x : denPs [.val (.int .i64) (.bor true false), .val (.sl (.pair (.sl (.pair (.int .i64) (.pair (.sl (.int .i64)) (.unit)))) (.pair (.sl (.pair (.int .i64) (.pair (.int .i64) (.pair (.int .i64) (.pair (.int .i64) (.pair (.int .i64) (.unit))))))) (.pair (.int .i64) (.pair (.int .i64) (.pair (.int .i64) (.pair (.sl (.int .i64)) (.unit)))))))) (.bor true false)]) : Option (denL [(.bool, .bor false true)]) := law_SingleChecks_f nf x.1 x.2.1
def law_SingleChecks_C (nf : Nat) : Contract := ⟨[.val (.int .i64) (.bor true false), .val (.sl (.pair (.sl (.pair (.int .i64) (.pair (.sl (.int .i64)) (.unit)))) (.pair (.sl (.pair (.int .i64) (.pair (.int .i64) (.pair (.int .i64) (.pair (.int .i64) (.pair (.int .i64) (.unit))))))) (.pair (.int .i64) (.pair (.int .i64) (.pair (.int .i64) (.pair (.sl (.int .i64)) (.unit)))))))) (.bor true false)], [(.bool, .bor false true)], law_SingleChecks_F nf, none⟩
theorem law_SingleChecks_ok : FnOK Try.prog 3 := ⟨Try.f3, codeOf Try.f3, Try.func3, by kernel_rfl, by kernel_rfl⟩
theorem law_SingleChecks_holds (nf : Nat) : Contract.Holds Try.prog 3 (law_SingleChecks_C nf) :=
  fn_holds (Φ := law_SingleChecks_phi nf) (keep := law_SingleChecks_keep) (n := nf) ⟨tabs.1, tabs.2, (ctx_cons single_Check_ok (single_Check_holds nf) (ctx_cons ref_SingleCheck_ok (ref_SingleCheck_holds nf) ctx_nil)), mixed⟩ (fn := Try.f3) ⟨Try.func3, by kernel_rfl, by kernel_rfl, by kernel_rfl⟩ (fun x => law_SingleChecks_eq nf x.1 x.2.1)

/-! codemason term.Do -/
def term_Do_phi (nf : Nat) : Nat → Option Contract := lookC []
def term_Do_keep : Nat → List Nat := lookK []
def term_Do_p (nf : Nat)  (op : Int) (a : Int) (b : Int) : Option (Int × Unit) :=
  bif op == 3 then
    some ((IntKind.i64.wrap (↑(BitVec.ofInt IntKind.i64.bits (IntKind.i64.wrap (a + b)) &&& BitVec.ofInt IntKind.i64.bits 255).toNat : Int), ()))
  else
    bif op == 4 then
      some ((IntKind.i64.wrap (↑(BitVec.ofInt IntKind.i64.bits (IntKind.i64.wrap (a - b)) &&& BitVec.ofInt IntKind.i64.bits 255).toNat : Int), ()))
    else
      bif op == 5 then
        some ((IntKind.i64.wrap (↑(BitVec.ofInt IntKind.i64.bits (IntKind.i64.wrap (a * b)) &&& BitVec.ofInt IntKind.i64.bits 255).toNat : Int), ()))
      else
        bif decide (a < b) then
          some ((1, ()))
        else
          some ((0, ()))
def term_Do_f (nf : Nat) (op : Int) (a : Int) (b : Int) : Option (Int × Unit) := term_Do_p nf  op a b
theorem term_Do_eq (nf : Nat) (op : Int) (a : Int) (b : Int) : runF tab (term_Do_phi nf) term_Do_keep nf [PT.val (Ty.int IntKind.i64) (Md.bor true false), PT.val (Ty.int IntKind.i64) (Md.bor true false), PT.val (Ty.int IntKind.i64) (Md.bor true false)] [(Ty.int IntKind.i64, Md.bor false true)] (resL (none) Try.f44) (codeOf Try.f44) ⟨op, a, b, ()⟩ = term_Do_f nf op a b := by
  have h : runF tab (term_Do_phi nf) term_Do_keep nf [PT.val (Ty.int IntKind.i64) (Md.bor true false), PT.val (Ty.int IntKind.i64) (Md.bor true false), PT.val (Ty.int IntKind.i64) (Md.bor true false)] [(Ty.int IntKind.i64, Md.bor false true)] (resL (none) Try.f44) (codeOf Try.f44) ⟨op, a, b, ()⟩ = term_Do_p nf  op a b := by kernel_rfl
  exact h
def term_Do_F (nf : Nat) (x : denPs [.val (.int .i64) (.bor true false), .val (.int .i64) (.bor true false), .val (.int .i64) (.bor true false)]) : Option (denL [(.int .i64, .bor false true)]) := term_Do_f nf x.1 x.2.1 x.2.2.1
def term_Do_C (nf : Nat) : Contract := ⟨[.val (.int .i64) (.bor true false), .val (.int .i64) (.bor true false), .val (.int .i64) (.bor true false)], [(.int .i64, .bor false true)], term_Do_F nf, none⟩
theorem term_Do_ok : FnOK Try.prog 44 := ⟨Try.f44, codeOf Try.f44, Try.func44, by kernel_rfl, by kernel_rfl⟩
theorem term_Do_holds (nf : Nat) : Contract.Holds Try.prog 44 (term_Do_C nf) :=
  fn_holds (Φ := term_Do_phi nf) (keep := term_Do_keep) (n := nf) ⟨tabs.1, tabs.2, ctx_nil, mixed⟩ (fn := Try.f44) ⟨Try.func44, by kernel_rfl, by kernel_rfl, by kernel_rfl⟩ (fun x => term_Do_eq nf x.1 x.2.1 x.2.2.1)

/-! codemason term.Have 1 -/
def term_Have_1_phi (nf : Nat) : Nat → Option Contract := lookC []
def term_Have_1_keep : Nat → List Nat := lookK []
def term_Have_1_p (nf : Nat)  (x : Int) : Option (Bool × Unit) :=
  bif decide (x < 0) then
    some ((true, ()))
  else
    some ((decide (x > 255), ()))
def term_Have_1_f (nf : Nat) (x : Int) : Option (Bool × Unit) := term_Have_1_p nf  x
theorem term_Have_1_eq (nf : Nat) (x : Int) : runF tab (term_Have_1_phi nf) term_Have_1_keep nf [PT.val (Ty.int IntKind.i64) (Md.bor true false)] [(Ty.bool, Md.bor false true)] (resL (none) Try.f43) (codeOf Try.f43) ⟨x, ()⟩ = term_Have_1_f nf x := by
  have h : runF tab (term_Have_1_phi nf) term_Have_1_keep nf [PT.val (Ty.int IntKind.i64) (Md.bor true false)] [(Ty.bool, Md.bor false true)] (resL (none) Try.f43) (codeOf Try.f43) ⟨x, ()⟩ = term_Have_1_p nf  x := by kernel_rfl
  exact h
def term_Have_1_F (nf : Nat) (x : denPs [.val (.int .i64) (.bor true false)]) : Option (denL [(.bool, .bor false true)]) := term_Have_1_f nf x.1
def term_Have_1_C (nf : Nat) : Contract := ⟨[.val (.int .i64) (.bor true false)], [(.bool, .bor false true)], term_Have_1_F nf, none⟩
theorem term_Have_1_ok : FnOK Try.prog 43 := ⟨Try.f43, codeOf Try.f43, Try.func43, by kernel_rfl, by kernel_rfl⟩
theorem term_Have_1_holds (nf : Nat) : Contract.Holds Try.prog 43 (term_Have_1_C nf) :=
  fn_holds (Φ := term_Have_1_phi nf) (keep := term_Have_1_keep) (n := nf) ⟨tabs.1, tabs.2, ctx_nil, mixed⟩ (fn := Try.f43) ⟨Try.func43, by kernel_rfl, by kernel_rfl, by kernel_rfl⟩ (fun x => term_Have_1_eq nf x.1)

/-! slices.IndexFunc   int int  codemason term.Have 1 -/
def slices_IndexFunc__term_Have_1_phi (nf : Nat) : Nat → Option Contract := lookC [(43, term_Have_1_C nf)]
def slices_IndexFunc__term_Have_1_keep : Nat → List Nat := lookK [(0, [0, 1, 7, 8])]
def slices_IndexFunc__term_Have_1_b0 (nf : Nat) (s : List Int) (g0 : Int → Option (Int × Unit)) (t8 : Int) : Option (Int × Unit) :=
  bif decide (t8 < (↑s.length : Int)) then
    bif inb t8 s.length then
      Option.bind (term_Have_1_f nf (s.getD t8.toNat 0)) fun r =>
      bif r.fst then
        some ((t8, ()))
      else
        g0 (IntKind.i64.wrap (t8 + 1))
    else
      none
  else
    some ((-1, ()))
def slices_IndexFunc__term_Have_1_p (nf : Nat) (l0 : List Int → Int → Option (Int × Unit)) (s : List Int) (f : Unit) : Option (Int × Unit) :=
  l0 s 0
def slices_IndexFunc__term_Have_1_l0 (nf : Nat) (s : List Int) : Nat → Int → Option (Int × Unit)
  | 0, _ => none
  | fu + 1, t8 => slices_IndexFunc__term_Have_1_b0 nf  s  (slices_IndexFunc__term_Have_1_l0 nf s  fu) t8
def slices_IndexFunc__term_Have_1_f (nf : Nat) (s : List Int) (f : Unit) : Option (Int × Unit) := slices_IndexFunc__term_Have_1_p nf (fun p0 v0 => slices_IndexFunc__term_Have_1_l0 nf p0 nf v0) s f
noncomputable def slices_IndexFunc__term_Have_1_L0 (nf : Nat) : LC (Int × Unit) := theL (findL tab (slices_IndexFunc__term_Have_1_phi nf) (fun _ F => iter nf F) slices_IndexFunc__term_Have_1_keep 0 0 (codeOf Try.f49) (fin tab [(Ty.int IntKind.i64, Md.bor false true)] (resL (none) Try.f49)) (fun _ _ => none) (fin tab [(Ty.int IntKind.i64, Md.bor false true)] (resL (none) Try.f49)))
def slices_IndexFunc__term_Have_1_m0 (s : List Int) (t8 : Int) : St := ⟨fresh, [(0, AV.v (Ty.int IntKind.i64).sl (Md.bor true false) s), (1, AV.clo 43 []), (7, AV.v (Ty.int IntKind.i64) (Md.bor false true) (↑s.length : Int)), (8, AV.v (Ty.int IntKind.i64) (Md.bor false true) t8)]⟩
theorem slices_IndexFunc__term_Have_1_h0 (nf : Nat)  (s : List Int) (fu : Nat) (t8 : Int) : iter (fu + 1) (LC.F tab (slices_IndexFunc__term_Have_1_phi nf) (fun _ F => iter nf F) slices_IndexFunc__term_Have_1_keep 0 (slices_IndexFunc__term_Have_1_L0 nf )) (slices_IndexFunc__term_Have_1_m0 s t8) = slices_IndexFunc__term_Have_1_b0 nf  s  (fun t8 => iter fu (LC.F tab (slices_IndexFunc__term_Have_1_phi nf) (fun _ F => iter nf F) slices_IndexFunc__term_Have_1_keep 0 (slices_IndexFunc__term_Have_1_L0 nf )) (slices_IndexFunc__term_Have_1_m0 s t8)) t8 := by kernel_rfl
theorem slices_IndexFunc__term_Have_1_e0 (nf : Nat)  (s : List Int) : ∀ (fu : Nat) (t8 : Int), iter fu (LC.F tab (slices_IndexFunc__term_Have_1_phi nf) (fun _ F => iter nf F) slices_IndexFunc__term_Have_1_keep 0 (slices_IndexFunc__term_Have_1_L0 nf )) (slices_IndexFunc__term_Have_1_m0 s t8) = slices_IndexFunc__term_Have_1_l0 nf s  fu t8 := by
  intro fu
  induction fu with
  | zero => intros; rfl
  | succ fu ih =>
    intro t8
    rw [slices_IndexFunc__term_Have_1_h0 nf  s fu t8]
    simp only [ih]
    rfl
theorem slices_IndexFunc__term_Have_1_eq (nf : Nat) (s : List Int) (f : Unit) : runF tab (slices_IndexFunc__term_Have_1_phi nf) slices_IndexFunc__term_Have_1_keep nf [PT.val (Ty.int IntKind.i64).sl (Md.bor true false), PT.clo 43 []] [(Ty.int IntKind.i64, Md.bor false true)] (resL (none) Try.f49) (codeOf Try.f49) ⟨s, f, ()⟩ = slices_IndexFunc__term_Have_1_f nf s f := by
  have h : runF tab (slices_IndexFunc__term_Have_1_phi nf) slices_IndexFunc__term_Have_1_keep nf [PT.val (Ty.int IntKind.i64).sl (Md.bor true false), PT.clo 43 []] [(Ty.int IntKind.i64, Md.bor false true)] (resL (none) Try.f49) (codeOf Try.f49) ⟨s, f, ()⟩ = slices_IndexFunc__term_Have_1_p nf (fun p0 v0 => iter nf (LC.F tab (slices_IndexFunc__term_Have_1_phi nf) (fun _ F => iter nf F) slices_IndexFunc__term_Have_1_keep 0 (slices_IndexFunc__term_Have_1_L0 nf)) (slices_IndexFunc__term_Have_1_m0 p0 v0)) s f := by kernel_rfl
  rw [h]
  simp only [slices_IndexFunc__term_Have_1_e0]
  rfl
def slices_IndexFunc__term_Have_1_F (nf : Nat) (x : denPs [.val (.sl (.int .i64)) (.bor true false), .clo 43 []]) : Option (denL [(.int .i64, .bor false true)]) := slices_IndexFunc__term_Have_1_f nf x.1 x.2.1
def slices_IndexFunc__term_Have_1_C (nf : Nat) : Contract := ⟨[.val (.sl (.int .i64)) (.bor true false), .clo 43 []], [(.int .i64, .bor false true)], slices_IndexFunc__term_Have_1_F nf, none⟩
theorem slices_IndexFunc__term_Have_1_ok : FnOK Try.prog 49 := ⟨Try.f49, codeOf Try.f49, Try.func49, by kernel_rfl, by kernel_rfl⟩
theorem slices_IndexFunc__term_Have_1_holds (nf : Nat) : Contract.Holds Try.prog 49 (slices_IndexFunc__term_Have_1_C nf) :=
  fn_holds (Φ := slices_IndexFunc__term_Have_1_phi nf) (keep := slices_IndexFunc__term_Have_1_keep) (n := nf) ⟨tabs.1, tabs.2, (ctx_cons term_Have_1_ok (term_Have_1_holds nf) ctx_nil), mixed⟩ (fn := Try.f49) ⟨Try.func49, by kernel_rfl, by kernel_rfl, by kernel_rfl⟩ (fun x => slices_IndexFunc__term_Have_1_eq nf x.1 x.2.1)

/-! slices.ContainsFunc   int int  codemason term.Have 1 -/
def slices_ContainsFunc__term_Have_1_phi (nf : Nat) : Nat → Option Contract := lookC [(49, slices_IndexFunc__term_Have_1_C nf)]
def slices_ContainsFunc__term_Have_1_keep : Nat → List Nat := lookK []
def slices_ContainsFunc__term_Have_1_p (nf : Nat)  (s : List Int) (f : Unit) : Option (Bool × Unit) :=
  Option.bind (slices_IndexFunc__term_Have_1_f nf s (())) fun r =>
  some ((decide (r.fst ≥ 0), ()))
def slices_ContainsFunc__term_Have_1_f (nf : Nat) (s : List Int) (f : Unit) : Option (Bool × Unit) := slices_ContainsFunc__term_Have_1_p nf  s f
theorem slices_ContainsFunc__term_Have_1_eq (nf : Nat) (s : List Int) (f : Unit) : runF tab (slices_ContainsFunc__term_Have_1_phi nf) slices_ContainsFunc__term_Have_1_keep nf [PT.val (Ty.int IntKind.i64).sl (Md.bor true false), PT.clo 43 []] [(Ty.bool, Md.bor false true)] (resL (none) Try.f42) (codeOf Try.f42) ⟨s, f, ()⟩ = slices_ContainsFunc__term_Have_1_f nf s f := by
  have h : runF tab (slices_ContainsFunc__term_Have_1_phi nf) slices_ContainsFunc__term_Have_1_keep nf [PT.val (Ty.int IntKind.i64).sl (Md.bor true false), PT.clo 43 []] [(Ty.bool, Md.bor false true)] (resL (none) Try.f42) (codeOf Try.f42) ⟨s, f, ()⟩ = slices_ContainsFunc__term_Have_1_p nf  s f := by kernel_rfl
  exact h
def slices_ContainsFunc__term_Have_1_F (nf : Nat) (x : denPs [.val (.sl (.int .i64)) (.bor true false), .clo 43 []]) : Option (denL [(.bool, .bor false true)]) := slices_ContainsFunc__term_Have_1_f nf x.1 x.2.1
def slices_ContainsFunc__term_Have_1_C (nf : Nat) : Contract := ⟨[.val (.sl (.int .i64)) (.bor true false), .clo 43 []], [(.bool, .bor false true)], slices_ContainsFunc__term_Have_1_F nf, none⟩
theorem slices_ContainsFunc__term_Have_1_ok : FnOK Try.prog 42 := ⟨Try.f42, codeOf Try.f42, Try.func42, by kernel_rfl, by kernel_rfl⟩
theorem slices_ContainsFunc__term_Have_1_holds (nf : Nat) : Contract.Holds Try.prog 42 (slices_ContainsFunc__term_Have_1_C nf) :=
  fn_holds (Φ := slices_ContainsFunc__term_Have_1_phi nf) (keep := slices_ContainsFunc__term_Have_1_keep) (n := nf) ⟨tabs.1, tabs.2, (ctx_cons slices_IndexFunc__term_Have_1_ok (slices_IndexFunc__term_Have_1_holds nf) ctx_nil), mixed⟩ (fn := Try.f42) ⟨Try.func42, by kernel_rfl, by kernel_rfl, by kernel_rfl⟩ (fun x => slices_ContainsFunc__term_Have_1_eq nf x.1 x.2.1)

/-! codemason term.Have -/
def term_Have_phi (nf : Nat) : Nat → Option Contract := lookC [(42, slices_ContainsFunc__term_Have_1_C nf)]
def term_Have_keep : Nat → List Nat := lookK []
def term_Have_p (nf : Nat)  (vars : Int) (have' : List Int) : Option (Int × Unit) :=
  bif (↑have'.length : Int) != vars then
    some ((3, ()))
  else
    Option.bind (slices_ContainsFunc__term_Have_1_f nf have' (())) fun r =>
    bif r.fst then
      some ((4, ()))
    else
      some ((0, ()))
def term_Have_f (nf : Nat) (vars : Int) (have' : List Int) : Option (Int × Unit) := term_Have_p nf  vars have'
theorem term_Have_eq (nf : Nat) (vars : Int) (have' : List Int) : runF tab (term_Have_phi nf) term_Have_keep nf [PT.val (Ty.int IntKind.i64) (Md.bor true false), PT.val (Ty.int IntKind.i64).sl (Md.bor true false)] [(Ty.int IntKind.i64, Md.bor false true)] (resL (none) Try.f25) (codeOf Try.f25) ⟨vars, have', ()⟩ = term_Have_f nf vars have' := by
  have h : runF tab (term_Have_phi nf) term_Have_keep nf [PT.val (Ty.int IntKind.i64) (Md.bor true false), PT.val (Ty.int IntKind.i64).sl (Md.bor true false)] [(Ty.int IntKind.i64, Md.bor false true)] (resL (none) Try.f25) (codeOf Try.f25) ⟨vars, have', ()⟩ = term_Have_p nf  vars have' := by kernel_rfl
  exact h
def term_Have_F (nf : Nat) (x : denPs [.val (.int .i64) (.bor true false), .val (.sl (.int .i64)) (.bor true false)]) : Option (denL [(.int .i64, .bor false true)]) := term_Have_f nf x.1 x.2.1
def term_Have_C (nf : Nat) : Contract := ⟨[.val (.int .i64) (.bor true false), .val (.sl (.int .i64)) (.bor true false)], [(.int .i64, .bor false true)], term_Have_F nf, none⟩
theorem term_Have_ok : FnOK Try.prog 25 := ⟨Try.f25, codeOf Try.f25, Try.func25, by kernel_rfl, by kernel_rfl⟩
theorem term_Have_holds (nf : Nat) : Contract.Holds Try.prog 25 (term_Have_C nf) :=
  fn_holds (Φ := term_Have_phi nf) (keep := term_Have_keep) (n := nf) ⟨tabs.1, tabs.2, (ctx_cons slices_ContainsFunc__term_Have_1_ok (slices_ContainsFunc__term_Have_1_holds nf) ctx_nil), mixed⟩ (fn := Try.f25) ⟨Try.func25, by kernel_rfl, by kernel_rfl, by kernel_rfl⟩ (fun x => term_Have_eq nf x.1 x.2.1)

/-! codemason codemasonref.Op -/
def ref_Op_phi (nf : Nat) : Nat → Option Contract := lookC []
def ref_Op_keep : Nat → List Nat := lookK []
def ref_Op_p (nf : Nat)  (op : Int) (a : Int) (b : Int) : Option (Int × Unit) :=
  bif op == 3 then
    bif op == 4 then
      bif op == 5 then
        bif op == 6 then
          bif decide (a < b) then
            some ((Int.tmod 1 256, ()))
          else
            some (((IntKind.i64.wrap (a * b)).tmod 256, ()))
        else
          some (((IntKind.i64.wrap (a * b)).tmod 256, ()))
      else
        bif op == 6 then
          bif decide (a < b) then
            some ((Int.tmod 1 256, ()))
          else
            some (((IntKind.i64.wrap (IntKind.i64.wrap (a - b) + 256)).tmod 256, ()))
        else
          some (((IntKind.i64.wrap (IntKind.i64.wrap (a - b) + 256)).tmod 256, ()))
    else
      bif op == 5 then
        bif op == 6 then
          bif decide (a < b) then
            some ((Int.tmod 1 256, ()))
          else
            some (((IntKind.i64.wrap (a * b)).tmod 256, ()))
        else
          some (((IntKind.i64.wrap (a * b)).tmod 256, ()))
      else
        bif op == 6 then
          bif decide (a < b) then
            some ((Int.tmod 1 256, ()))
          else
            some (((IntKind.i64.wrap (a + b)).tmod 256, ()))
        else
          some (((IntKind.i64.wrap (a + b)).tmod 256, ()))
  else
    bif op == 4 then
      bif op == 5 then
        bif op == 6 then
          bif decide (a < b) then
            some ((Int.tmod 1 256, ()))
          else
            some (((IntKind.i64.wrap (a * b)).tmod 256, ()))
        else
          some (((IntKind.i64.wrap (a * b)).tmod 256, ()))
      else
        bif op == 6 then
          bif decide (a < b) then
            some ((Int.tmod 1 256, ()))
          else
            some (((IntKind.i64.wrap (IntKind.i64.wrap (a - b) + 256)).tmod 256, ()))
        else
          some (((IntKind.i64.wrap (IntKind.i64.wrap (a - b) + 256)).tmod 256, ()))
    else
      bif op == 5 then
        bif op == 6 then
          bif decide (a < b) then
            some ((Int.tmod 1 256, ()))
          else
            some (((IntKind.i64.wrap (a * b)).tmod 256, ()))
        else
          some (((IntKind.i64.wrap (a * b)).tmod 256, ()))
      else
        bif op == 6 then
          bif decide (a < b) then
            some ((Int.tmod 1 256, ()))
          else
            some ((Int.tmod 0 256, ()))
        else
          some ((Int.tmod 0 256, ()))
def ref_Op_f (nf : Nat) (op : Int) (a : Int) (b : Int) : Option (Int × Unit) := ref_Op_p nf  op a b
theorem ref_Op_eq (nf : Nat) (op : Int) (a : Int) (b : Int) : runF tab (ref_Op_phi nf) ref_Op_keep nf [PT.val (Ty.int IntKind.i64) (Md.bor true false), PT.val (Ty.int IntKind.i64) (Md.bor true false), PT.val (Ty.int IntKind.i64) (Md.bor true false)] [(Ty.int IntKind.i64, Md.bor false true)] (resL (none) Try.f45) (codeOf Try.f45) ⟨op, a, b, ()⟩ = ref_Op_f nf op a b := by
  have h : runF tab (ref_Op_phi nf) ref_Op_keep nf [PT.val (Ty.int IntKind.i64) (Md.bor true false), PT.val (Ty.int IntKind.i64) (Md.bor true false), PT.val (Ty.int IntKind.i64) (Md.bor true false)] [(Ty.int IntKind.i64, Md.bor false true)] (resL (none) Try.f45) (codeOf Try.f45) ⟨op, a, b, ()⟩ = ref_Op_p nf  op a b := by kernel_rfl
  exact h
def ref_Op_F (nf : Nat) (x : denPs [.val (.int .i64) (.bor true false), .val (.int .i64) (.bor true false), .val (.int .i64) (.bor true false)]) : Option (denL [(.int .i64, .bor false true)]) := ref_Op_f nf x.1 x.2.1 x.2.2.1
def ref_Op_C (nf : Nat) : Contract := ⟨[.val (.int .i64) (.bor true false), .val (.int .i64) (.bor true false), .val (.int .i64) (.bor true false)], [(.int .i64, .bor false true)], ref_Op_F nf, none⟩
theorem ref_Op_ok : FnOK Try.prog 45 := ⟨Try.f45, codeOf Try.f45, Try.func45, by kernel_rfl, by kernel_rfl⟩
theorem ref_Op_holds (nf : Nat) : Contract.Holds Try.prog 45 (ref_Op_C nf) :=
  fn_holds (Φ := ref_Op_phi nf) (keep := ref_Op_keep) (n := nf) ⟨tabs.1, tabs.2, ctx_nil, mixed⟩ (fn := Try.f45) ⟨Try.func45, by kernel_rfl, by kernel_rfl, by kernel_rfl⟩ (fun x => ref_Op_eq nf x.1 x.2.1 x.2.2.1)

/-! codemason codemasonref.Ints -/
def ref_Ints_phi (nf : Nat) : Nat → Option Contract := lookC []
def ref_Ints_keep : Nat → List Nat := lookK [(0, [0, 1, 5])]
def ref_Ints_b0 (nf : Nat) (a : List Int) (b : List Int) (g0 : Int → Option (Bool × Unit)) (i : Int) : Option (Bool × Unit) :=
  bif decide (i < (↑a.length : Int)) then
    bif inb i a.length then
      bif inb i b.length then
        bif a.getD i.toNat 0 != b.getD i.toNat 0 then
          some ((false, ()))
        else
          g0 (IntKind.i64.wrap (i + 1))
      else
        none
    else
      none
  else
    some ((true, ()))
def ref_Ints_p (nf : Nat) (l0 : List Int → List Int → Int → Option (Bool × Unit)) (a : List Int) (b : List Int) : Option (Bool × Unit) :=
  bif (↑a.length : Int) != (↑b.length : Int) then
    some ((false, ()))
  else
    l0 a b 0
def ref_Ints_l0 (nf : Nat) (a : List Int) (b : List Int) : Nat → Int → Option (Bool × Unit)
  | 0, _ => none
  | fu + 1, i => ref_Ints_b0 nf  a b  (ref_Ints_l0 nf a b  fu) i
def ref_Ints_f (nf : Nat) (a : List Int) (b : List Int) : Option (Bool × Unit) := ref_Ints_p nf (fun p0 p1 v0 => ref_Ints_l0 nf p0 p1 nf v0) a b
noncomputable def ref_Ints_L0 (nf : Nat) : LC (Bool × Unit) := theL (findL tab (ref_Ints_phi nf) (fun _ F => iter nf F) ref_Ints_keep 0 0 (codeOf Try.f11) (fin tab [(Ty.bool, Md.bor false true)] (resL (none) Try.f11)) (fun _ _ => none) (fin tab [(Ty.bool, Md.bor false true)] (resL (none) Try.f11)))
def ref_Ints_m0 (a : List Int) (b : List Int) (i : Int) : St := ⟨fresh, [(0, AV.v (Ty.int IntKind.i64).sl (Md.bor true false) a), (1, AV.v (Ty.int IntKind.i64).sl (Md.bor true false) b), (5, AV.v (Ty.int IntKind.i64) (Md.bor false true) i)]⟩
theorem ref_Ints_h0 (nf : Nat)  (a : List Int) (b : List Int) (fu : Nat) (i : Int) : iter (fu + 1) (LC.F tab (ref_Ints_phi nf) (fun _ F => iter nf F) ref_Ints_keep 0 (ref_Ints_L0 nf )) (ref_Ints_m0 a b i) = ref_Ints_b0 nf  a b  (fun i => iter fu (LC.F tab (ref_Ints_phi nf) (fun _ F => iter nf F) ref_Ints_keep 0 (ref_Ints_L0 nf )) (ref_Ints_m0 a b i)) i := by kernel_rfl
theorem ref_Ints_e0 (nf : Nat)  (a : List Int) (b : List Int) : ∀ (fu : Nat) (i : Int), iter fu (LC.F tab (ref_Ints_phi nf) (fun _ F => iter nf F) ref_Ints_keep 0 (ref_Ints_L0 nf )) (ref_Ints_m0 a b i) = ref_Ints_l0 nf a b  fu i := by
  intro fu
  induction fu with
  | zero => intros; rfl
  | succ fu ih =>
    intro i
    rw [ref_Ints_h0 nf  a b fu i]
    simp only [ih]
    rfl
theorem ref_Ints_eq (nf : Nat) (a : List Int) (b : List Int) : runF tab (ref_Ints_phi nf) ref_Ints_keep nf [PT.val (Ty.int IntKind.i64).sl (Md.bor true false), PT.val (Ty.int IntKind.i64).sl (Md.bor true false)] [(Ty.bool, Md.bor false true)] (resL (none) Try.f11) (codeOf Try.f11) ⟨a, b, ()⟩ = ref_Ints_f nf a b := by
  have h : runF tab (ref_Ints_phi nf) ref_Ints_keep nf [PT.val (Ty.int IntKind.i64).sl (Md.bor true false), PT.val (Ty.int IntKind.i64).sl (Md.bor true false)] [(Ty.bool, Md.bor false true)] (resL (none) Try.f11) (codeOf Try.f11) ⟨a, b, ()⟩ = ref_Ints_p nf (fun p0 p1 v0 => iter nf (LC.F tab (ref_Ints_phi nf) (fun _ F => iter nf F) ref_Ints_keep 0 (ref_Ints_L0 nf)) (ref_Ints_m0 p0 p1 v0)) a b := by kernel_rfl
  rw [h]
  simp only [ref_Ints_e0]
  rfl
def ref_Ints_F (nf : Nat) (x : denPs [.val (.sl (.int .i64)) (.bor true false), .val (.sl (.int .i64)) (.bor true false)]) : Option (denL [(.bool, .bor false true)]) := ref_Ints_f nf x.1 x.2.1
def ref_Ints_C (nf : Nat) : Contract := ⟨[.val (.sl (.int .i64)) (.bor true false), .val (.sl (.int .i64)) (.bor true false)], [(.bool, .bor false true)], ref_Ints_F nf, none⟩
theorem ref_Ints_ok : FnOK Try.prog 11 := ⟨Try.f11, codeOf Try.f11, Try.func11, by kernel_rfl, by kernel_rfl⟩
theorem ref_Ints_holds (nf : Nat) : Contract.Holds Try.prog 11 (ref_Ints_C nf) :=
  fn_holds (Φ := ref_Ints_phi nf) (keep := ref_Ints_keep) (n := nf) ⟨tabs.1, tabs.2, ctx_nil, mixed⟩ (fn := Try.f11) ⟨Try.func11, by kernel_rfl, by kernel_rfl, by kernel_rfl⟩ (fun x => ref_Ints_eq nf x.1 x.2.1)

/-! codemason codemasonref.HaveCheck -/
def ref_HaveCheck_phi (nf : Nat) : Nat → Option Contract := lookC [(24, ref_Value_C nf)]
def ref_HaveCheck_keep : Nat → List Nat := lookK [(0, [1, 11, 12, 13])]
def ref_HaveCheck_b0 (nf : Nat) (have' : List Int) (g0 : Int → Option (Int × Unit)) (t13 : Int) : Option (Int × Unit) :=
  bif decide (t13 < (↑have'.length : Int)) then
    bif inb t13 have'.length then
      Option.bind (ref_Value_f nf (have'.getD t13.toNat 0)) fun r =>
      bif !r.fst then
        some ((4, ()))
      else
        g0 (IntKind.i64.wrap (t13 + 1))
    else
      none
  else
    some ((0, ()))
def ref_HaveCheck_p (nf : Nat) (l0 : List Int → Int → Option (Int × Unit)) (vars : Int) (have' : List Int) : Option (Int × Unit) :=
  bif (↑have'.length : Int) != vars then
    some ((3, ()))
  else
    l0 have' 0
def ref_HaveCheck_l0 (nf : Nat) (have' : List Int) : Nat → Int → Option (Int × Unit)
  | 0, _ => none
  | fu + 1, t13 => ref_HaveCheck_b0 nf  have'  (ref_HaveCheck_l0 nf have'  fu) t13
def ref_HaveCheck_f (nf : Nat) (vars : Int) (have' : List Int) : Option (Int × Unit) := ref_HaveCheck_p nf (fun p0 v0 => ref_HaveCheck_l0 nf p0 nf v0) vars have'
noncomputable def ref_HaveCheck_L0 (nf : Nat) : LC (Int × Unit) := theL (findL tab (ref_HaveCheck_phi nf) (fun _ F => iter nf F) ref_HaveCheck_keep 0 0 (codeOf Try.f9) (fin tab [(Ty.int IntKind.i64, Md.bor false true)] (resL (none) Try.f9)) (fun _ _ => none) (fin tab [(Ty.int IntKind.i64, Md.bor false true)] (resL (none) Try.f9)))
def ref_HaveCheck_m0 (have' : List Int) (t13 : Int) : St := ⟨fresh, [(1, AV.v (Ty.int IntKind.i64).sl (Md.bor true false) have'), (11, AV.v (Ty.int IntKind.i64).sl (Md.bor true false) have'), (12, AV.v (Ty.int IntKind.i64) (Md.bor false true) (↑have'.length : Int)), (13, AV.v (Ty.int IntKind.i64) (Md.bor false true) t13)]⟩
theorem ref_HaveCheck_h0 (nf : Nat)  (have' : List Int) (fu : Nat) (t13 : Int) : iter (fu + 1) (LC.F tab (ref_HaveCheck_phi nf) (fun _ F => iter nf F) ref_HaveCheck_keep 0 (ref_HaveCheck_L0 nf )) (ref_HaveCheck_m0 have' t13) = ref_HaveCheck_b0 nf  have'  (fun t13 => iter fu (LC.F tab (ref_HaveCheck_phi nf) (fun _ F => iter nf F) ref_HaveCheck_keep 0 (ref_HaveCheck_L0 nf )) (ref_HaveCheck_m0 have' t13)) t13 := by kernel_rfl
theorem ref_HaveCheck_e0 (nf : Nat)  (have' : List Int) : ∀ (fu : Nat) (t13 : Int), iter fu (LC.F tab (ref_HaveCheck_phi nf) (fun _ F => iter nf F) ref_HaveCheck_keep 0 (ref_HaveCheck_L0 nf )) (ref_HaveCheck_m0 have' t13) = ref_HaveCheck_l0 nf have'  fu t13 := by
  intro fu
  induction fu with
  | zero => intros; rfl
  | succ fu ih =>
    intro t13
    rw [ref_HaveCheck_h0 nf  have' fu t13]
    simp only [ih]
    rfl
theorem ref_HaveCheck_eq (nf : Nat) (vars : Int) (have' : List Int) : runF tab (ref_HaveCheck_phi nf) ref_HaveCheck_keep nf [PT.val (Ty.int IntKind.i64) (Md.bor true false), PT.val (Ty.int IntKind.i64).sl (Md.bor true false)] [(Ty.int IntKind.i64, Md.bor false true)] (resL (none) Try.f9) (codeOf Try.f9) ⟨vars, have', ()⟩ = ref_HaveCheck_f nf vars have' := by
  have h : runF tab (ref_HaveCheck_phi nf) ref_HaveCheck_keep nf [PT.val (Ty.int IntKind.i64) (Md.bor true false), PT.val (Ty.int IntKind.i64).sl (Md.bor true false)] [(Ty.int IntKind.i64, Md.bor false true)] (resL (none) Try.f9) (codeOf Try.f9) ⟨vars, have', ()⟩ = ref_HaveCheck_p nf (fun p0 v0 => iter nf (LC.F tab (ref_HaveCheck_phi nf) (fun _ F => iter nf F) ref_HaveCheck_keep 0 (ref_HaveCheck_L0 nf)) (ref_HaveCheck_m0 p0 v0)) vars have' := by kernel_rfl
  rw [h]
  simp only [ref_HaveCheck_e0]
  rfl
def ref_HaveCheck_F (nf : Nat) (x : denPs [.val (.int .i64) (.bor true false), .val (.sl (.int .i64)) (.bor true false)]) : Option (denL [(.int .i64, .bor false true)]) := ref_HaveCheck_f nf x.1 x.2.1
def ref_HaveCheck_C (nf : Nat) : Contract := ⟨[.val (.int .i64) (.bor true false), .val (.sl (.int .i64)) (.bor true false)], [(.int .i64, .bor false true)], ref_HaveCheck_F nf, none⟩
theorem ref_HaveCheck_ok : FnOK Try.prog 9 := ⟨Try.f9, codeOf Try.f9, Try.func9, by kernel_rfl, by kernel_rfl⟩
theorem ref_HaveCheck_holds (nf : Nat) : Contract.Holds Try.prog 9 (ref_HaveCheck_C nf) :=
  fn_holds (Φ := ref_HaveCheck_phi nf) (keep := ref_HaveCheck_keep) (n := nf) ⟨tabs.1, tabs.2, (ctx_cons ref_Value_ok (ref_Value_holds nf) ctx_nil), mixed⟩ (fn := Try.f9) ⟨Try.func9, by kernel_rfl, by kernel_rfl, by kernel_rfl⟩ (fun x => ref_HaveCheck_eq nf x.1 x.2.1)
end Go.Proofs.Ytfbiknjadkpamaa.S
