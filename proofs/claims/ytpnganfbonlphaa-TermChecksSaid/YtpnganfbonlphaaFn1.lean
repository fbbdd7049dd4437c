/- The functions of the code, as plain functions, and the theorems that say so: made by a program of this proof's own. -/
import Derived.Test.YtpnganfbonlphaaAbCheck
import Derived.Test.YtpnganfbonlphaaChecked
namespace Go.Proofs.Ytpnganfbonlphaa.S
open Go Go.Ab
def tab : Tab := ⟨lookT [(2, .int .i64), (3, .int .i64), (4, .bool), (5, .int .u8), (6, .int .u8), (7, .pair (.int .i64) (.pair (.int .i64) (.pair (.bool) (.pair (.int .u8) (.unit))))), (8, .pair (.int .i64) (.pair (.int .i64) (.pair (.bool) (.pair (.int .u8) (.unit))))), (12, .int .u64), (21, .int .i32), (22, .sl (.pair (.int .i64) (.pair (.int .i64) (.pair (.int .i64) (.pair (.int .i64) (.unit)))))), (23, .int .i64), (26, .int .u32), (29, .sl (.int .i64)), (31, .pair (.int .i64) (.pair (.int .i64) (.pair (.int .i64) (.pair (.int .i64) (.unit))))), (32, .pair (.int .i64) (.pair (.int .i64) (.pair (.int .i64) (.pair (.int .i64) (.unit))))), (33, .int .u64), (44, .sl (.pair (.int .i64) (.pair (.int .i64) (.pair (.int .i64) (.pair (.int .i64) (.pair (.int .i64) (.unit))))))), (55, .sl (.pair (.int .i64) (.pair (.int .i64) (.unit)))), (65, .pair (.int .i64) (.pair (.int .i64) (.unit))), (66, .pair (.int .i64) (.pair (.int .i64) (.unit))), (86, .sl (.pair (.int .i64) (.pair (.int .i64) (.pair (.int .i64) (.pair (.int .i64) (.unit)))))), (94, .pair (.int .i64) (.pair (.int .i64) (.pair (.int .i64) (.pair (.int .i64) (.unit))))), (95, .pair (.int .i64) (.pair (.int .i64) (.pair (.int .i64) (.pair (.int .i64) (.unit))))), (96, .sl (.bool)), (101, .pair (.int .i64) (.pair (.int .i64) (.pair (.int .i64) (.pair (.int .i64) (.pair (.int .i64) (.unit)))))), (102, .pair (.int .i64) (.pair (.int .i64) (.pair (.int .i64) (.pair (.int .i64) (.pair (.int .i64) (.unit)))))), (104, .pair (.sl (.pair (.int .i64) (.pair (.int .i64) (.pair (.int .i64) (.pair (.int .i64) (.unit)))))) (.pair (.sl (.int .i64)) (.pair (.sl (.pair (.int .i64) (.pair (.int .i64) (.pair (.int .i64) (.pair (.int .i64) (.pair (.int .i64) (.unit))))))) (.unit)))), (105, .pair (.sl (.pair (.int .i64) (.pair (.int .i64) (.pair (.int .i64) (.pair (.int .i64) (.unit)))))) (.pair (.sl (.int .i64)) (.pair (.sl (.pair (.int .i64) (.pair (.int .i64) (.pair (.int .i64) (.pair (.int .i64) (.pair (.int .i64) (.unit))))))) (.unit)))), (119, .pair (.sl (.pair (.int .i64) (.pair (.int .i64) (.pair (.int .i64) (.pair (.int .i64) (.pair (.int .i64) (.unit))))))) (.pair (.int .i64) (.pair (.int .i64) (.pair (.int .i64) (.unit))))), (120, .pair (.sl (.pair (.int .i64) (.pair (.int .i64) (.pair (.int .i64) (.pair (.int .i64) (.pair (.int .i64) (.unit))))))) (.pair (.int .i64) (.pair (.int .i64) (.pair (.int .i64) (.unit))))), (121, .sl (.pair (.sl (.pair (.int .i64) (.pair (.int .i64) (.pair (.int .i64) (.pair (.int .i64) (.pair (.int .i64) (.unit))))))) (.pair (.int .i64) (.pair (.int .i64) (.pair (.int .i64) (.unit)))))), (142, .int .u8), (143, .int .u8), (146, .int .i32), (147, .int .i32)], lookM [(2, .bor false true), (3, .bor false true), (4, .bor false true), (5, .bor false true), (6, .bor false true), (7, .bor false true), (8, .bor false true), (12, .bor false true), (21, .bor false true), (22, .own false (.bor false false)), (23, .bor false true), (26, .bor false true), (29, .own false (.bor false false)), (31, .bor false true), (32, .bor false true), (33, .bor false true), (44, .own false (.bor false false)), (55, .own false (.bor false false)), (65, .bor false true), (66, .bor false true), (86, .own false (.bor false false)), (94, .bor false true), (95, .bor false true), (96, .own false (.bor false false)), (101, .bor false true), (102, .bor false true), (104, .bor true false), (105, .bor true false), (119, .bor true false), (120, .bor true false), (121, .own false (.bor false false)), (142, .bor false true), (143, .bor false true), (146, .bor false true), (147, .bor false true)], hasT [138]⟩
theorem tabs : TabOK Try.prog tab ∧ EqOK Try.prog tab := tab_ok (by kernel_rfl)

/-! codemason term.Check -/
def term_Check_phi (nf : Nat) : Nat → Option Contract := lookC []
def term_Check_keep : Nat → List Nat := lookK [(0, [0, 1, 23, 24, 25])]
def term_Check_b0 (nf : Nat) (vars : Int) (l' : List (Int × Int × Int × Int × PUnit)) (g0 : Int → Option (Int × PUnit)) (t25 : Int) : Option (Int × PUnit) :=
  bif decide (t25 < (↑l'.length : Int)) then
    bif inb t25 l'.length then
      bif decide ((l'.getD t25.toNat (0, 0, 0, 0, ())).fst < 1) then
        some ((6, ()))
      else
        bif decide ((l'.getD t25.toNat (0, 0, 0, 0, ())).fst > 6) then
          some ((6, ()))
        else
          bif (l'.getD t25.toNat (0, 0, 0, 0, ())).fst == 1 then
            bif decide ((l'.getD t25.toNat (0, 0, 0, 0, ())).snd.snd.snd.fst < 0) then
              some ((4, ()))
            else
              bif decide ((l'.getD t25.toNat (0, 0, 0, 0, ())).snd.snd.snd.fst > 255) then
                some ((4, ()))
              else
                bif (l'.getD t25.toNat (0, 0, 0, 0, ())).fst == 2 then
                  bif decide ((l'.getD t25.toNat (0, 0, 0, 0, ())).snd.snd.snd.fst < 0) then
                    some ((4, ()))
                  else
                    bif decide ((l'.getD t25.toNat (0, 0, 0, 0, ())).snd.snd.snd.fst ≥ vars) then
                      some ((4, ()))
                    else
                      bif decide ((l'.getD t25.toNat (0, 0, 0, 0, ())).fst > 2) then
                        bif decide ((if (l'.getD t25.toNat (0, 0, 0, 0, ())).snd.snd.fst < (l'.getD t25.toNat (0, 0, 0, 0, ())).snd.fst then (l'.getD t25.toNat (0, 0, 0, 0, ())).snd.snd.fst else (l'.getD t25.toNat (0, 0, 0, 0, ())).snd.fst) < 0) then
                          some ((2, ()))
                        else
                          bif decide ((if (l'.getD t25.toNat (0, 0, 0, 0, ())).snd.snd.fst > (l'.getD t25.toNat (0, 0, 0, 0, ())).snd.fst then (l'.getD t25.toNat (0, 0, 0, 0, ())).snd.snd.fst else (l'.getD t25.toNat (0, 0, 0, 0, ())).snd.fst) ≥ t25) then
                            some ((2, ()))
                          else
                            g0 (IntKind.i64.wrap (t25 + 1))
                      else
                        g0 (IntKind.i64.wrap (t25 + 1))
                else
                  bif decide ((l'.getD t25.toNat (0, 0, 0, 0, ())).fst > 2) then
                    bif decide ((if (l'.getD t25.toNat (0, 0, 0, 0, ())).snd.snd.fst < (l'.getD t25.toNat (0, 0, 0, 0, ())).snd.fst then (l'.getD t25.toNat (0, 0, 0, 0, ())).snd.snd.fst else (l'.getD t25.toNat (0, 0, 0, 0, ())).snd.fst) < 0) then
                      some ((2, ()))
                    else
                      bif decide ((if (l'.getD t25.toNat (0, 0, 0, 0, ())).snd.snd.fst > (l'.getD t25.toNat (0, 0, 0, 0, ())).snd.fst then (l'.getD t25.toNat (0, 0, 0, 0, ())).snd.snd.fst else (l'.getD t25.toNat (0, 0, 0, 0, ())).snd.fst) ≥ t25) then
                        some ((2, ()))
                      else
                        g0 (IntKind.i64.wrap (t25 + 1))
                  else
                    g0 (IntKind.i64.wrap (t25 + 1))
          else
            bif (l'.getD t25.toNat (0, 0, 0, 0, ())).fst == 2 then
              bif decide ((l'.getD t25.toNat (0, 0, 0, 0, ())).snd.snd.snd.fst < 0) then
                some ((4, ()))
              else
                bif decide ((l'.getD t25.toNat (0, 0, 0, 0, ())).snd.snd.snd.fst ≥ vars) then
                  some ((4, ()))
                else
                  bif decide ((l'.getD t25.toNat (0, 0, 0, 0, ())).fst > 2) then
                    bif decide ((if (l'.getD t25.toNat (0, 0, 0, 0, ())).snd.snd.fst < (l'.getD t25.toNat (0, 0, 0, 0, ())).snd.fst then (l'.getD t25.toNat (0, 0, 0, 0, ())).snd.snd.fst else (l'.getD t25.toNat (0, 0, 0, 0, ())).snd.fst) < 0) then
                      some ((2, ()))
                    else
                      bif decide ((if (l'.getD t25.toNat (0, 0, 0, 0, ())).snd.snd.fst > (l'.getD t25.toNat (0, 0, 0, 0, ())).snd.fst then (l'.getD t25.toNat (0, 0, 0, 0, ())).snd.snd.fst else (l'.getD t25.toNat (0, 0, 0, 0, ())).snd.fst) ≥ t25) then
                        some ((2, ()))
                      else
                        g0 (IntKind.i64.wrap (t25 + 1))
                  else
                    g0 (IntKind.i64.wrap (t25 + 1))
            else
              bif decide ((l'.getD t25.toNat (0, 0, 0, 0, ())).fst > 2) then
                bif decide ((if (l'.getD t25.toNat (0, 0, 0, 0, ())).snd.snd.fst < (l'.getD t25.toNat (0, 0, 0, 0, ())).snd.fst then (l'.getD t25.toNat (0, 0, 0, 0, ())).snd.snd.fst else (l'.getD t25.toNat (0, 0, 0, 0, ())).snd.fst) < 0) then
                  some ((2, ()))
                else
                  bif decide ((if (l'.getD t25.toNat (0, 0, 0, 0, ())).snd.snd.fst > (l'.getD t25.toNat (0, 0, 0, 0, ())).snd.fst then (l'.getD t25.toNat (0, 0, 0, 0, ())).snd.snd.fst else (l'.getD t25.toNat (0, 0, 0, 0, ())).snd.fst) ≥ t25) then
                    some ((2, ()))
                  else
                    g0 (IntKind.i64.wrap (t25 + 1))
              else
                g0 (IntKind.i64.wrap (t25 + 1))
    else
      none
  else
    some ((0, ()))
def term_Check_p (nf : Nat) (l0 : Int → List (Int × Int × Int × Int × PUnit) → Int → Option (Int × PUnit)) (vars : Int) (l' : List (Int × Int × Int × Int × PUnit)) : Option (Int × PUnit) :=
  bif decide (vars < 0) then
    some ((1, ()))
  else
    bif decide (vars > 6) then
      some ((1, ()))
    else
      bif (↑(List.length (l', ()).fst) : Int) == 0 then
        some ((1, ()))
      else
        bif decide ((↑(List.length (l', ()).fst) : Int) > 16) then
          some ((1, ()))
        else
          l0 vars l' 0
def term_Check_l0 (nf : Nat) (vars : Int) (l' : List (Int × Int × Int × Int × PUnit)) : Nat → Int → Option (Int × PUnit)
  | 0, _ => none
  | fu + 1, t25 => term_Check_b0 nf  vars l'  (term_Check_l0 nf vars l'  fu) t25
def term_Check_f (nf : Nat) (vars : Int) (l' : List (Int × Int × Int × Int × PUnit)) : Option (Int × PUnit) := term_Check_p nf (fun p0 p1 v0 => term_Check_l0 nf p0 p1 nf v0) vars l'
noncomputable def term_Check_L0 (nf : Nat) : LC (Int × PUnit) := theL (findL tab (term_Check_phi nf) (fun _ F => iter nf F) term_Check_keep 0 0 (codeOf Try.f20) (fin [(Ty.int IntKind.i64, Md.bor false true)] Try.f20.results.toList) (fun _ _ => none) (fin [(Ty.int IntKind.i64, Md.bor false true)] Try.f20.results.toList))
def term_Check_m0 (vars : Int) (l' : List (Int × Int × Int × Int × PUnit)) (t25 : Int) : St := ⟨fresh, [(0, AV.v (Ty.int IntKind.i64) (Md.bor true false) vars), (1, AV.v ((Ty.int IntKind.i64).pair ((Ty.int IntKind.i64).pair ((Ty.int IntKind.i64).pair ((Ty.int IntKind.i64).pair Ty.unit)))).sl (Md.bor true false) l'), (23, AV.v ((Ty.int IntKind.i64).pair ((Ty.int IntKind.i64).pair ((Ty.int IntKind.i64).pair ((Ty.int IntKind.i64).pair Ty.unit)))).sl (Md.bor true false) l'), (24, AV.v (Ty.int IntKind.i64) (Md.bor false true) (↑l'.length : Int)), (25, AV.v (Ty.int IntKind.i64) (Md.bor false true) t25)]⟩
theorem term_Check_e0 (nf : Nat)  (vars : Int) (l' : List (Int × Int × Int × Int × PUnit)) : ∀ (fu : Nat) (t25 : Int), iter fu (LC.F tab (term_Check_phi nf) (fun _ F => iter nf F) term_Check_keep 0 (term_Check_L0 nf )) (term_Check_m0 vars l' t25) = term_Check_l0 nf vars l'  fu t25 := by
  intro fu
  induction fu with
  | zero => intros; rfl
  | succ fu ih =>
    intro t25
    have h : iter (fu + 1) (LC.F tab (term_Check_phi nf) (fun _ F => iter nf F) term_Check_keep 0 (term_Check_L0 nf )) (term_Check_m0 vars l' t25) = term_Check_b0 nf  vars l'  (fun t25 => iter fu (LC.F tab (term_Check_phi nf) (fun _ F => iter nf F) term_Check_keep 0 (term_Check_L0 nf )) (term_Check_m0 vars l' t25)) t25 := by kernel_rfl
    rw [h]
    simp only [ih]
    rfl
theorem term_Check_eq (nf : Nat) (vars : Int) (l' : List (Int × Int × Int × Int × PUnit)) : runF tab (term_Check_phi nf) term_Check_keep nf [PT.val (Ty.int IntKind.i64) (Md.bor true false), PT.val ((Ty.int IntKind.i64).pair ((Ty.int IntKind.i64).pair ((Ty.int IntKind.i64).pair ((Ty.int IntKind.i64).pair Ty.unit)))).sl (Md.bor true false)] [(Ty.int IntKind.i64, Md.bor false true)] Try.f20.results.toList (codeOf Try.f20) ⟨vars, l', ()⟩ = term_Check_f nf vars l' := by
  have h : runF tab (term_Check_phi nf) term_Check_keep nf [PT.val (Ty.int IntKind.i64) (Md.bor true false), PT.val ((Ty.int IntKind.i64).pair ((Ty.int IntKind.i64).pair ((Ty.int IntKind.i64).pair ((Ty.int IntKind.i64).pair Ty.unit)))).sl (Md.bor true false)] [(Ty.int IntKind.i64, Md.bor false true)] Try.f20.results.toList (codeOf Try.f20) ⟨vars, l', ()⟩ = term_Check_p nf (fun p0 p1 v0 => iter nf (LC.F tab (term_Check_phi nf) (fun _ F => iter nf F) term_Check_keep 0 (term_Check_L0 nf)) (term_Check_m0 p0 p1 v0)) vars l' := by kernel_rfl
  rw [h]
  simp only [term_Check_e0]
  rfl
def term_Check_F (nf : Nat) (x : denPs [.val (.int .i64) (.bor true false), .val (.sl (.pair (.int .i64) (.pair (.int .i64) (.pair (.int .i64) (.pair (.int .i64) (.unit)))))) (.bor true false)]) : Option (denL [(.int .i64, .bor false true)]) := term_Check_f nf x.1 x.2.1
def term_Check_C (nf : Nat) : Contract := ⟨[.val (.int .i64) (.bor true false), .val (.sl (.pair (.int .i64) (.pair (.int .i64) (.pair (.int .i64) (.pair (.int .i64) (.unit)))))) (.bor true false)], [(.int .i64, .bor false true)], term_Check_F nf⟩
theorem term_Check_ok : FnOK Try.prog 20 := ⟨Try.f20, codeOf Try.f20, Try.func20, by kernel_rfl, by kernel_rfl⟩
theorem term_Check_holds (nf : Nat) : Contract.Holds Try.prog 20 (term_Check_C nf) :=
  fn_holds (Φ := term_Check_phi nf) (keep := term_Check_keep) (n := nf) ⟨tabs.1, tabs.2, ctx_nil⟩ (fn := Try.f20) ⟨Try.func20, by kernel_rfl, by kernel_rfl, by kernel_rfl⟩ (fun x => term_Check_eq nf x.1 x.2.1)

/-! codemason codemasonref.Inside -/
def ref_Inside_phi (nf : Nat) : Nat → Option Contract := lookC []
def ref_Inside_keep : Nat → List Nat := lookK [(0, [0, 1, 7, 8, 9])]
def ref_Inside_b0 (nf : Nat) (n' : Int) (l' : List Int) (g0 : Int → Option (Bool × PUnit)) (t9 : Int) : Option (Bool × PUnit) :=
  bif decide (t9 < (↑l'.length : Int)) then
    bif inb t9 l'.length then
      bif decide (l'.getD t9.toNat 0 < 0) then
        some ((false, ()))
      else
        bif decide (l'.getD t9.toNat 0 ≥ n') then
          some ((false, ()))
        else
          g0 (IntKind.i64.wrap (t9 + 1))
    else
      none
  else
    some ((true, ()))
def ref_Inside_p (nf : Nat) (l0 : Int → List Int → Int → Option (Bool × PUnit)) (n' : Int) (l' : List Int) : Option (Bool × PUnit) :=
  l0 n' l' 0
def ref_Inside_l0 (nf : Nat) (n' : Int) (l' : List Int) : Nat → Int → Option (Bool × PUnit)
  | 0, _ => none
  | fu + 1, t9 => ref_Inside_b0 nf  n' l'  (ref_Inside_l0 nf n' l'  fu) t9
def ref_Inside_f (nf : Nat) (n' : Int) (l' : List Int) : Option (Bool × PUnit) := ref_Inside_p nf (fun p0 p1 v0 => ref_Inside_l0 nf p0 p1 nf v0) n' l'
noncomputable def ref_Inside_L0 (nf : Nat) : LC (Bool × PUnit) := theL (findL tab (ref_Inside_phi nf) (fun _ F => iter nf F) ref_Inside_keep 0 0 (codeOf Try.f50) (fin [(Ty.bool, Md.bor false true)] Try.f50.results.toList) (fun _ _ => none) (fin [(Ty.bool, Md.bor false true)] Try.f50.results.toList))
def ref_Inside_m0 (n' : Int) (l' : List Int) (t9 : Int) : St := ⟨fresh, [(0, AV.v (Ty.int IntKind.i64) (Md.bor true false) n'), (1, AV.v (Ty.int IntKind.i64).sl (Md.bor true false) l'), (7, AV.v (Ty.int IntKind.i64).sl (Md.bor true false) l'), (8, AV.v (Ty.int IntKind.i64) (Md.bor false true) (↑l'.length : Int)), (9, AV.v (Ty.int IntKind.i64) (Md.bor false true) t9)]⟩
theorem ref_Inside_e0 (nf : Nat)  (n' : Int) (l' : List Int) : ∀ (fu : Nat) (t9 : Int), iter fu (LC.F tab (ref_Inside_phi nf) (fun _ F => iter nf F) ref_Inside_keep 0 (ref_Inside_L0 nf )) (ref_Inside_m0 n' l' t9) = ref_Inside_l0 nf n' l'  fu t9 := by
  intro fu
  induction fu with
  | zero => intros; rfl
  | succ fu ih =>
    intro t9
    have h : iter (fu + 1) (LC.F tab (ref_Inside_phi nf) (fun _ F => iter nf F) ref_Inside_keep 0 (ref_Inside_L0 nf )) (ref_Inside_m0 n' l' t9) = ref_Inside_b0 nf  n' l'  (fun t9 => iter fu (LC.F tab (ref_Inside_phi nf) (fun _ F => iter nf F) ref_Inside_keep 0 (ref_Inside_L0 nf )) (ref_Inside_m0 n' l' t9)) t9 := by kernel_rfl
    rw [h]
    simp only [ih]
    rfl
theorem ref_Inside_eq (nf : Nat) (n' : Int) (l' : List Int) : runF tab (ref_Inside_phi nf) ref_Inside_keep nf [PT.val (Ty.int IntKind.i64) (Md.bor true false), PT.val (Ty.int IntKind.i64).sl (Md.bor true false)] [(Ty.bool, Md.bor false true)] Try.f50.results.toList (codeOf Try.f50) ⟨n', l', ()⟩ = ref_Inside_f nf n' l' := by
  have h : runF tab (ref_Inside_phi nf) ref_Inside_keep nf [PT.val (Ty.int IntKind.i64) (Md.bor true false), PT.val (Ty.int IntKind.i64).sl (Md.bor true false)] [(Ty.bool, Md.bor false true)] Try.f50.results.toList (codeOf Try.f50) ⟨n', l', ()⟩ = ref_Inside_p nf (fun p0 p1 v0 => iter nf (LC.F tab (ref_Inside_phi nf) (fun _ F => iter nf F) ref_Inside_keep 0 (ref_Inside_L0 nf)) (ref_Inside_m0 p0 p1 v0)) n' l' := by kernel_rfl
  rw [h]
  simp only [ref_Inside_e0]
  rfl
def ref_Inside_F (nf : Nat) (x : denPs [.val (.int .i64) (.bor true false), .val (.sl (.int .i64)) (.bor true false)]) : Option (denL [(.bool, .bor false true)]) := ref_Inside_f nf x.1 x.2.1
def ref_Inside_C (nf : Nat) : Contract := ⟨[.val (.int .i64) (.bor true false), .val (.sl (.int .i64)) (.bor true false)], [(.bool, .bor false true)], ref_Inside_F nf⟩
theorem ref_Inside_ok : FnOK Try.prog 50 := ⟨Try.f50, codeOf Try.f50, Try.func50, by kernel_rfl, by kernel_rfl⟩
theorem ref_Inside_holds (nf : Nat) : Contract.Holds Try.prog 50 (ref_Inside_C nf) :=
  fn_holds (Φ := ref_Inside_phi nf) (keep := ref_Inside_keep) (n := nf) ⟨tabs.1, tabs.2, ctx_nil⟩ (fn := Try.f50) ⟨Try.func50, by kernel_rfl, by kernel_rfl, by kernel_rfl⟩ (fun x => ref_Inside_eq nf x.1 x.2.1)

/-! codemason codemasonref.Value -/
def ref_Value_phi (nf : Nat) : Nat → Option Contract := lookC []
def ref_Value_keep : Nat → List Nat := lookK []
def ref_Value_p (nf : Nat)  (x : Int) : Option (Bool × PUnit) :=
  bif decide (x ≥ 0) then
    some ((decide (x ≤ 255), ()))
  else
    some ((false, ()))
def ref_Value_f (nf : Nat) (x : Int) : Option (Bool × PUnit) := ref_Value_p nf  x
theorem ref_Value_eq (nf : Nat) (x : Int) : runF tab (ref_Value_phi nf) ref_Value_keep nf [PT.val (Ty.int IntKind.i64) (Md.bor true false)] [(Ty.bool, Md.bor false true)] Try.f56.results.toList (codeOf Try.f56) ⟨x, ()⟩ = ref_Value_f nf x := by
  have h : runF tab (ref_Value_phi nf) ref_Value_keep nf [PT.val (Ty.int IntKind.i64) (Md.bor true false)] [(Ty.bool, Md.bor false true)] Try.f56.results.toList (codeOf Try.f56) ⟨x, ()⟩ = ref_Value_p nf  x := by kernel_rfl
  exact h
def ref_Value_F (nf : Nat) (x : denPs [.val (.int .i64) (.bor true false)]) : Option (denL [(.bool, .bor false true)]) := ref_Value_f nf x.1
def ref_Value_C (nf : Nat) : Contract := ⟨[.val (.int .i64) (.bor true false)], [(.bool, .bor false true)], ref_Value_F nf⟩
theorem ref_Value_ok : FnOK Try.prog 56 := ⟨Try.f56, codeOf Try.f56, Try.func56, by kernel_rfl, by kernel_rfl⟩
theorem ref_Value_holds (nf : Nat) : Contract.Holds Try.prog 56 (ref_Value_C nf) :=
  fn_holds (Φ := ref_Value_phi nf) (keep := ref_Value_keep) (n := nf) ⟨tabs.1, tabs.2, ctx_nil⟩ (fn := Try.f56) ⟨Try.func56, by kernel_rfl, by kernel_rfl, by kernel_rfl⟩ (fun x => ref_Value_eq nf x.1)

/-! codemason codemasonref.TermsCheck -/
def ref_TermsCheck_phi (nf : Nat) : Nat → Option Contract := lookC [(50, ref_Inside_C nf), (56, ref_Value_C nf)]
def ref_TermsCheck_keep : Nat → List Nat := lookK [(0, [0, 1, 23, 24, 25])]
def ref_TermsCheck_b0 (nf : Nat) (vars : Int) (l' : List (Int × Int × Int × Int × PUnit)) (g0 : Int → Option (Int × PUnit)) (t25 : Int) : Option (Int × PUnit) :=
  bif decide (t25 < (↑l'.length : Int)) then
    bif inb t25 l'.length then
      bif decide ((l'.getD t25.toNat (0, 0, 0, 0, ())).fst < 1) then
        some ((6, ()))
      else
        bif decide ((l'.getD t25.toNat (0, 0, 0, 0, ())).fst > 6) then
          some ((6, ()))
        else
          bif (l'.getD t25.toNat (0, 0, 0, 0, ())).fst == 1 then
            Option.bind (ref_Value_f nf ((l'.getD t25.toNat (0, 0, 0, 0, ())).snd.snd.snd.fst)) fun r =>
            bif !r.fst then
              some ((4, ()))
            else
              bif (l'.getD t25.toNat (0, 0, 0, 0, ())).fst == 2 then
                Option.bind (ref_Inside_f nf vars ([(l'.getD t25.toNat (0, 0, 0, 0, ())).snd.snd.snd.fst])) fun r2 =>
                bif !r2.fst then
                  some ((4, ()))
                else
                  bif decide ((l'.getD t25.toNat (0, 0, 0, 0, ())).fst ≥ 3) then
                    Option.bind (ref_Inside_f nf t25 ([(l'.getD t25.toNat (0, 0, 0, 0, ())).snd.fst, (l'.getD t25.toNat (0, 0, 0, 0, ())).snd.snd.fst])) fun r3 =>
                    bif !r3.fst then
                      some ((2, ()))
                    else
                      g0 (IntKind.i64.wrap (t25 + 1))
                  else
                    g0 (IntKind.i64.wrap (t25 + 1))
              else
                bif decide ((l'.getD t25.toNat (0, 0, 0, 0, ())).fst ≥ 3) then
                  Option.bind (ref_Inside_f nf t25 ([(l'.getD t25.toNat (0, 0, 0, 0, ())).snd.fst, (l'.getD t25.toNat (0, 0, 0, 0, ())).snd.snd.fst])) fun r4 =>
                  bif !r4.fst then
                    some ((2, ()))
                  else
                    g0 (IntKind.i64.wrap (t25 + 1))
                else
                  g0 (IntKind.i64.wrap (t25 + 1))
          else
            bif (l'.getD t25.toNat (0, 0, 0, 0, ())).fst == 2 then
              Option.bind (ref_Inside_f nf vars ([(l'.getD t25.toNat (0, 0, 0, 0, ())).snd.snd.snd.fst])) fun r5 =>
              bif !r5.fst then
                some ((4, ()))
              else
                bif decide ((l'.getD t25.toNat (0, 0, 0, 0, ())).fst ≥ 3) then
                  Option.bind (ref_Inside_f nf t25 ([(l'.getD t25.toNat (0, 0, 0, 0, ())).snd.fst, (l'.getD t25.toNat (0, 0, 0, 0, ())).snd.snd.fst])) fun r6 =>
                  bif !r6.fst then
                    some ((2, ()))
                  else
                    g0 (IntKind.i64.wrap (t25 + 1))
                else
                  g0 (IntKind.i64.wrap (t25 + 1))
            else
              bif decide ((l'.getD t25.toNat (0, 0, 0, 0, ())).fst ≥ 3) then
                Option.bind (ref_Inside_f nf t25 ([(l'.getD t25.toNat (0, 0, 0, 0, ())).snd.fst, (l'.getD t25.toNat (0, 0, 0, 0, ())).snd.snd.fst])) fun r7 =>
                bif !r7.fst then
                  some ((2, ()))
                else
                  g0 (IntKind.i64.wrap (t25 + 1))
              else
                g0 (IntKind.i64.wrap (t25 + 1))
    else
      none
  else
    some ((0, ()))
def ref_TermsCheck_p (nf : Nat) (l0 : Int → List (Int × Int × Int × Int × PUnit) → Int → Option (Int × PUnit)) (vars : Int) (l' : List (Int × Int × Int × Int × PUnit)) : Option (Int × PUnit) :=
  bif decide (vars < 0) then
    some ((1, ()))
  else
    bif decide (vars > 6) then
      some ((1, ()))
    else
      bif decide ((↑(List.length (l', ()).fst) : Int) < 1) then
        some ((1, ()))
      else
        bif decide ((↑(List.length (l', ()).fst) : Int) > 16) then
          some ((1, ()))
        else
          l0 vars l' 0
def ref_TermsCheck_l0 (nf : Nat) (vars : Int) (l' : List (Int × Int × Int × Int × PUnit)) : Nat → Int → Option (Int × PUnit)
  | 0, _ => none
  | fu + 1, t25 => ref_TermsCheck_b0 nf  vars l'  (ref_TermsCheck_l0 nf vars l'  fu) t25
def ref_TermsCheck_f (nf : Nat) (vars : Int) (l' : List (Int × Int × Int × Int × PUnit)) : Option (Int × PUnit) := ref_TermsCheck_p nf (fun p0 p1 v0 => ref_TermsCheck_l0 nf p0 p1 nf v0) vars l'
noncomputable def ref_TermsCheck_L0 (nf : Nat) : LC (Int × PUnit) := theL (findL tab (ref_TermsCheck_phi nf) (fun _ F => iter nf F) ref_TermsCheck_keep 0 0 (codeOf Try.f21) (fin [(Ty.int IntKind.i64, Md.bor false true)] Try.f21.results.toList) (fun _ _ => none) (fin [(Ty.int IntKind.i64, Md.bor false true)] Try.f21.results.toList))
def ref_TermsCheck_m0 (vars : Int) (l' : List (Int × Int × Int × Int × PUnit)) (t25 : Int) : St := ⟨fresh, [(0, AV.v (Ty.int IntKind.i64) (Md.bor true false) vars), (1, AV.v ((Ty.int IntKind.i64).pair ((Ty.int IntKind.i64).pair ((Ty.int IntKind.i64).pair ((Ty.int IntKind.i64).pair Ty.unit)))).sl (Md.bor true false) l'), (23, AV.v ((Ty.int IntKind.i64).pair ((Ty.int IntKind.i64).pair ((Ty.int IntKind.i64).pair ((Ty.int IntKind.i64).pair Ty.unit)))).sl (Md.bor true false) l'), (24, AV.v (Ty.int IntKind.i64) (Md.bor false true) (↑l'.length : Int)), (25, AV.v (Ty.int IntKind.i64) (Md.bor false true) t25)]⟩
theorem ref_TermsCheck_e0 (nf : Nat)  (vars : Int) (l' : List (Int × Int × Int × Int × PUnit)) : ∀ (fu : Nat) (t25 : Int), iter fu (LC.F tab (ref_TermsCheck_phi nf) (fun _ F => iter nf F) ref_TermsCheck_keep 0 (ref_TermsCheck_L0 nf )) (ref_TermsCheck_m0 vars l' t25) = ref_TermsCheck_l0 nf vars l'  fu t25 := by
  intro fu
  induction fu with
  | zero => intros; rfl
  | succ fu ih =>
    intro t25
    have h : iter (fu + 1) (LC.F tab (ref_TermsCheck_phi nf) (fun _ F => iter nf F) ref_TermsCheck_keep 0 (ref_TermsCheck_L0 nf )) (ref_TermsCheck_m0 vars l' t25) = ref_TermsCheck_b0 nf  vars l'  (fun t25 => iter fu (LC.F tab (ref_TermsCheck_phi nf) (fun _ F => iter nf F) ref_TermsCheck_keep 0 (ref_TermsCheck_L0 nf )) (ref_TermsCheck_m0 vars l' t25)) t25 := by kernel_rfl
    rw [h]
    simp only [ih]
    rfl
theorem ref_TermsCheck_eq (nf : Nat) (vars : Int) (l' : List (Int × Int × Int × Int × PUnit)) : runF tab (ref_TermsCheck_phi nf) ref_TermsCheck_keep nf [PT.val (Ty.int IntKind.i64) (Md.bor true false), PT.val ((Ty.int IntKind.i64).pair ((Ty.int IntKind.i64).pair ((Ty.int IntKind.i64).pair ((Ty.int IntKind.i64).pair Ty.unit)))).sl (Md.bor true false)] [(Ty.int IntKind.i64, Md.bor false true)] Try.f21.results.toList (codeOf Try.f21) ⟨vars, l', ()⟩ = ref_TermsCheck_f nf vars l' := by
  have h : runF tab (ref_TermsCheck_phi nf) ref_TermsCheck_keep nf [PT.val (Ty.int IntKind.i64) (Md.bor true false), PT.val ((Ty.int IntKind.i64).pair ((Ty.int IntKind.i64).pair ((Ty.int IntKind.i64).pair ((Ty.int IntKind.i64).pair Ty.unit)))).sl (Md.bor true false)] [(Ty.int IntKind.i64, Md.bor false true)] Try.f21.results.toList (codeOf Try.f21) ⟨vars, l', ()⟩ = ref_TermsCheck_p nf (fun p0 p1 v0 => iter nf (LC.F tab (ref_TermsCheck_phi nf) (fun _ F => iter nf F) ref_TermsCheck_keep 0 (ref_TermsCheck_L0 nf)) (ref_TermsCheck_m0 p0 p1 v0)) vars l' := by kernel_rfl
  rw [h]
  simp only [ref_TermsCheck_e0]
  rfl
def ref_TermsCheck_F (nf : Nat) (x : denPs [.val (.int .i64) (.bor true false), .val (.sl (.pair (.int .i64) (.pair (.int .i64) (.pair (.int .i64) (.pair (.int .i64) (.unit)))))) (.bor true false)]) : Option (denL [(.int .i64, .bor false true)]) := ref_TermsCheck_f nf x.1 x.2.1
def ref_TermsCheck_C (nf : Nat) : Contract := ⟨[.val (.int .i64) (.bor true false), .val (.sl (.pair (.int .i64) (.pair (.int .i64) (.pair (.int .i64) (.pair (.int .i64) (.unit)))))) (.bor true false)], [(.int .i64, .bor false true)], ref_TermsCheck_F nf⟩
theorem ref_TermsCheck_ok : FnOK Try.prog 21 := ⟨Try.f21, codeOf Try.f21, Try.func21, by kernel_rfl, by kernel_rfl⟩
theorem ref_TermsCheck_holds (nf : Nat) : Contract.Holds Try.prog 21 (ref_TermsCheck_C nf) :=
  fn_holds (Φ := ref_TermsCheck_phi nf) (keep := ref_TermsCheck_keep) (n := nf) ⟨tabs.1, tabs.2, (ctx_cons ref_Inside_ok (ref_Inside_holds nf) (ctx_cons ref_Value_ok (ref_Value_holds nf) ctx_nil))⟩ (fn := Try.f21) ⟨Try.func21, by kernel_rfl, by kernel_rfl, by kernel_rfl⟩ (fun x => ref_TermsCheck_eq nf x.1 x.2.1)

/-! codemason codemasonlaw.TermChecks -/
def law_TermChecks_phi (nf : Nat) : Nat → Option Contract := lookC [(20, term_Check_C nf), (21, ref_TermsCheck_C nf)]
def law_TermChecks_keep : Nat → List Nat := lookK []
def law_TermChecks_p (nf : Nat)  (vars : Int) (l' : List (Int × Int × Int × Int × PUnit)) : Option (Bool × PUnit) :=
  Option.bind (term_Check_f nf vars ((l', ()).fst)) fun r =>
  Option.bind (ref_TermsCheck_f nf vars ((l', ()).fst)) fun r2 =>
  some ((r.fst == r2.fst, ()))
def law_TermChecks_f (nf : Nat) (vars : Int) (l' : List (Int × Int × Int × Int × PUnit)) : Option (Bool × PUnit) := law_TermChecks_p nf  vars l'
theorem law_TermChecks_eq (nf : Nat) (vars : Int) (l' : List (Int × Int × Int × Int × PUnit)) : runF tab (law_TermChecks_phi nf) law_TermChecks_keep nf [PT.val (Ty.int IntKind.i64) (Md.bor true false), PT.val ((Ty.int IntKind.i64).pair ((Ty.int IntKind.i64).pair ((Ty.int IntKind.i64).pair ((Ty.int IntKind.i64).pair Ty.unit)))).sl (Md.bor true false)] [(Ty.bool, Md.bor false true)] Try.f3.results.toList (codeOf Try.f3) ⟨vars, l', ()⟩ = law_TermChecks_f nf vars l' := by
  have h : runF tab (law_TermChecks_phi nf) law_TermChecks_keep nf [PT.val (Ty.int IntKind.i64) (Md.bor true false), PT.val ((Ty.int IntKind.i64).pair ((Ty.int IntKind.i64).pair ((Ty.int IntKind.i64).pair ((Ty.int IntKind.i64).pair Ty.unit)))).sl (Md.bor true false)] [(Ty.bool, Md.bor false true)] Try.f3.results.toList (codeOf Try.f3) ⟨vars, l', ()⟩ = law_TermChecks_p nf  vars l' := by kernel_rfl
  exact h
def law_TermChecks_F (nf : Nat) (x : denPs [.val (.int .i64) (.bor true false), .val (.sl (.pair (.int .i64) (.pair (.int .i64) (.pair (.int .i64) (.pair (.int .i64) (.unit)))))) (.bor true false)]) : Option (denL [(.bool, .bor false true)]) := law_TermChecks_f nf x.1 x.2.1
def law_TermChecks_C (nf : Nat) : Contract := ⟨[.val (.int .i64) (.bor true false), .val (.sl (.pair (.int .i64) (.pair (.int .i64) (.pair (.int .i64) (.pair (.int .i64) (.unit)))))) (.bor true false)], [(.bool, .bor false true)], law_TermChecks_F nf⟩
theorem law_TermChecks_ok : FnOK Try.prog 3 := ⟨Try.f3, codeOf Try.f3, Try.func3, by kernel_rfl, by kernel_rfl⟩
theorem law_TermChecks_holds (nf : Nat) : Contract.Holds Try.prog 3 (law_TermChecks_C nf) :=
  fn_holds (Φ := law_TermChecks_phi nf) (keep := law_TermChecks_keep) (n := nf) ⟨tabs.1, tabs.2, (ctx_cons term_Check_ok (term_Check_holds nf) (ctx_cons ref_TermsCheck_ok (ref_TermsCheck_holds nf) ctx_nil))⟩ (fn := Try.f3) ⟨Try.func3, by kernel_rfl, by kernel_rfl, by kernel_rfl⟩ (fun x => law_TermChecks_eq nf x.1 x.2.1)
end Go.Proofs.Ytpnganfbonlphaa.S
