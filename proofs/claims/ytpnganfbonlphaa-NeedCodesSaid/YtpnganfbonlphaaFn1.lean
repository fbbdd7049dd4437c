/- The functions of the code, as plain functions, and the theorems that say so: made by a program of this proof's own. -/
import Derived.Test.YtpnganfbonlphaaAbCheck
import Derived.Test.YtpnganfbonlphaaChecked
namespace Go.Proofs.Ytpnganfbonlphaa.S
open Go Go.Ab
noncomputable section
def bkl : List (Nat × Bk) := [(90, .mk 96 22), (96, .gen 22)]
def tab : Tab := ⟨lookT [(2, .int .i64), (3, .int .i64), (4, .bool), (5, .int .u8), (6, .int .u8), (7, .pair (.int .i64) (.pair (.int .i64) (.pair (.bool) (.pair (.int .u8) (.unit))))), (8, .pair (.int .i64) (.pair (.int .i64) (.pair (.bool) (.pair (.int .u8) (.unit))))), (12, .int .u64), (21, .int .i32), (22, .sl (.pair (.int .i64) (.pair (.int .i64) (.pair (.int .i64) (.pair (.int .i64) (.unit)))))), (23, .int .i64), (26, .int .u32), (29, .sl (.int .i64)), (31, .pair (.int .i64) (.pair (.int .i64) (.pair (.int .i64) (.pair (.int .i64) (.unit))))), (32, .pair (.int .i64) (.pair (.int .i64) (.pair (.int .i64) (.pair (.int .i64) (.unit))))), (33, .int .u64), (44, .sl (.pair (.int .i64) (.pair (.int .i64) (.pair (.int .i64) (.pair (.int .i64) (.pair (.int .i64) (.unit))))))), (55, .sl (.pair (.int .i64) (.pair (.int .i64) (.unit)))), (65, .pair (.int .i64) (.pair (.int .i64) (.unit))), (66, .pair (.int .i64) (.pair (.int .i64) (.unit))), (86, .sl (.pair (.int .i64) (.pair (.int .i64) (.pair (.int .i64) (.pair (.int .i64) (.unit)))))), (94, .pair (.int .i64) (.pair (.int .i64) (.pair (.int .i64) (.pair (.int .i64) (.unit))))), (95, .pair (.int .i64) (.pair (.int .i64) (.pair (.int .i64) (.pair (.int .i64) (.unit))))), (96, .sl (.bool)), (101, .pair (.int .i64) (.pair (.int .i64) (.pair (.int .i64) (.pair (.int .i64) (.pair (.int .i64) (.unit)))))), (102, .pair (.int .i64) (.pair (.int .i64) (.pair (.int .i64) (.pair (.int .i64) (.pair (.int .i64) (.unit)))))), (104, .pair (.sl (.pair (.int .i64) (.pair (.int .i64) (.pair (.int .i64) (.pair (.int .i64) (.unit)))))) (.pair (.sl (.int .i64)) (.pair (.sl (.pair (.int .i64) (.pair (.int .i64) (.pair (.int .i64) (.pair (.int .i64) (.pair (.int .i64) (.unit))))))) (.unit)))), (105, .pair (.sl (.pair (.int .i64) (.pair (.int .i64) (.pair (.int .i64) (.pair (.int .i64) (.unit)))))) (.pair (.sl (.int .i64)) (.pair (.sl (.pair (.int .i64) (.pair (.int .i64) (.pair (.int .i64) (.pair (.int .i64) (.pair (.int .i64) (.unit))))))) (.unit)))), (114, .mp (.pair (.int .i64) (.pair (.int .i64) (.pair (.int .i64) (.pair (.int .i64) (.unit))))) (.int .i64)), (115, .pair (.sl (.pair (.int .i64) (.pair (.int .i64) (.pair (.int .i64) (.pair (.int .i64) (.unit)))))) (.pair (.mp (.pair (.int .i64) (.pair (.int .i64) (.pair (.int .i64) (.pair (.int .i64) (.unit))))) (.int .i64)) (.unit))), (116, .pair (.sl (.pair (.int .i64) (.pair (.int .i64) (.pair (.int .i64) (.pair (.int .i64) (.unit)))))) (.pair (.mp (.pair (.int .i64) (.pair (.int .i64) (.pair (.int .i64) (.pair (.int .i64) (.unit))))) (.int .i64)) (.unit))), (119, .pair (.sl (.pair (.int .i64) (.pair (.int .i64) (.pair (.int .i64) (.pair (.int .i64) (.pair (.int .i64) (.unit))))))) (.pair (.int .i64) (.pair (.int .i64) (.pair (.int .i64) (.unit))))), (120, .pair (.sl (.pair (.int .i64) (.pair (.int .i64) (.pair (.int .i64) (.pair (.int .i64) (.pair (.int .i64) (.unit))))))) (.pair (.int .i64) (.pair (.int .i64) (.pair (.int .i64) (.unit))))), (121, .sl (.pair (.sl (.pair (.int .i64) (.pair (.int .i64) (.pair (.int .i64) (.pair (.int .i64) (.pair (.int .i64) (.unit))))))) (.pair (.int .i64) (.pair (.int .i64) (.pair (.int .i64) (.unit)))))), (142, .int .u8), (143, .int .u8), (146, .int .i32), (147, .int .i32)], lookM [(2, .bor false true), (3, .bor false true), (4, .bor false true), (5, .bor false true), (6, .bor false true), (7, .bor false true), (8, .bor false true), (12, .bor false true), (21, .bor false true), (22, .own false (.bor false false)), (23, .bor false true), (26, .bor false true), (29, .own false (.bor false false)), (31, .bor false true), (32, .bor false true), (33, .bor false true), (44, .own false (.bor false false)), (55, .own false (.bor false false)), (65, .bor false true), (66, .bor false true), (86, .own false (.bor false false)), (94, .bor false true), (95, .bor false true), (96, .own false (.bor false false)), (101, .bor false true), (102, .bor false true), (104, .bor true false), (105, .pair (.bor false false) (.pair (.bor false false) (.pair (.own false (.bor false false)) (.bor false false)))), (114, .own false (.bor false false)), (115, .bor true false), (116, .pair (.own false (.bor false false)) (.pair (.own true (.bor false false)) (.bor false false))), (119, .bor true false), (120, .bor true false), (121, .own false (.bor false false)), (142, .bor false true), (143, .bor false true), (146, .bor false true), (147, .bor false true)], hasT [138], hasT [9, 10, 11], fun _ => none, lookB bkl⟩
theorem bkls : BkL Try.prog bkl := by
  intro x hx
  simp only [bkl, List.mem_cons, List.not_mem_nil, or_false] at hx
  rcases hx with rfl | rfl
  · exact ⟨⟨Try.f90, codeOf Try.f90, Try.func90, by kernel_rfl, by kernel_rfl⟩, Try.f90, 128, 127, Try.func90, by kernel_rfl, by kernel_rfl, by kernel_rfl⟩
  · exact ⟨⟨Try.f96, codeOf Try.f96, Try.func96, by kernel_rfl, by kernel_rfl⟩, Try.f96, 3, 32, 4, 132, Try.func96, by kernel_rfl, by kernel_rfl, by kernel_rfl, by kernel_rfl⟩
theorem tabs : TabOK Try.prog tab ∧ EqOK Try.prog tab := tab_ok (by kernel_rfl) (by kernel_rfl)
theorem mixed : Try.prog.follows .mixedOrders = true := by kernel_rfl

/-! codemason term.Check -/
def term_Check_phi (nf : Nat) : Nat → Option Contract := lookC []
def term_Check_keep : Nat → List Nat := lookK [(0, [0, 1, 23, 24, 25])]
def term_Check_b0 (nf : Nat) (vars : Int) (l' : List (Int × Int × Int × Int × Unit)) (g0 : Int → Option (Int × Unit)) (t25 : Int) : Option (Int × Unit) :=
  bif decide (t25 < (↑l'.length : Int)) then
    bif inb t25 l'.length then
      bif decide ((l'.getD t25.toNat (0, 0, 0, 0, ())).fst < 1) then
        some ((6, ()))
      else
        bif decide ((l'.getD t25.toNat (0, 0, 0, 0, ())).fst > 6) then
          some ((6, ()))
        else
          bif (l'.getD t25.toNat (0, 0, 0, 0, ())).fst == 1 then
            bif decide ((l'.getD t25.toNat (0, 0, 0, 0, ())).snd.snd.snd.fst < 0) then
              some ((4, ()))
            else
              bif decide ((l'.getD t25.toNat (0, 0, 0, 0, ())).snd.snd.snd.fst > 255) then
                some ((4, ()))
              else
                bif (l'.getD t25.toNat (0, 0, 0, 0, ())).fst == 2 then
                  bif decide ((l'.getD t25.toNat (0, 0, 0, 0, ())).snd.snd.snd.fst < 0) then
                    some ((4, ()))
                  else
                    bif decide ((l'.getD t25.toNat (0, 0, 0, 0, ())).snd.snd.snd.fst ≥ vars) then
                      some ((4, ()))
                    else
                      bif decide ((l'.getD t25.toNat (0, 0, 0, 0, ())).fst > 2) then
                        bif decide ((if (l'.getD t25.toNat (0, 0, 0, 0, ())).snd.snd.fst < (l'.getD t25.toNat (0, 0, 0, 0, ())).snd.fst then (l'.getD t25.toNat (0, 0, 0, 0, ())).snd.snd.fst else (l'.getD t25.toNat (0, 0, 0, 0, ())).snd.fst) < 0) then
                          some ((2, ()))
                        else
                          bif decide ((if (l'.getD t25.toNat (0, 0, 0, 0, ())).snd.snd.fst > (l'.getD t25.toNat (0, 0, 0, 0, ())).snd.fst then (l'.getD t25.toNat (0, 0, 0, 0, ())).snd.snd.fst else (l'.getD t25.toNat (0, 0, 0, 0, ())).snd.fst) ≥ t25) then
                            some ((2, ()))
                          else
                            g0 (IntKind.i64.wrap (t25 + 1))
                      else
                        g0 (IntKind.i64.wrap (t25 + 1))
                else
                  bif decide ((l'.getD t25.toNat (0, 0, 0, 0, ())).fst > 2) then
                    bif decide ((if (l'.getD t25.toNat (0, 0, 0, 0, ())).snd.snd.fst < (l'.getD t25.toNat (0, 0, 0, 0, ())).snd.fst then (l'.getD t25.toNat (0, 0, 0, 0, ())).snd.snd.fst else (l'.getD t25.toNat (0, 0, 0, 0, ())).snd.fst) < 0) then
                      some ((2, ()))
                    else
                      bif decide ((if (l'.getD t25.toNat (0, 0, 0, 0, ())).snd.snd.fst > (l'.getD t25.toNat (0, 0, 0, 0, ())).snd.fst then (l'.getD t25.toNat (0, 0, 0, 0, ())).snd.snd.fst else (l'.getD t25.toNat (0, 0, 0, 0, ())).snd.fst) ≥ t25) then
                        some ((2, ()))
                      else
                        g0 (IntKind.i64.wrap (t25 + 1))
                  else
                    g0 (IntKind.i64.wrap (t25 + 1))
          else
            bif (l'.getD t25.toNat (0, 0, 0, 0, ())).fst == 2 then
              bif decide ((l'.getD t25.toNat (0, 0, 0, 0, ())).snd.snd.snd.fst < 0) then
                some ((4, ()))
              else
                bif decide ((l'.getD t25.toNat (0, 0, 0, 0, ())).snd.snd.snd.fst ≥ vars) then
                  some ((4, ()))
                else
                  bif decide ((l'.getD t25.toNat (0, 0, 0, 0, ())).fst > 2) then
                    bif decide ((if (l'.getD t25.toNat (0, 0, 0, 0, ())).snd.snd.fst < (l'.getD t25.toNat (0, 0, 0, 0, ())).snd.fst then (l'.getD t25.toNat (0, 0, 0, 0, ())).snd.snd.fst else (l'.getD t25.toNat (0, 0, 0, 0, ())).snd.fst) < 0) then
                      some ((2, ()))
                    else
                      bif decide ((if (l'.getD t25.toNat (0, 0, 0, 0, ())).snd.snd.fst > (l'.getD t25.toNat (0, 0, 0, 0, ())).snd.fst then (l'.getD t25.toNat (0, 0, 0, 0, ())).snd.snd.fst else (l'.getD t25.toNat (0, 0, 0, 0, ())).snd.fst) ≥ t25) then
                        some ((2, ()))
                      else
                        g0 (IntKind.i64.wrap (t25 + 1))
                  else
                    g0 (IntKind.i64.wrap (t25 + 1))
            else
              bif decide ((l'.getD t25.toNat (0, 0, 0, 0, ())).fst > 2) then
                bif decide ((if (l'.getD t25.toNat (0, 0, 0, 0, ())).snd.snd.fst < (l'.getD t25.toNat (0, 0, 0, 0, ())).snd.fst then (l'.getD t25.toNat (0, 0, 0, 0, ())).snd.snd.fst else (l'.getD t25.toNat (0, 0, 0, 0, ())).snd.fst) < 0) then
                  some ((2, ()))
                else
                  bif decide ((if (l'.getD t25.toNat (0, 0, 0, 0, ())).snd.snd.fst > (l'.getD t25.toNat (0, 0, 0, 0, ())).snd.fst then (l'.getD t25.toNat (0, 0, 0, 0, ())).snd.snd.fst else (l'.getD t25.toNat (0, 0, 0, 0, ())).snd.fst) ≥ t25) then
                    some ((2, ()))
                  else
                    g0 (IntKind.i64.wrap (t25 + 1))
              else
                g0 (IntKind.i64.wrap (t25 + 1))
    else
      none
  else
    some ((0, ()))
def term_Check_p (nf : Nat) (l0 : Int → List (Int × Int × Int × Int × Unit) → Int → Option (Int × Unit)) (vars : Int) (l' : List (Int × Int × Int × Int × Unit)) : Option (Int × Unit) :=
  bif decide (vars < 0) then
    some ((1, ()))
  else
    bif decide (vars > 6) then
      some ((1, ()))
    else
      bif (↑l'.length : Int) == 0 then
        some ((1, ()))
      else
        bif decide ((↑l'.length : Int) > 16) then
          some ((1, ()))
        else
          l0 vars l' 0
def term_Check_l0 (nf : Nat) (vars : Int) (l' : List (Int × Int × Int × Int × Unit)) : Nat → Int → Option (Int × Unit)
  | 0, _ => none
  | fu + 1, t25 => term_Check_b0 nf  vars l'  (term_Check_l0 nf vars l'  fu) t25
def term_Check_f (nf : Nat) (vars : Int) (l' : List (Int × Int × Int × Int × Unit)) : Option (Int × Unit) := term_Check_p nf (fun p0 p1 v0 => term_Check_l0 nf p0 p1 nf v0) vars l'
noncomputable def term_Check_L0 (nf : Nat) : LC (Int × Unit) := theL (findL tab (term_Check_phi nf) (fun _ F => iter nf F) term_Check_keep 0 0 (codeOf Try.f20) (fin tab [(Ty.int IntKind.i64, Md.bor false true)] (resL ([]) Try.f20)) (fun _ _ => none) (fin tab [(Ty.int IntKind.i64, Md.bor false true)] (resL ([]) Try.f20)))
def term_Check_m0 (vars : Int) (l' : List (Int × Int × Int × Int × Unit)) (t25 : Int) : St := ⟨fresh, [(0, AV.v (Ty.int IntKind.i64) (Md.bor false true) vars), (1, AV.v ((Ty.int IntKind.i64).pair ((Ty.int IntKind.i64).pair ((Ty.int IntKind.i64).pair ((Ty.int IntKind.i64).pair Ty.unit)))).sl (Md.bor true false) l'), (23, AV.v ((Ty.int IntKind.i64).pair ((Ty.int IntKind.i64).pair ((Ty.int IntKind.i64).pair ((Ty.int IntKind.i64).pair Ty.unit)))).sl (Md.bor true false) l'), (24, AV.v (Ty.int IntKind.i64) (Md.bor false true) (↑l'.length : Int)), (25, AV.v (Ty.int IntKind.i64) (Md.bor false true) t25)]⟩
theorem term_Check_h0 (nf : Nat)  (vars : Int) (l' : List (Int × Int × Int × Int × Unit)) (fu : Nat) (t25 : Int) : iter (fu + 1) (LC.F tab (term_Check_phi nf) (fun _ F => iter nf F) term_Check_keep 0 (term_Check_L0 nf )) (term_Check_m0 vars l' t25) = term_Check_b0 nf  vars l'  (fun t25 => iter fu (LC.F tab (term_Check_phi nf) (fun _ F => iter nf F) term_Check_keep 0 (term_Check_L0 nf )) (term_Check_m0 vars l' t25)) t25 := by kernel_rfl
theorem term_Check_e0 (nf : Nat)  (vars : Int) (l' : List (Int × Int × Int × Int × Unit)) : ∀ (fu : Nat) (t25 : Int), iter fu (LC.F tab (term_Check_phi nf) (fun _ F => iter nf F) term_Check_keep 0 (term_Check_L0 nf )) (term_Check_m0 vars l' t25) = term_Check_l0 nf vars l'  fu t25 := by
  intro fu
  induction fu with
  | zero => intros; rfl
  | succ fu ih =>
    intro t25
    rw [term_Check_h0 nf  vars l' fu t25]
    simp only [ih]
    rfl
theorem term_Check_eq (nf : Nat) (vars : Int) (l' : List (Int × Int × Int × Int × Unit)) : runF tab (term_Check_phi nf) term_Check_keep nf [PT.val (Ty.int IntKind.i64) (Md.bor true false), PT.val ((Ty.int IntKind.i64).pair ((Ty.int IntKind.i64).pair ((Ty.int IntKind.i64).pair ((Ty.int IntKind.i64).pair Ty.unit)))).sl (Md.bor true false)] [(Ty.int IntKind.i64, Md.bor false true)] (resL ([]) Try.f20) (codeOf Try.f20) ⟨vars, l', ()⟩ = term_Check_f nf vars l' := by
  have h : runF tab (term_Check_phi nf) term_Check_keep nf [PT.val (Ty.int IntKind.i64) (Md.bor true false), PT.val ((Ty.int IntKind.i64).pair ((Ty.int IntKind.i64).pair ((Ty.int IntKind.i64).pair ((Ty.int IntKind.i64).pair Ty.unit)))).sl (Md.bor true false)] [(Ty.int IntKind.i64, Md.bor false true)] (resL ([]) Try.f20) (codeOf Try.f20) ⟨vars, l', ()⟩ = term_Check_p nf (fun p0 p1 v0 => iter nf (LC.F tab (term_Check_phi nf) (fun _ F => iter nf F) term_Check_keep 0 (term_Check_L0 nf)) (term_Check_m0 p0 p1 v0)) vars l' := by kernel_rfl
  rw [h]
  simp only [term_Check_e0]
  rfl
def term_Check_F (nf : Nat) (x : denPs [.val (.int .i64) (.bor true false), .val (.sl (.pair (.int .i64) (.pair (.int .i64) (.pair (.int .i64) (.pair (.int .i64) (.unit)))))) (.bor true false)]) : Option (denL [(.int .i64, .bor false true)]) := term_Check_f nf x.1 x.2.1
def term_Check_C (nf : Nat) : Contract := ⟨[.val (.int .i64) (.bor true false), .val (.sl (.pair (.int .i64) (.pair (.int .i64) (.pair (.int .i64) (.pair (.int .i64) (.unit)))))) (.bor true false)], [(.int .i64, .bor false true)], term_Check_F nf, []⟩
theorem term_Check_ok : FnOK Try.prog 20 := ⟨Try.f20, codeOf Try.f20, Try.func20, by kernel_rfl, by kernel_rfl⟩
theorem term_Check_holds (nf : Nat) : Contract.Holds Try.prog 20 (term_Check_C nf) :=
  fn_holds (Φ := term_Check_phi nf) (keep := term_Check_keep) (n := nf) ⟨tabs.1, tabs.2, ctx_nil, mixed, bk_ok bkls rfl⟩ (fn := Try.f20) ⟨Try.func20, by kernel_rfl, by kernel_rfl, by kernel_rfl⟩ (fun x => term_Check_eq nf x.1 x.2.1)

/-! codemason codemasonref.Inside -/
def ref_Inside_phi (nf : Nat) : Nat → Option Contract := lookC []
def ref_Inside_keep : Nat → List Nat := lookK [(0, [0, 1, 7, 8, 9])]
def ref_Inside_b0 (nf : Nat) (n' : Int) (l' : List Int) (g0 : Int → Option (Bool × Unit)) (t9 : Int) : Option (Bool × Unit) :=
  bif decide (t9 < (↑l'.length : Int)) then
    bif inb t9 l'.length then
      bif decide (l'.getD t9.toNat 0 < 0) then
        some ((false, ()))
      else
        bif decide (l'.getD t9.toNat 0 ≥ n') then
          some ((false, ()))
        else
          g0 (IntKind.i64.wrap (t9 + 1))
    else
      none
  else
    some ((true, ()))
def ref_Inside_p (nf : Nat) (l0 : Int → List Int → Int → Option (Bool × Unit)) (n' : Int) (l' : List Int) : Option (Bool × Unit) :=
  l0 n' l' 0
def ref_Inside_l0 (nf : Nat) (n' : Int) (l' : List Int) : Nat → Int → Option (Bool × Unit)
  | 0, _ => none
  | fu + 1, t9 => ref_Inside_b0 nf  n' l'  (ref_Inside_l0 nf n' l'  fu) t9
def ref_Inside_f (nf : Nat) (n' : Int) (l' : List Int) : Option (Bool × Unit) := ref_Inside_p nf (fun p0 p1 v0 => ref_Inside_l0 nf p0 p1 nf v0) n' l'
noncomputable def ref_Inside_L0 (nf : Nat) : LC (Bool × Unit) := theL (findL tab (ref_Inside_phi nf) (fun _ F => iter nf F) ref_Inside_keep 0 0 (codeOf Try.f50) (fin tab [(Ty.bool, Md.bor false true)] (resL ([]) Try.f50)) (fun _ _ => none) (fin tab [(Ty.bool, Md.bor false true)] (resL ([]) Try.f50)))
def ref_Inside_m0 (n' : Int) (l' : List Int) (t9 : Int) : St := ⟨fresh, [(0, AV.v (Ty.int IntKind.i64) (Md.bor false true) n'), (1, AV.v (Ty.int IntKind.i64).sl (Md.bor true false) l'), (7, AV.v (Ty.int IntKind.i64).sl (Md.bor true false) l'), (8, AV.v (Ty.int IntKind.i64) (Md.bor false true) (↑l'.length : Int)), (9, AV.v (Ty.int IntKind.i64) (Md.bor false true) t9)]⟩
theorem ref_Inside_h0 (nf : Nat)  (n' : Int) (l' : List Int) (fu : Nat) (t9 : Int) : iter (fu + 1) (LC.F tab (ref_Inside_phi nf) (fun _ F => iter nf F) ref_Inside_keep 0 (ref_Inside_L0 nf )) (ref_Inside_m0 n' l' t9) = ref_Inside_b0 nf  n' l'  (fun t9 => iter fu (LC.F tab (ref_Inside_phi nf) (fun _ F => iter nf F) ref_Inside_keep 0 (ref_Inside_L0 nf )) (ref_Inside_m0 n' l' t9)) t9 := by kernel_rfl
theorem ref_Inside_e0 (nf : Nat)  (n' : Int) (l' : List Int) : ∀ (fu : Nat) (t9 : Int), iter fu (LC.F tab (ref_Inside_phi nf) (fun _ F => iter nf F) ref_Inside_keep 0 (ref_Inside_L0 nf )) (ref_Inside_m0 n' l' t9) = ref_Inside_l0 nf n' l'  fu t9 := by
  intro fu
  induction fu with
  | zero => intros; rfl
  | succ fu ih =>
    intro t9
    rw [ref_Inside_h0 nf  n' l' fu t9]
    simp only [ih]
    rfl
theorem ref_Inside_eq (nf : Nat) (n' : Int) (l' : List Int) : runF tab (ref_Inside_phi nf) ref_Inside_keep nf [PT.val (Ty.int IntKind.i64) (Md.bor true false), PT.val (Ty.int IntKind.i64).sl (Md.bor true false)] [(Ty.bool, Md.bor false true)] (resL ([]) Try.f50) (codeOf Try.f50) ⟨n', l', ()⟩ = ref_Inside_f nf n' l' := by
  have h : runF tab (ref_Inside_phi nf) ref_Inside_keep nf [PT.val (Ty.int IntKind.i64) (Md.bor true false), PT.val (Ty.int IntKind.i64).sl (Md.bor true false)] [(Ty.bool, Md.bor false true)] (resL ([]) Try.f50) (codeOf Try.f50) ⟨n', l', ()⟩ = ref_Inside_p nf (fun p0 p1 v0 => iter nf (LC.F tab (ref_Inside_phi nf) (fun _ F => iter nf F) ref_Inside_keep 0 (ref_Inside_L0 nf)) (ref_Inside_m0 p0 p1 v0)) n' l' := by kernel_rfl
  rw [h]
  simp only [ref_Inside_e0]
  rfl
def ref_Inside_F (nf : Nat) (x : denPs [.val (.int .i64) (.bor true false), .val (.sl (.int .i64)) (.bor true false)]) : Option (denL [(.bool, .bor false true)]) := ref_Inside_f nf x.1 x.2.1
def ref_Inside_C (nf : Nat) : Contract := ⟨[.val (.int .i64) (.bor true false), .val (.sl (.int .i64)) (.bor true false)], [(.bool, .bor false true)], ref_Inside_F nf, []⟩
theorem ref_Inside_ok : FnOK Try.prog 50 := ⟨Try.f50, codeOf Try.f50, Try.func50, by kernel_rfl, by kernel_rfl⟩
theorem ref_Inside_holds (nf : Nat) : Contract.Holds Try.prog 50 (ref_Inside_C nf) :=
  fn_holds (Φ := ref_Inside_phi nf) (keep := ref_Inside_keep) (n := nf) ⟨tabs.1, tabs.2, ctx_nil, mixed, bk_ok bkls rfl⟩ (fn := Try.f50) ⟨Try.func50, by kernel_rfl, by kernel_rfl, by kernel_rfl⟩ (fun x => ref_Inside_eq nf x.1 x.2.1)

/-! codemason codemasonref.Value -/
def ref_Value_phi (nf : Nat) : Nat → Option Contract := lookC []
def ref_Value_keep : Nat → List Nat := lookK []
def ref_Value_p (nf : Nat)  (x : Int) : Option (Bool × Unit) :=
  bif decide (x ≥ 0) then
    some ((decide (x ≤ 255), ()))
  else
    some ((false, ()))
def ref_Value_f (nf : Nat) (x : Int) : Option (Bool × Unit) := ref_Value_p nf  x
theorem ref_Value_eq (nf : Nat) (x : Int) : runF tab (ref_Value_phi nf) ref_Value_keep nf [PT.val (Ty.int IntKind.i64) (Md.bor true false)] [(Ty.bool, Md.bor false true)] (resL ([]) Try.f56) (codeOf Try.f56) ⟨x, ()⟩ = ref_Value_f nf x := by
  have h : runF tab (ref_Value_phi nf) ref_Value_keep nf [PT.val (Ty.int IntKind.i64) (Md.bor true false)] [(Ty.bool, Md.bor false true)] (resL ([]) Try.f56) (codeOf Try.f56) ⟨x, ()⟩ = ref_Value_p nf  x := by kernel_rfl
  exact h
def ref_Value_F (nf : Nat) (x : denPs [.val (.int .i64) (.bor true false)]) : Option (denL [(.bool, .bor false true)]) := ref_Value_f nf x.1
def ref_Value_C (nf : Nat) : Contract := ⟨[.val (.int .i64) (.bor true false)], [(.bool, .bor false true)], ref_Value_F nf, []⟩
theorem ref_Value_ok : FnOK Try.prog 56 := ⟨Try.f56, codeOf Try.f56, Try.func56, by kernel_rfl, by kernel_rfl⟩
theorem ref_Value_holds (nf : Nat) : Contract.Holds Try.prog 56 (ref_Value_C nf) :=
  fn_holds (Φ := ref_Value_phi nf) (keep := ref_Value_keep) (n := nf) ⟨tabs.1, tabs.2, ctx_nil, mixed, bk_ok bkls rfl⟩ (fn := Try.f56) ⟨Try.func56, by kernel_rfl, by kernel_rfl, by kernel_rfl⟩ (fun x => ref_Value_eq nf x.1)

/-! codemason codemasonref.TermsCheck -/
def ref_TermsCheck_phi (nf : Nat) : Nat → Option Contract := lookC [(50, ref_Inside_C nf), (56, ref_Value_C nf)]
def ref_TermsCheck_keep : Nat → List Nat := lookK [(0, [0, 1, 23, 24, 25])]
def ref_TermsCheck_b0 (nf : Nat) (vars : Int) (l' : List (Int × Int × Int × Int × Unit)) (g0 : Int → Option (Int × Unit)) (t25 : Int) : Option (Int × Unit) :=
  bif decide (t25 < (↑l'.length : Int)) then
    bif inb t25 l'.length then
      bif decide ((l'.getD t25.toNat (0, 0, 0, 0, ())).fst < 1) then
        some ((6, ()))
      else
        bif decide ((l'.getD t25.toNat (0, 0, 0, 0, ())).fst > 6) then
          some ((6, ()))
        else
          bif (l'.getD t25.toNat (0, 0, 0, 0, ())).fst == 1 then
            Option.bind (ref_Value_f nf ((l'.getD t25.toNat (0, 0, 0, 0, ())).snd.snd.snd.fst)) fun r =>
            bif !r.fst then
              some ((4, ()))
            else
              bif (l'.getD t25.toNat (0, 0, 0, 0, ())).fst == 2 then
                Option.bind (ref_Inside_f nf vars ([(l'.getD t25.toNat (0, 0, 0, 0, ())).snd.snd.snd.fst])) fun r2 =>
                bif !r2.fst then
                  some ((4, ()))
                else
                  bif decide ((l'.getD t25.toNat (0, 0, 0, 0, ())).fst ≥ 3) then
                    Option.bind (ref_Inside_f nf t25 ([(l'.getD t25.toNat (0, 0, 0, 0, ())).snd.fst, (l'.getD t25.toNat (0, 0, 0, 0, ())).snd.snd.fst])) fun r3 =>
                    bif !r3.fst then
                      some ((2, ()))
                    else
                      g0 (IntKind.i64.wrap (t25 + 1))
                  else
                    g0 (IntKind.i64.wrap (t25 + 1))
              else
                bif decide ((l'.getD t25.toNat (0, 0, 0, 0, ())).fst ≥ 3) then
                  Option.bind (ref_Inside_f nf t25 ([(l'.getD t25.toNat (0, 0, 0, 0, ())).snd.fst, (l'.getD t25.toNat (0, 0, 0, 0, ())).snd.snd.fst])) fun r4 =>
                  bif !r4.fst then
                    some ((2, ()))
                  else
                    g0 (IntKind.i64.wrap (t25 + 1))
                else
                  g0 (IntKind.i64.wrap (t25 + 1))
          else
            bif (l'.getD t25.toNat (0, 0, 0, 0, ())).fst == 2 then
              Option.bind (ref_Inside_f nf vars ([(l'.getD t25.toNat (0, 0, 0, 0, ())).snd.snd.snd.fst])) fun r5 =>
              bif !r5.fst then
                some ((4, ()))
              else
                bif decide ((l'.getD t25.toNat (0, 0, 0, 0, ())).fst ≥ 3) then
                  Option.bind (ref_Inside_f nf t25 ([(l'.getD t25.toNat (0, 0, 0, 0, ())).snd.fst, (l'.getD t25.toNat (0, 0, 0, 0, ())).snd.snd.fst])) fun r6 =>
                  bif !r6.fst then
                    some ((2, ()))
                  else
                    g0 (IntKind.i64.wrap (t25 + 1))
                else
                  g0 (IntKind.i64.wrap (t25 + 1))
            else
              bif decide ((l'.getD t25.toNat (0, 0, 0, 0, ())).fst ≥ 3) then
                Option.bind (ref_Inside_f nf t25 ([(l'.getD t25.toNat (0, 0, 0, 0, ())).snd.fst, (l'.getD t25.toNat (0, 0, 0, 0, ())).snd.snd.fst])) fun r7 =>
                bif !r7.fst then
                  some ((2, ()))
                else
                  g0 (IntKind.i64.wrap (t25 + 1))
              else
                g0 (IntKind.i64.wrap (t25 + 1))
    else
      none
  else
    some ((0, ()))
def ref_TermsCheck_p (nf : Nat) (l0 : Int → List (Int × Int × Int × Int × Unit) → Int → Option (Int × Unit)) (vars : Int) (l' : List (Int × Int × Int × Int × Unit)) : Option (Int × Unit) :=
  bif decide (vars < 0) then
    some ((1, ()))
  else
    bif decide (vars > 6) then
      some ((1, ()))
    else
      bif decide ((↑l'.length : Int) < 1) then
        some ((1, ()))
      else
        bif decide ((↑l'.length : Int) > 16) then
          some ((1, ()))
        else
          l0 vars l' 0
def ref_TermsCheck_l0 (nf : Nat) (vars : Int) (l' : List (Int × Int × Int × Int × Unit)) : Nat → Int → Option (Int × Unit)
  | 0, _ => none
  | fu + 1, t25 => ref_TermsCheck_b0 nf  vars l'  (ref_TermsCheck_l0 nf vars l'  fu) t25
def ref_TermsCheck_f (nf : Nat) (vars : Int) (l' : List (Int × Int × Int × Int × Unit)) : Option (Int × Unit) := ref_TermsCheck_p nf (fun p0 p1 v0 => ref_TermsCheck_l0 nf p0 p1 nf v0) vars l'
noncomputable def ref_TermsCheck_L0 (nf : Nat) : LC (Int × Unit) := theL (findL tab (ref_TermsCheck_phi nf) (fun _ F => iter nf F) ref_TermsCheck_keep 0 0 (codeOf Try.f21) (fin tab [(Ty.int IntKind.i64, Md.bor false true)] (resL ([]) Try.f21)) (fun _ _ => none) (fin tab [(Ty.int IntKind.i64, Md.bor false true)] (resL ([]) Try.f21)))
def ref_TermsCheck_m0 (vars : Int) (l' : List (Int × Int × Int × Int × Unit)) (t25 : Int) : St := ⟨fresh, [(0, AV.v (Ty.int IntKind.i64) (Md.bor false true) vars), (1, AV.v ((Ty.int IntKind.i64).pair ((Ty.int IntKind.i64).pair ((Ty.int IntKind.i64).pair ((Ty.int IntKind.i64).pair Ty.unit)))).sl (Md.bor true false) l'), (23, AV.v ((Ty.int IntKind.i64).pair ((Ty.int IntKind.i64).pair ((Ty.int IntKind.i64).pair ((Ty.int IntKind.i64).pair Ty.unit)))).sl (Md.bor true false) l'), (24, AV.v (Ty.int IntKind.i64) (Md.bor false true) (↑l'.length : Int)), (25, AV.v (Ty.int IntKind.i64) (Md.bor false true) t25)]⟩
theorem ref_TermsCheck_h0 (nf : Nat)  (vars : Int) (l' : List (Int × Int × Int × Int × Unit)) (fu : Nat) (t25 : Int) : iter (fu + 1) (LC.F tab (ref_TermsCheck_phi nf) (fun _ F => iter nf F) ref_TermsCheck_keep 0 (ref_TermsCheck_L0 nf )) (ref_TermsCheck_m0 vars l' t25) = ref_TermsCheck_b0 nf  vars l'  (fun t25 => iter fu (LC.F tab (ref_TermsCheck_phi nf) (fun _ F => iter nf F) ref_TermsCheck_keep 0 (ref_TermsCheck_L0 nf )) (ref_TermsCheck_m0 vars l' t25)) t25 := by kernel_rfl
theorem ref_TermsCheck_e0 (nf : Nat)  (vars : Int) (l' : List (Int × Int × Int × Int × Unit)) : ∀ (fu : Nat) (t25 : Int), iter fu (LC.F tab (ref_TermsCheck_phi nf) (fun _ F => iter nf F) ref_TermsCheck_keep 0 (ref_TermsCheck_L0 nf )) (ref_TermsCheck_m0 vars l' t25) = ref_TermsCheck_l0 nf vars l'  fu t25 := by
  intro fu
  induction fu with
  | zero => intros; rfl
  | succ fu ih =>
    intro t25
    rw [ref_TermsCheck_h0 nf  vars l' fu t25]
    simp only [ih]
    rfl
theorem ref_TermsCheck_eq (nf : Nat) (vars : Int) (l' : List (Int × Int × Int × Int × Unit)) : runF tab (ref_TermsCheck_phi nf) ref_TermsCheck_keep nf [PT.val (Ty.int IntKind.i64) (Md.bor true false), PT.val ((Ty.int IntKind.i64).pair ((Ty.int IntKind.i64).pair ((Ty.int IntKind.i64).pair ((Ty.int IntKind.i64).pair Ty.unit)))).sl (Md.bor true false)] [(Ty.int IntKind.i64, Md.bor false true)] (resL ([]) Try.f21) (codeOf Try.f21) ⟨vars, l', ()⟩ = ref_TermsCheck_f nf vars l' := by
  have h : runF tab (ref_TermsCheck_phi nf) ref_TermsCheck_keep nf [PT.val (Ty.int IntKind.i64) (Md.bor true false), PT.val ((Ty.int IntKind.i64).pair ((Ty.int IntKind.i64).pair ((Ty.int IntKind.i64).pair ((Ty.int IntKind.i64).pair Ty.unit)))).sl (Md.bor true false)] [(Ty.int IntKind.i64, Md.bor false true)] (resL ([]) Try.f21) (codeOf Try.f21) ⟨vars, l', ()⟩ = ref_TermsCheck_p nf (fun p0 p1 v0 => iter nf (LC.F tab (ref_TermsCheck_phi nf) (fun _ F => iter nf F) ref_TermsCheck_keep 0 (ref_TermsCheck_L0 nf)) (ref_TermsCheck_m0 p0 p1 v0)) vars l' := by kernel_rfl
  rw [h]
  simp only [ref_TermsCheck_e0]
  rfl
def ref_TermsCheck_F (nf : Nat) (x : denPs [.val (.int .i64) (.bor true false), .val (.sl (.pair (.int .i64) (.pair (.int .i64) (.pair (.int .i64) (.pair (.int .i64) (.unit)))))) (.bor true false)]) : Option (denL [(.int .i64, .bor false true)]) := ref_TermsCheck_f nf x.1 x.2.1
def ref_TermsCheck_C (nf : Nat) : Contract := ⟨[.val (.int .i64) (.bor true false), .val (.sl (.pair (.int .i64) (.pair (.int .i64) (.pair (.int .i64) (.pair (.int .i64) (.unit)))))) (.bor true false)], [(.int .i64, .bor false true)], ref_TermsCheck_F nf, []⟩
theorem ref_TermsCheck_ok : FnOK Try.prog 21 := ⟨Try.f21, codeOf Try.f21, Try.func21, by kernel_rfl, by kernel_rfl⟩
theorem ref_TermsCheck_holds (nf : Nat) : Contract.Holds Try.prog 21 (ref_TermsCheck_C nf) :=
  fn_holds (Φ := ref_TermsCheck_phi nf) (keep := ref_TermsCheck_keep) (n := nf) ⟨tabs.1, tabs.2, (ctx_cons ref_Inside_ok (ref_Inside_holds nf) (ctx_cons ref_Value_ok (ref_Value_holds nf) ctx_nil)), mixed, bk_ok bkls rfl⟩ (fn := Try.f21) ⟨Try.func21, by kernel_rfl, by kernel_rfl, by kernel_rfl⟩ (fun x => ref_TermsCheck_eq nf x.1 x.2.1)

/-! codemason term.Do -/
def term_Do_phi (nf : Nat) : Nat → Option Contract := lookC []
def term_Do_keep : Nat → List Nat := lookK []
def term_Do_p (nf : Nat)  (op : Int) (a : Int) (b : Int) : Option (Int × Unit) :=
  bif op == 3 then
    some ((IntKind.i64.wrap (↑(BitVec.ofInt IntKind.i64.bits (IntKind.i64.wrap (a + b)) &&& BitVec.ofInt IntKind.i64.bits 255).toNat : Int), ()))
  else
    bif op == 4 then
      some ((IntKind.i64.wrap (↑(BitVec.ofInt IntKind.i64.bits (IntKind.i64.wrap (a - b)) &&& BitVec.ofInt IntKind.i64.bits 255).toNat : Int), ()))
    else
      bif op == 5 then
        some ((IntKind.i64.wrap (↑(BitVec.ofInt IntKind.i64.bits (IntKind.i64.wrap (a * b)) &&& BitVec.ofInt IntKind.i64.bits 255).toNat : Int), ()))
      else
        bif decide (a < b) then
          some ((1, ()))
        else
          some ((0, ()))
def term_Do_f (nf : Nat) (op : Int) (a : Int) (b : Int) : Option (Int × Unit) := term_Do_p nf  op a b
theorem term_Do_eq (nf : Nat) (op : Int) (a : Int) (b : Int) : runF tab (term_Do_phi nf) term_Do_keep nf [PT.val (Ty.int IntKind.i64) (Md.bor true false), PT.val (Ty.int IntKind.i64) (Md.bor true false), PT.val (Ty.int IntKind.i64) (Md.bor true false)] [(Ty.int IntKind.i64, Md.bor false true)] (resL ([]) Try.f67) (codeOf Try.f67) ⟨op, a, b, ()⟩ = term_Do_f nf op a b := by
  have h : runF tab (term_Do_phi nf) term_Do_keep nf [PT.val (Ty.int IntKind.i64) (Md.bor true false), PT.val (Ty.int IntKind.i64) (Md.bor true false), PT.val (Ty.int IntKind.i64) (Md.bor true false)] [(Ty.int IntKind.i64, Md.bor false true)] (resL ([]) Try.f67) (codeOf Try.f67) ⟨op, a, b, ()⟩ = term_Do_p nf  op a b := by kernel_rfl
  exact h
def term_Do_F (nf : Nat) (x : denPs [.val (.int .i64) (.bor true false), .val (.int .i64) (.bor true false), .val (.int .i64) (.bor true false)]) : Option (denL [(.int .i64, .bor false true)]) := term_Do_f nf x.1 x.2.1 x.2.2.1
def term_Do_C (nf : Nat) : Contract := ⟨[.val (.int .i64) (.bor true false), .val (.int .i64) (.bor true false), .val (.int .i64) (.bor true false)], [(.int .i64, .bor false true)], term_Do_F nf, []⟩
theorem term_Do_ok : FnOK Try.prog 67 := ⟨Try.f67, codeOf Try.f67, Try.func67, by kernel_rfl, by kernel_rfl⟩
theorem term_Do_holds (nf : Nat) : Contract.Holds Try.prog 67 (term_Do_C nf) :=
  fn_holds (Φ := term_Do_phi nf) (keep := term_Do_keep) (n := nf) ⟨tabs.1, tabs.2, ctx_nil, mixed, bk_ok bkls rfl⟩ (fn := Try.f67) ⟨Try.func67, by kernel_rfl, by kernel_rfl, by kernel_rfl⟩ (fun x => term_Do_eq nf x.1 x.2.1 x.2.2.1)

/-! codemason codemasonref.Op -/
def ref_Op_phi (nf : Nat) : Nat → Option Contract := lookC []
def ref_Op_keep : Nat → List Nat := lookK []
def ref_Op_p (nf : Nat)  (op : Int) (a : Int) (b : Int) : Option (Int × Unit) :=
  bif op == 3 then
    bif op == 4 then
      bif op == 5 then
        bif op == 6 then
          bif decide (a < b) then
            some ((Int.tmod 1 256, ()))
          else
            some (((IntKind.i64.wrap (a * b)).tmod 256, ()))
        else
          some (((IntKind.i64.wrap (a * b)).tmod 256, ()))
      else
        bif op == 6 then
          bif decide (a < b) then
            some ((Int.tmod 1 256, ()))
          else
            some (((IntKind.i64.wrap (IntKind.i64.wrap (a - b) + 256)).tmod 256, ()))
        else
          some (((IntKind.i64.wrap (IntKind.i64.wrap (a - b) + 256)).tmod 256, ()))
    else
      bif op == 5 then
        bif op == 6 then
          bif decide (a < b) then
            some ((Int.tmod 1 256, ()))
          else
            some (((IntKind.i64.wrap (a * b)).tmod 256, ()))
        else
          some (((IntKind.i64.wrap (a * b)).tmod 256, ()))
      else
        bif op == 6 then
          bif decide (a < b) then
            some ((Int.tmod 1 256, ()))
          else
            some (((IntKind.i64.wrap (a + b)).tmod 256, ()))
        else
          some (((IntKind.i64.wrap (a + b)).tmod 256, ()))
  else
    bif op == 4 then
      bif op == 5 then
        bif op == 6 then
          bif decide (a < b) then
            some ((Int.tmod 1 256, ()))
          else
            some (((IntKind.i64.wrap (a * b)).tmod 256, ()))
        else
          some (((IntKind.i64.wrap (a * b)).tmod 256, ()))
      else
        bif op == 6 then
          bif decide (a < b) then
            some ((Int.tmod 1 256, ()))
          else
            some (((IntKind.i64.wrap (IntKind.i64.wrap (a - b) + 256)).tmod 256, ()))
        else
          some (((IntKind.i64.wrap (IntKind.i64.wrap (a - b) + 256)).tmod 256, ()))
    else
      bif op == 5 then
        bif op == 6 then
          bif decide (a < b) then
            some ((Int.tmod 1 256, ()))
          else
            some (((IntKind.i64.wrap (a * b)).tmod 256, ()))
        else
          some (((IntKind.i64.wrap (a * b)).tmod 256, ()))
      else
        bif op == 6 then
          bif decide (a < b) then
            some ((Int.tmod 1 256, ()))
          else
            some ((Int.tmod 0 256, ()))
        else
          some ((Int.tmod 0 256, ()))
def ref_Op_f (nf : Nat) (op : Int) (a : Int) (b : Int) : Option (Int × Unit) := ref_Op_p nf  op a b
theorem ref_Op_eq (nf : Nat) (op : Int) (a : Int) (b : Int) : runF tab (ref_Op_phi nf) ref_Op_keep nf [PT.val (Ty.int IntKind.i64) (Md.bor true false), PT.val (Ty.int IntKind.i64) (Md.bor true false), PT.val (Ty.int IntKind.i64) (Md.bor true false)] [(Ty.int IntKind.i64, Md.bor false true)] (resL ([]) Try.f68) (codeOf Try.f68) ⟨op, a, b, ()⟩ = ref_Op_f nf op a b := by
  have h : runF tab (ref_Op_phi nf) ref_Op_keep nf [PT.val (Ty.int IntKind.i64) (Md.bor true false), PT.val (Ty.int IntKind.i64) (Md.bor true false), PT.val (Ty.int IntKind.i64) (Md.bor true false)] [(Ty.int IntKind.i64, Md.bor false true)] (resL ([]) Try.f68) (codeOf Try.f68) ⟨op, a, b, ()⟩ = ref_Op_p nf  op a b := by kernel_rfl
  exact h
def ref_Op_F (nf : Nat) (x : denPs [.val (.int .i64) (.bor true false), .val (.int .i64) (.bor true false), .val (.int .i64) (.bor true false)]) : Option (denL [(.int .i64, .bor false true)]) := ref_Op_f nf x.1 x.2.1 x.2.2.1
def ref_Op_C (nf : Nat) : Contract := ⟨[.val (.int .i64) (.bor true false), .val (.int .i64) (.bor true false), .val (.int .i64) (.bor true false)], [(.int .i64, .bor false true)], ref_Op_F nf, []⟩
theorem ref_Op_ok : FnOK Try.prog 68 := ⟨Try.f68, codeOf Try.f68, Try.func68, by kernel_rfl, by kernel_rfl⟩
theorem ref_Op_holds (nf : Nat) : Contract.Holds Try.prog 68 (ref_Op_C nf) :=
  fn_holds (Φ := ref_Op_phi nf) (keep := ref_Op_keep) (n := nf) ⟨tabs.1, tabs.2, ctx_nil, mixed, bk_ok bkls rfl⟩ (fn := Try.f68) ⟨Try.func68, by kernel_rfl, by kernel_rfl, by kernel_rfl⟩ (fun x => ref_Op_eq nf x.1 x.2.1 x.2.2.1)

/-! codemason codemasonref.Ints -/
def ref_Ints_phi (nf : Nat) : Nat → Option Contract := lookC []
def ref_Ints_keep : Nat → List Nat := lookK [(0, [0, 1, 5])]
def ref_Ints_b0 (nf : Nat) (a : List Int) (b : List Int) (g0 : Int → Option (Bool × Unit)) (i : Int) : Option (Bool × Unit) :=
  bif decide (i < (↑a.length : Int)) then
    bif inb i a.length then
      bif inb i b.length then
        bif a.getD i.toNat 0 != b.getD i.toNat 0 then
          some ((false, ()))
        else
          g0 (IntKind.i64.wrap (i + 1))
      else
        none
    else
      none
  else
    some ((true, ()))
def ref_Ints_p (nf : Nat) (l0 : List Int → List Int → Int → Option (Bool × Unit)) (a : List Int) (b : List Int) : Option (Bool × Unit) :=
  bif (↑a.length : Int) != (↑b.length : Int) then
    some ((false, ()))
  else
    l0 a b 0
def ref_Ints_l0 (nf : Nat) (a : List Int) (b : List Int) : Nat → Int → Option (Bool × Unit)
  | 0, _ => none
  | fu + 1, i => ref_Ints_b0 nf  a b  (ref_Ints_l0 nf a b  fu) i
def ref_Ints_f (nf : Nat) (a : List Int) (b : List Int) : Option (Bool × Unit) := ref_Ints_p nf (fun p0 p1 v0 => ref_Ints_l0 nf p0 p1 nf v0) a b
noncomputable def ref_Ints_L0 (nf : Nat) : LC (Bool × Unit) := theL (findL tab (ref_Ints_phi nf) (fun _ F => iter nf F) ref_Ints_keep 0 0 (codeOf Try.f34) (fin tab [(Ty.bool, Md.bor false true)] (resL ([]) Try.f34)) (fun _ _ => none) (fin tab [(Ty.bool, Md.bor false true)] (resL ([]) Try.f34)))
def ref_Ints_m0 (a : List Int) (b : List Int) (i : Int) : St := ⟨fresh, [(0, AV.v (Ty.int IntKind.i64).sl (Md.bor true false) a), (1, AV.v (Ty.int IntKind.i64).sl (Md.bor true false) b), (5, AV.v (Ty.int IntKind.i64) (Md.bor false true) i)]⟩
theorem ref_Ints_h0 (nf : Nat)  (a : List Int) (b : List Int) (fu : Nat) (i : Int) : iter (fu + 1) (LC.F tab (ref_Ints_phi nf) (fun _ F => iter nf F) ref_Ints_keep 0 (ref_Ints_L0 nf )) (ref_Ints_m0 a b i) = ref_Ints_b0 nf  a b  (fun i => iter fu (LC.F tab (ref_Ints_phi nf) (fun _ F => iter nf F) ref_Ints_keep 0 (ref_Ints_L0 nf )) (ref_Ints_m0 a b i)) i := by kernel_rfl
theorem ref_Ints_e0 (nf : Nat)  (a : List Int) (b : List Int) : ∀ (fu : Nat) (i : Int), iter fu (LC.F tab (ref_Ints_phi nf) (fun _ F => iter nf F) ref_Ints_keep 0 (ref_Ints_L0 nf )) (ref_Ints_m0 a b i) = ref_Ints_l0 nf a b  fu i := by
  intro fu
  induction fu with
  | zero => intros; rfl
  | succ fu ih =>
    intro i
    rw [ref_Ints_h0 nf  a b fu i]
    simp only [ih]
    rfl
theorem ref_Ints_eq (nf : Nat) (a : List Int) (b : List Int) : runF tab (ref_Ints_phi nf) ref_Ints_keep nf [PT.val (Ty.int IntKind.i64).sl (Md.bor true false), PT.val (Ty.int IntKind.i64).sl (Md.bor true false)] [(Ty.bool, Md.bor false true)] (resL ([]) Try.f34) (codeOf Try.f34) ⟨a, b, ()⟩ = ref_Ints_f nf a b := by
  have h : runF tab (ref_Ints_phi nf) ref_Ints_keep nf [PT.val (Ty.int IntKind.i64).sl (Md.bor true false), PT.val (Ty.int IntKind.i64).sl (Md.bor true false)] [(Ty.bool, Md.bor false true)] (resL ([]) Try.f34) (codeOf Try.f34) ⟨a, b, ()⟩ = ref_Ints_p nf (fun p0 p1 v0 => iter nf (LC.F tab (ref_Ints_phi nf) (fun _ F => iter nf F) ref_Ints_keep 0 (ref_Ints_L0 nf)) (ref_Ints_m0 p0 p1 v0)) a b := by kernel_rfl
  rw [h]
  simp only [ref_Ints_e0]
  rfl
def ref_Ints_F (nf : Nat) (x : denPs [.val (.sl (.int .i64)) (.bor true false), .val (.sl (.int .i64)) (.bor true false)]) : Option (denL [(.bool, .bor false true)]) := ref_Ints_f nf x.1 x.2.1
def ref_Ints_C (nf : Nat) : Contract := ⟨[.val (.sl (.int .i64)) (.bor true false), .val (.sl (.int .i64)) (.bor true false)], [(.bool, .bor false true)], ref_Ints_F nf, []⟩
theorem ref_Ints_ok : FnOK Try.prog 34 := ⟨Try.f34, codeOf Try.f34, Try.func34, by kernel_rfl, by kernel_rfl⟩
theorem ref_Ints_holds (nf : Nat) : Contract.Holds Try.prog 34 (ref_Ints_C nf) :=
  fn_holds (Φ := ref_Ints_phi nf) (keep := ref_Ints_keep) (n := nf) ⟨tabs.1, tabs.2, ctx_nil, mixed, bk_ok bkls rfl⟩ (fn := Try.f34) ⟨Try.func34, by kernel_rfl, by kernel_rfl, by kernel_rfl⟩ (fun x => ref_Ints_eq nf x.1 x.2.1)

/-! codemason term.Have 1 -/
def term_Have_1_phi (nf : Nat) : Nat → Option Contract := lookC []
def term_Have_1_keep : Nat → List Nat := lookK []
def term_Have_1_p (nf : Nat)  (x : Int) : Option (Bool × Unit) :=
  bif decide (x < 0) then
    some ((true, ()))
  else
    some ((decide (x > 255), ()))
def term_Have_1_f (nf : Nat) (x : Int) : Option (Bool × Unit) := term_Have_1_p nf  x
theorem term_Have_1_eq (nf : Nat) (x : Int) : runF tab (term_Have_1_phi nf) term_Have_1_keep nf [PT.val (Ty.int IntKind.i64) (Md.bor true false)] [(Ty.bool, Md.bor false true)] (resL ([]) Try.f92) (codeOf Try.f92) ⟨x, ()⟩ = term_Have_1_f nf x := by
  have h : runF tab (term_Have_1_phi nf) term_Have_1_keep nf [PT.val (Ty.int IntKind.i64) (Md.bor true false)] [(Ty.bool, Md.bor false true)] (resL ([]) Try.f92) (codeOf Try.f92) ⟨x, ()⟩ = term_Have_1_p nf  x := by kernel_rfl
  exact h
def term_Have_1_F (nf : Nat) (x : denPs [.val (.int .i64) (.bor true false)]) : Option (denL [(.bool, .bor false true)]) := term_Have_1_f nf x.1
def term_Have_1_C (nf : Nat) : Contract := ⟨[.val (.int .i64) (.bor true false)], [(.bool, .bor false true)], term_Have_1_F nf, []⟩
theorem term_Have_1_ok : FnOK Try.prog 92 := ⟨Try.f92, codeOf Try.f92, Try.func92, by kernel_rfl, by kernel_rfl⟩
theorem term_Have_1_holds (nf : Nat) : Contract.Holds Try.prog 92 (term_Have_1_C nf) :=
  fn_holds (Φ := term_Have_1_phi nf) (keep := term_Have_1_keep) (n := nf) ⟨tabs.1, tabs.2, ctx_nil, mixed, bk_ok bkls rfl⟩ (fn := Try.f92) ⟨Try.func92, by kernel_rfl, by kernel_rfl, by kernel_rfl⟩ (fun x => term_Have_1_eq nf x.1)

/-! slices.IndexFunc   int int  codemason term.Have 1 -/
def slices_IndexFunc__term_Have_1_phi (nf : Nat) : Nat → Option Contract := lookC [(92, term_Have_1_C nf)]
def slices_IndexFunc__term_Have_1_keep : Nat → List Nat := lookK [(0, [0, 1, 7, 8])]
def slices_IndexFunc__term_Have_1_b0 (nf : Nat) (s : List Int) (g0 : Int → Option (Int × Unit)) (t8 : Int) : Option (Int × Unit) :=
  bif decide (t8 < (↑s.length : Int)) then
    bif inb t8 s.length then
      Option.bind (term_Have_1_f nf (s.getD t8.toNat 0)) fun r =>
      bif r.fst then
        some ((t8, ()))
      else
        g0 (IntKind.i64.wrap (t8 + 1))
    else
      none
  else
    some ((-1, ()))
def slices_IndexFunc__term_Have_1_p (nf : Nat) (l0 : List Int → Int → Option (Int × Unit)) (s : List Int) (f : Unit) : Option (Int × Unit) :=
  l0 s 0
def slices_IndexFunc__term_Have_1_l0 (nf : Nat) (s : List Int) : Nat → Int → Option (Int × Unit)
  | 0, _ => none
  | fu + 1, t8 => slices_IndexFunc__term_Have_1_b0 nf  s  (slices_IndexFunc__term_Have_1_l0 nf s  fu) t8
def slices_IndexFunc__term_Have_1_f (nf : Nat) (s : List Int) (f : Unit) : Option (Int × Unit) := slices_IndexFunc__term_Have_1_p nf (fun p0 v0 => slices_IndexFunc__term_Have_1_l0 nf p0 nf v0) s f
noncomputable def slices_IndexFunc__term_Have_1_L0 (nf : Nat) : LC (Int × Unit) := theL (findL tab (slices_IndexFunc__term_Have_1_phi nf) (fun _ F => iter nf F) slices_IndexFunc__term_Have_1_keep 0 0 (codeOf Try.f97) (fin tab [(Ty.int IntKind.i64, Md.bor false true)] (resL ([]) Try.f97)) (fun _ _ => none) (fin tab [(Ty.int IntKind.i64, Md.bor false true)] (resL ([]) Try.f97)))
def slices_IndexFunc__term_Have_1_m0 (s : List Int) (t8 : Int) : St := ⟨fresh, [(0, AV.v (Ty.int IntKind.i64).sl (Md.bor true false) s), (1, AV.clo 92 []), (7, AV.v (Ty.int IntKind.i64) (Md.bor false true) (↑s.length : Int)), (8, AV.v (Ty.int IntKind.i64) (Md.bor false true) t8)]⟩
theorem slices_IndexFunc__term_Have_1_h0 (nf : Nat)  (s : List Int) (fu : Nat) (t8 : Int) : iter (fu + 1) (LC.F tab (slices_IndexFunc__term_Have_1_phi nf) (fun _ F => iter nf F) slices_IndexFunc__term_Have_1_keep 0 (slices_IndexFunc__term_Have_1_L0 nf )) (slices_IndexFunc__term_Have_1_m0 s t8) = slices_IndexFunc__term_Have_1_b0 nf  s  (fun t8 => iter fu (LC.F tab (slices_IndexFunc__term_Have_1_phi nf) (fun _ F => iter nf F) slices_IndexFunc__term_Have_1_keep 0 (slices_IndexFunc__term_Have_1_L0 nf )) (slices_IndexFunc__term_Have_1_m0 s t8)) t8 := by kernel_rfl
theorem slices_IndexFunc__term_Have_1_e0 (nf : Nat)  (s : List Int) : ∀ (fu : Nat) (t8 : Int), iter fu (LC.F tab (slices_IndexFunc__term_Have_1_phi nf) (fun _ F => iter nf F) slices_IndexFunc__term_Have_1_keep 0 (slices_IndexFunc__term_Have_1_L0 nf )) (slices_IndexFunc__term_Have_1_m0 s t8) = slices_IndexFunc__term_Have_1_l0 nf s  fu t8 := by
  intro fu
  induction fu with
  | zero => intros; rfl
  | succ fu ih =>
    intro t8
    rw [slices_IndexFunc__term_Have_1_h0 nf  s fu t8]
    simp only [ih]
    rfl
theorem slices_IndexFunc__term_Have_1_eq (nf : Nat) (s : List Int) (f : Unit) : runF tab (slices_IndexFunc__term_Have_1_phi nf) slices_IndexFunc__term_Have_1_keep nf [PT.val (Ty.int IntKind.i64).sl (Md.bor true false), PT.clo 92 []] [(Ty.int IntKind.i64, Md.bor false true)] (resL ([]) Try.f97) (codeOf Try.f97) ⟨s, f, ()⟩ = slices_IndexFunc__term_Have_1_f nf s f := by
  have h : runF tab (slices_IndexFunc__term_Have_1_phi nf) slices_IndexFunc__term_Have_1_keep nf [PT.val (Ty.int IntKind.i64).sl (Md.bor true false), PT.clo 92 []] [(Ty.int IntKind.i64, Md.bor false true)] (resL ([]) Try.f97) (codeOf Try.f97) ⟨s, f, ()⟩ = slices_IndexFunc__term_Have_1_p nf (fun p0 v0 => iter nf (LC.F tab (slices_IndexFunc__term_Have_1_phi nf) (fun _ F => iter nf F) slices_IndexFunc__term_Have_1_keep 0 (slices_IndexFunc__term_Have_1_L0 nf)) (slices_IndexFunc__term_Have_1_m0 p0 v0)) s f := by kernel_rfl
  rw [h]
  simp only [slices_IndexFunc__term_Have_1_e0]
  rfl
def slices_IndexFunc__term_Have_1_F (nf : Nat) (x : denPs [.val (.sl (.int .i64)) (.bor true false), .clo 92 []]) : Option (denL [(.int .i64, .bor false true)]) := slices_IndexFunc__term_Have_1_f nf x.1 x.2.1
def slices_IndexFunc__term_Have_1_C (nf : Nat) : Contract := ⟨[.val (.sl (.int .i64)) (.bor true false), .clo 92 []], [(.int .i64, .bor false true)], slices_IndexFunc__term_Have_1_F nf, []⟩
theorem slices_IndexFunc__term_Have_1_ok : FnOK Try.prog 97 := ⟨Try.f97, codeOf Try.f97, Try.func97, by kernel_rfl, by kernel_rfl⟩
theorem slices_IndexFunc__term_Have_1_holds (nf : Nat) : Contract.Holds Try.prog 97 (slices_IndexFunc__term_Have_1_C nf) :=
  fn_holds (Φ := slices_IndexFunc__term_Have_1_phi nf) (keep := slices_IndexFunc__term_Have_1_keep) (n := nf) ⟨tabs.1, tabs.2, (ctx_cons term_Have_1_ok (term_Have_1_holds nf) ctx_nil), mixed, bk_ok bkls rfl⟩ (fn := Try.f97) ⟨Try.func97, by kernel_rfl, by kernel_rfl, by kernel_rfl⟩ (fun x => slices_IndexFunc__term_Have_1_eq nf x.1 x.2.1)

/-! slices.ContainsFunc   int int  codemason term.Have 1 -/
def slices_ContainsFunc__term_Have_1_phi (nf : Nat) : Nat → Option Contract := lookC [(97, slices_IndexFunc__term_Have_1_C nf)]
def slices_ContainsFunc__term_Have_1_keep : Nat → List Nat := lookK []
def slices_ContainsFunc__term_Have_1_p (nf : Nat)  (s : List Int) (f : Unit) : Option (Bool × Unit) :=
  Option.bind (slices_IndexFunc__term_Have_1_f nf s (())) fun r =>
  some ((decide (r.fst ≥ 0), ()))
def slices_ContainsFunc__term_Have_1_f (nf : Nat) (s : List Int) (f : Unit) : Option (Bool × Unit) := slices_ContainsFunc__term_Have_1_p nf  s f
theorem slices_ContainsFunc__term_Have_1_eq (nf : Nat) (s : List Int) (f : Unit) : runF tab (slices_ContainsFunc__term_Have_1_phi nf) slices_ContainsFunc__term_Have_1_keep nf [PT.val (Ty.int IntKind.i64).sl (Md.bor true false), PT.clo 92 []] [(Ty.bool, Md.bor false true)] (resL ([]) Try.f91) (codeOf Try.f91) ⟨s, f, ()⟩ = slices_ContainsFunc__term_Have_1_f nf s f := by
  have h : runF tab (slices_ContainsFunc__term_Have_1_phi nf) slices_ContainsFunc__term_Have_1_keep nf [PT.val (Ty.int IntKind.i64).sl (Md.bor true false), PT.clo 92 []] [(Ty.bool, Md.bor false true)] (resL ([]) Try.f91) (codeOf Try.f91) ⟨s, f, ()⟩ = slices_ContainsFunc__term_Have_1_p nf  s f := by kernel_rfl
  exact h
def slices_ContainsFunc__term_Have_1_F (nf : Nat) (x : denPs [.val (.sl (.int .i64)) (.bor true false), .clo 92 []]) : Option (denL [(.bool, .bor false true)]) := slices_ContainsFunc__term_Have_1_f nf x.1 x.2.1
def slices_ContainsFunc__term_Have_1_C (nf : Nat) : Contract := ⟨[.val (.sl (.int .i64)) (.bor true false), .clo 92 []], [(.bool, .bor false true)], slices_ContainsFunc__term_Have_1_F nf, []⟩
theorem slices_ContainsFunc__term_Have_1_ok : FnOK Try.prog 91 := ⟨Try.f91, codeOf Try.f91, Try.func91, by kernel_rfl, by kernel_rfl⟩
theorem slices_ContainsFunc__term_Have_1_holds (nf : Nat) : Contract.Holds Try.prog 91 (slices_ContainsFunc__term_Have_1_C nf) :=
  fn_holds (Φ := slices_ContainsFunc__term_Have_1_phi nf) (keep := slices_ContainsFunc__term_Have_1_keep) (n := nf) ⟨tabs.1, tabs.2, (ctx_cons slices_IndexFunc__term_Have_1_ok (slices_IndexFunc__term_Have_1_holds nf) ctx_nil), mixed, bk_ok bkls rfl⟩ (fn := Try.f91) ⟨Try.func91, by kernel_rfl, by kernel_rfl, by kernel_rfl⟩ (fun x => slices_ContainsFunc__term_Have_1_eq nf x.1 x.2.1)

/-! codemason term.Have -/
def term_Have_phi (nf : Nat) : Nat → Option Contract := lookC [(91, slices_ContainsFunc__term_Have_1_C nf)]
def term_Have_keep : Nat → List Nat := lookK []
def term_Have_p (nf : Nat)  (vars : Int) (have' : List Int) : Option (Int × Unit) :=
  bif (↑have'.length : Int) != vars then
    some ((3, ()))
  else
    Option.bind (slices_ContainsFunc__term_Have_1_f nf have' (())) fun r =>
    bif r.fst then
      some ((4, ()))
    else
      some ((0, ()))
def term_Have_f (nf : Nat) (vars : Int) (have' : List Int) : Option (Int × Unit) := term_Have_p nf  vars have'
theorem term_Have_eq (nf : Nat) (vars : Int) (have' : List Int) : runF tab (term_Have_phi nf) term_Have_keep nf [PT.val (Ty.int IntKind.i64) (Md.bor true false), PT.val (Ty.int IntKind.i64).sl (Md.bor true false)] [(Ty.int IntKind.i64, Md.bor false true)] (resL ([]) Try.f66) (codeOf Try.f66) ⟨vars, have', ()⟩ = term_Have_f nf vars have' := by
  have h : runF tab (term_Have_phi nf) term_Have_keep nf [PT.val (Ty.int IntKind.i64) (Md.bor true false), PT.val (Ty.int IntKind.i64).sl (Md.bor true false)] [(Ty.int IntKind.i64, Md.bor false true)] (resL ([]) Try.f66) (codeOf Try.f66) ⟨vars, have', ()⟩ = term_Have_p nf  vars have' := by kernel_rfl
  exact h
def term_Have_F (nf : Nat) (x : denPs [.val (.int .i64) (.bor true false), .val (.sl (.int .i64)) (.bor true false)]) : Option (denL [(.int .i64, .bor false true)]) := term_Have_f nf x.1 x.2.1
def term_Have_C (nf : Nat) : Contract := ⟨[.val (.int .i64) (.bor true false), .val (.sl (.int .i64)) (.bor true false)], [(.int .i64, .bor false true)], term_Have_F nf, []⟩
theorem term_Have_ok : FnOK Try.prog 66 := ⟨Try.f66, codeOf Try.f66, Try.func66, by kernel_rfl, by kernel_rfl⟩
theorem term_Have_holds (nf : Nat) : Contract.Holds Try.prog 66 (term_Have_C nf) :=
  fn_holds (Φ := term_Have_phi nf) (keep := term_Have_keep) (n := nf) ⟨tabs.1, tabs.2, (ctx_cons slices_ContainsFunc__term_Have_1_ok (slices_ContainsFunc__term_Have_1_holds nf) ctx_nil), mixed, bk_ok bkls rfl⟩ (fn := Try.f66) ⟨Try.func66, by kernel_rfl, by kernel_rfl, by kernel_rfl⟩ (fun x => term_Have_eq nf x.1 x.2.1)

/-! codemason codemasonref.HaveCheck -/
def ref_HaveCheck_phi (nf : Nat) : Nat → Option Contract := lookC [(56, ref_Value_C nf)]
def ref_HaveCheck_keep : Nat → List Nat := lookK [(0, [1, 11, 12, 13])]
def ref_HaveCheck_b0 (nf : Nat) (have' : List Int) (g0 : Int → Option (Int × Unit)) (t13 : Int) : Option (Int × Unit) :=
  bif decide (t13 < (↑have'.length : Int)) then
    bif inb t13 have'.length then
      Option.bind (ref_Value_f nf (have'.getD t13.toNat 0)) fun r =>
      bif !r.fst then
        some ((4, ()))
      else
        g0 (IntKind.i64.wrap (t13 + 1))
    else
      none
  else
    some ((0, ()))
def ref_HaveCheck_p (nf : Nat) (l0 : List Int → Int → Option (Int × Unit)) (vars : Int) (have' : List Int) : Option (Int × Unit) :=
  bif (↑have'.length : Int) != vars then
    some ((3, ()))
  else
    l0 have' 0
def ref_HaveCheck_l0 (nf : Nat) (have' : List Int) : Nat → Int → Option (Int × Unit)
  | 0, _ => none
  | fu + 1, t13 => ref_HaveCheck_b0 nf  have'  (ref_HaveCheck_l0 nf have'  fu) t13
def ref_HaveCheck_f (nf : Nat) (vars : Int) (have' : List Int) : Option (Int × Unit) := ref_HaveCheck_p nf (fun p0 v0 => ref_HaveCheck_l0 nf p0 nf v0) vars have'
noncomputable def ref_HaveCheck_L0 (nf : Nat) : LC (Int × Unit) := theL (findL tab (ref_HaveCheck_phi nf) (fun _ F => iter nf F) ref_HaveCheck_keep 0 0 (codeOf Try.f28) (fin tab [(Ty.int IntKind.i64, Md.bor false true)] (resL ([]) Try.f28)) (fun _ _ => none) (fin tab [(Ty.int IntKind.i64, Md.bor false true)] (resL ([]) Try.f28)))
def ref_HaveCheck_m0 (have' : List Int) (t13 : Int) : St := ⟨fresh, [(1, AV.v (Ty.int IntKind.i64).sl (Md.bor true false) have'), (11, AV.v (Ty.int IntKind.i64).sl (Md.bor true false) have'), (12, AV.v (Ty.int IntKind.i64) (Md.bor false true) (↑have'.length : Int)), (13, AV.v (Ty.int IntKind.i64) (Md.bor false true) t13)]⟩
theorem ref_HaveCheck_h0 (nf : Nat)  (have' : List Int) (fu : Nat) (t13 : Int) : iter (fu + 1) (LC.F tab (ref_HaveCheck_phi nf) (fun _ F => iter nf F) ref_HaveCheck_keep 0 (ref_HaveCheck_L0 nf )) (ref_HaveCheck_m0 have' t13) = ref_HaveCheck_b0 nf  have'  (fun t13 => iter fu (LC.F tab (ref_HaveCheck_phi nf) (fun _ F => iter nf F) ref_HaveCheck_keep 0 (ref_HaveCheck_L0 nf )) (ref_HaveCheck_m0 have' t13)) t13 := by kernel_rfl
theorem ref_HaveCheck_e0 (nf : Nat)  (have' : List Int) : ∀ (fu : Nat) (t13 : Int), iter fu (LC.F tab (ref_HaveCheck_phi nf) (fun _ F => iter nf F) ref_HaveCheck_keep 0 (ref_HaveCheck_L0 nf )) (ref_HaveCheck_m0 have' t13) = ref_HaveCheck_l0 nf have'  fu t13 := by
  intro fu
  induction fu with
  | zero => intros; rfl
  | succ fu ih =>
    intro t13
    rw [ref_HaveCheck_h0 nf  have' fu t13]
    simp only [ih]
    rfl
theorem ref_HaveCheck_eq (nf : Nat) (vars : Int) (have' : List Int) : runF tab (ref_HaveCheck_phi nf) ref_HaveCheck_keep nf [PT.val (Ty.int IntKind.i64) (Md.bor true false), PT.val (Ty.int IntKind.i64).sl (Md.bor true false)] [(Ty.int IntKind.i64, Md.bor false true)] (resL ([]) Try.f28) (codeOf Try.f28) ⟨vars, have', ()⟩ = ref_HaveCheck_f nf vars have' := by
  have h : runF tab (ref_HaveCheck_phi nf) ref_HaveCheck_keep nf [PT.val (Ty.int IntKind.i64) (Md.bor true false), PT.val (Ty.int IntKind.i64).sl (Md.bor true false)] [(Ty.int IntKind.i64, Md.bor false true)] (resL ([]) Try.f28) (codeOf Try.f28) ⟨vars, have', ()⟩ = ref_HaveCheck_p nf (fun p0 v0 => iter nf (LC.F tab (ref_HaveCheck_phi nf) (fun _ F => iter nf F) ref_HaveCheck_keep 0 (ref_HaveCheck_L0 nf)) (ref_HaveCheck_m0 p0 v0)) vars have' := by kernel_rfl
  rw [h]
  simp only [ref_HaveCheck_e0]
  rfl
def ref_HaveCheck_F (nf : Nat) (x : denPs [.val (.int .i64) (.bor true false), .val (.sl (.int .i64)) (.bor true false)]) : Option (denL [(.int .i64, .bor false true)]) := ref_HaveCheck_f nf x.1 x.2.1
def ref_HaveCheck_C (nf : Nat) : Contract := ⟨[.val (.int .i64) (.bor true false), .val (.sl (.int .i64)) (.bor true false)], [(.int .i64, .bor false true)], ref_HaveCheck_F nf, []⟩
theorem ref_HaveCheck_ok : FnOK Try.prog 28 := ⟨Try.f28, codeOf Try.f28, Try.func28, by kernel_rfl, by kernel_rfl⟩
theorem ref_HaveCheck_holds (nf : Nat) : Contract.Holds Try.prog 28 (ref_HaveCheck_C nf) :=
  fn_holds (Φ := ref_HaveCheck_phi nf) (keep := ref_HaveCheck_keep) (n := nf) ⟨tabs.1, tabs.2, (ctx_cons ref_Value_ok (ref_Value_holds nf) ctx_nil), mixed, bk_ok bkls rfl⟩ (fn := Try.f28) ⟨Try.func28, by kernel_rfl, by kernel_rfl, by kernel_rfl⟩ (fun x => ref_HaveCheck_eq nf x.1 x.2.1)

/-! codemason term.Value -/
def term_Value_phi (nf : Nat) : Nat → Option Contract := lookC [(20, term_Check_C nf), (66, term_Have_C nf), (67, term_Do_C nf)]
def term_Value_keep : Nat → List Nat := lookK [(0, [1, 2, 10, 26, 27, 28, 63])]
def term_Value_b0 (nf : Nat) (l' : List (Int × Int × Int × Int × Unit)) (have' : List Int) (g0 : List Int → Int → Option (Int × Int × Unit)) (v : List Int) (t28 : Int) : Option (Int × Int × Unit) :=
  bif decide (t28 < (↑l'.length : Int)) then
    bif inb t28 l'.length then
      bif (l'.getD t28.toNat (0, 0, 0, 0, ())).fst == 2 then
        bif inb (l'.getD t28.toNat (0, 0, 0, 0, ())).snd.snd.snd.fst have'.length then
          bif bimp false ![have'.getD (Int.toNat (l'.getD t28.toNat (0, 0, 0, 0, ())).snd.snd.snd.fst) 0].isEmpty && (v.length + [have'.getD (Int.toNat (l'.getD t28.toNat (0, 0, 0, 0, ())).snd.snd.snd.fst) 0].length).ble lim then
            g0 (v ++ [have'.getD (Int.toNat (l'.getD t28.toNat (0, 0, 0, 0, ())).snd.snd.snd.fst) 0]) (IntKind.i64.wrap (t28 + 1))
          else
            none
        else
          none
      else
        bif decide ((l'.getD t28.toNat (0, 0, 0, 0, ())).fst > 2) then
          bif inb (l'.getD t28.toNat (0, 0, 0, 0, ())).snd.fst v.length then
            bif inb (l'.getD t28.toNat (0, 0, 0, 0, ())).snd.snd.fst v.length then
              Option.bind (term_Do_f nf ((l'.getD t28.toNat (0, 0, 0, 0, ())).fst) (v.getD (Int.toNat (l'.getD t28.toNat (0, 0, 0, 0, ())).snd.fst) 0) (v.getD (Int.toNat (l'.getD t28.toNat (0, 0, 0, 0, ())).snd.snd.fst) 0)) fun r3 =>
              bif bimp false ![r3.fst].isEmpty && (v.length + [r3.fst].length).ble lim then
                g0 (v ++ [r3.fst]) (IntKind.i64.wrap (t28 + 1))
              else
                none
            else
              none
          else
            none
        else
          bif bimp false ![(l'.getD t28.toNat (0, 0, 0, 0, ())).snd.snd.snd.fst].isEmpty && (v.length + [(l'.getD t28.toNat (0, 0, 0, 0, ())).snd.snd.snd.fst].length).ble lim then
            g0 (v ++ [(l'.getD t28.toNat (0, 0, 0, 0, ())).snd.snd.snd.fst]) (IntKind.i64.wrap (t28 + 1))
          else
            none
    else
      none
  else
    bif inb (IntKind.i64.wrap ((↑v.length : Int) - 1)) v.length then
      some ((v.getD (IntKind.i64.wrap ((↑v.length : Int) - 1)).toNat 0, 0, ()))
    else
      none
def term_Value_p (nf : Nat) (l0 : List (Int × Int × Int × Int × Unit) → List Int → List Int → Int → Option (Int × Int × Unit)) (vars : Int) (l' : List (Int × Int × Int × Int × Unit)) (have' : List Int) : Option (Int × Int × Unit) :=
  Option.bind (term_Check_f nf vars l') fun r =>
  bif r.fst != 0 then
    some ((0, r.fst, ()))
  else
    Option.bind (term_Have_f nf vars have') fun r2 =>
    bif r2.fst != 0 then
      some ((0, r2.fst, ()))
    else
      l0 l' have' [] 0
def term_Value_l0 (nf : Nat) (l' : List (Int × Int × Int × Int × Unit)) (have' : List Int) : Nat → List Int → Int → Option (Int × Int × Unit)
  | 0, _, _ => none
  | fu + 1, v, t28 => term_Value_b0 nf  l' have'  (term_Value_l0 nf l' have'  fu) v t28
def term_Value_f (nf : Nat) (vars : Int) (l' : List (Int × Int × Int × Int × Unit)) (have' : List Int) : Option (Int × Int × Unit) := term_Value_p nf (fun p0 p1 v0 v1 => term_Value_l0 nf p0 p1 nf v0 v1) vars l' have'
noncomputable def term_Value_L0 (nf : Nat) : LC (Int × Int × Unit) := theL (findL tab (term_Value_phi nf) (fun _ F => iter nf F) term_Value_keep 0 0 (codeOf Try.f24) (fin tab [(Ty.int IntKind.i64, Md.bor false true), (Ty.int IntKind.i64, Md.bor false true)] (resL ([]) Try.f24)) (fun _ _ => none) (fin tab [(Ty.int IntKind.i64, Md.bor false true), (Ty.int IntKind.i64, Md.bor false true)] (resL ([]) Try.f24)))
def term_Value_m0 (l' : List (Int × Int × Int × Int × Unit)) (have' : List Int) (v : List Int) (t28 : Int) : St := ⟨fresh, [(1, AV.v ((Ty.int IntKind.i64).pair ((Ty.int IntKind.i64).pair ((Ty.int IntKind.i64).pair ((Ty.int IntKind.i64).pair Ty.unit)))).sl (Md.bor true false) l'), (2, AV.v (Ty.int IntKind.i64).sl (Md.bor true false) have'), (10, AV.ow 500010 (Ty.int IntKind.i64).sl (Md.own false (Md.bor false false)) v), (26, AV.v ((Ty.int IntKind.i64).pair ((Ty.int IntKind.i64).pair ((Ty.int IntKind.i64).pair ((Ty.int IntKind.i64).pair Ty.unit)))).sl (Md.bor true false) l'), (27, AV.v (Ty.int IntKind.i64) (Md.bor false true) (↑l'.length : Int)), (28, AV.v (Ty.int IntKind.i64) (Md.bor false true) t28), (63, AV.dead)]⟩
theorem term_Value_h0 (nf : Nat)  (l' : List (Int × Int × Int × Int × Unit)) (have' : List Int) (fu : Nat) (v : List Int) (t28 : Int) : iter (fu + 1) (LC.F tab (term_Value_phi nf) (fun _ F => iter nf F) term_Value_keep 0 (term_Value_L0 nf )) (term_Value_m0 l' have' v t28) = term_Value_b0 nf  l' have'  (fun v t28 => iter fu (LC.F tab (term_Value_phi nf) (fun _ F => iter nf F) term_Value_keep 0 (term_Value_L0 nf )) (term_Value_m0 l' have' v t28)) v t28 := by kernel_rfl
theorem term_Value_e0 (nf : Nat)  (l' : List (Int × Int × Int × Int × Unit)) (have' : List Int) : ∀ (fu : Nat) (v : List Int) (t28 : Int), iter fu (LC.F tab (term_Value_phi nf) (fun _ F => iter nf F) term_Value_keep 0 (term_Value_L0 nf )) (term_Value_m0 l' have' v t28) = term_Value_l0 nf l' have'  fu v t28 := by
  intro fu
  induction fu with
  | zero => intros; rfl
  | succ fu ih =>
    intro v t28
    rw [term_Value_h0 nf  l' have' fu v t28]
    simp only [ih]
    rfl
theorem term_Value_eq (nf : Nat) (vars : Int) (l' : List (Int × Int × Int × Int × Unit)) (have' : List Int) : runF tab (term_Value_phi nf) term_Value_keep nf [PT.val (Ty.int IntKind.i64) (Md.bor true false), PT.val ((Ty.int IntKind.i64).pair ((Ty.int IntKind.i64).pair ((Ty.int IntKind.i64).pair ((Ty.int IntKind.i64).pair Ty.unit)))).sl (Md.bor true false), PT.val (Ty.int IntKind.i64).sl (Md.bor true false)] [(Ty.int IntKind.i64, Md.bor false true), (Ty.int IntKind.i64, Md.bor false true)] (resL ([]) Try.f24) (codeOf Try.f24) ⟨vars, l', have', ()⟩ = term_Value_f nf vars l' have' := by
  have h : runF tab (term_Value_phi nf) term_Value_keep nf [PT.val (Ty.int IntKind.i64) (Md.bor true false), PT.val ((Ty.int IntKind.i64).pair ((Ty.int IntKind.i64).pair ((Ty.int IntKind.i64).pair ((Ty.int IntKind.i64).pair Ty.unit)))).sl (Md.bor true false), PT.val (Ty.int IntKind.i64).sl (Md.bor true false)] [(Ty.int IntKind.i64, Md.bor false true), (Ty.int IntKind.i64, Md.bor false true)] (resL ([]) Try.f24) (codeOf Try.f24) ⟨vars, l', have', ()⟩ = term_Value_p nf (fun p0 p1 v0 v1 => iter nf (LC.F tab (term_Value_phi nf) (fun _ F => iter nf F) term_Value_keep 0 (term_Value_L0 nf)) (term_Value_m0 p0 p1 v0 v1)) vars l' have' := by kernel_rfl
  rw [h]
  simp only [term_Value_e0]
  rfl
def term_Value_F (nf : Nat) (x : denPs [.val (.int .i64) (.bor true false), .val (.sl (.pair (.int .i64) (.pair (.int .i64) (.pair (.int .i64) (.pair (.int .i64) (.unit)))))) (.bor true false), .val (.sl (.int .i64)) (.bor true false)]) : Option (denL [(.int .i64, .bor false true), (.int .i64, .bor false true)]) := term_Value_f nf x.1 x.2.1 x.2.2.1
def term_Value_C (nf : Nat) : Contract := ⟨[.val (.int .i64) (.bor true false), .val (.sl (.pair (.int .i64) (.pair (.int .i64) (.pair (.int .i64) (.pair (.int .i64) (.unit)))))) (.bor true false), .val (.sl (.int .i64)) (.bor true false)], [(.int .i64, .bor false true), (.int .i64, .bor false true)], term_Value_F nf, []⟩
theorem term_Value_ok : FnOK Try.prog 24 := ⟨Try.f24, codeOf Try.f24, Try.func24, by kernel_rfl, by kernel_rfl⟩
theorem term_Value_holds (nf : Nat) : Contract.Holds Try.prog 24 (term_Value_C nf) :=
  fn_holds (Φ := term_Value_phi nf) (keep := term_Value_keep) (n := nf) ⟨tabs.1, tabs.2, (ctx_cons term_Check_ok (term_Check_holds nf) (ctx_cons term_Have_ok (term_Have_holds nf) (ctx_cons term_Do_ok (term_Do_holds nf) ctx_nil))), mixed, bk_ok bkls rfl⟩ (fn := Try.f24) ⟨Try.func24, by kernel_rfl, by kernel_rfl, by kernel_rfl⟩ (fun x => term_Value_eq nf x.1 x.2.1 x.2.2.1)

/-! codemason codemasonref.Term -/
def ref_Term_phi (nf : Nat) : Nat → Option Contract := lookC [(68, ref_Op_C nf)]
def ref_Term_keep : Nat → List Nat := lookK [(0, [0, 1, 5, 10, 11, 12, 13])]
def ref_Term_b0 (nf : Nat) (l' : List (Int × Int × Int × Int × Unit)) (have' : List Int) (g0 : List Int → Int → Option (Int × Unit)) (v : List Int) (t13 : Int) : Option (Int × Unit) :=
  bif decide (t13 < (↑l'.length : Int)) then
    bif inb t13 l'.length then
      bif (l'.getD t13.toNat (0, 0, 0, 0, ())).fst == 1 then
        bif inb t13 v.length then
          g0 (v.set t13.toNat (l'.getD t13.toNat (0, 0, 0, 0, ())).snd.snd.snd.fst) (IntKind.i64.wrap (t13 + 1))
        else
          none
      else
        bif (l'.getD t13.toNat (0, 0, 0, 0, ())).fst == 2 then
          bif inb (l'.getD t13.toNat (0, 0, 0, 0, ())).snd.snd.snd.fst have'.length then
            bif inb t13 v.length then
              g0 (v.set t13.toNat (have'.getD (Int.toNat (l'.getD t13.toNat (0, 0, 0, 0, ())).snd.snd.snd.fst) 0)) (IntKind.i64.wrap (t13 + 1))
            else
              none
          else
            none
        else
          bif inb (l'.getD t13.toNat (0, 0, 0, 0, ())).snd.fst v.length then
            bif inb (l'.getD t13.toNat (0, 0, 0, 0, ())).snd.snd.fst v.length then
              Option.bind (ref_Op_f nf ((l'.getD t13.toNat (0, 0, 0, 0, ())).fst) (v.getD (Int.toNat (l'.getD t13.toNat (0, 0, 0, 0, ())).snd.fst) 0) (v.getD (Int.toNat (l'.getD t13.toNat (0, 0, 0, 0, ())).snd.snd.fst) 0)) fun r =>
              bif inb t13 v.length then
                g0 (v.set t13.toNat r.fst) (IntKind.i64.wrap (t13 + 1))
              else
                none
            else
              none
          else
            none
    else
      none
  else
    bif inb (IntKind.i64.wrap ((↑l'.length : Int) - 1)) v.length then
      some ((v.getD (IntKind.i64.wrap ((↑l'.length : Int) - 1)).toNat 0, ()))
    else
      none
def ref_Term_p (nf : Nat) (l0 : List (Int × Int × Int × Int × Unit) → List Int → List Int → Int → Option (Int × Unit)) (l' : List (Int × Int × Int × Int × Unit)) (have' : List Int) : Option (Int × Unit) :=
  bif decide (0 ≤ (↑l'.length : Int)) && decide ((↑l'.length : Int) ≤ (↑l'.length : Int)) && decide ((↑l'.length : Int) ≤ (↑lim : Int)) then
    l0 l' have' (List.replicate (↑l'.length : Int).toNat 0) 0
  else
    none
def ref_Term_l0 (nf : Nat) (l' : List (Int × Int × Int × Int × Unit)) (have' : List Int) : Nat → List Int → Int → Option (Int × Unit)
  | 0, _, _ => none
  | fu + 1, v, t13 => ref_Term_b0 nf  l' have'  (ref_Term_l0 nf l' have'  fu) v t13
def ref_Term_f (nf : Nat) (l' : List (Int × Int × Int × Int × Unit)) (have' : List Int) : Option (Int × Unit) := ref_Term_p nf (fun p0 p1 v0 v1 => ref_Term_l0 nf p0 p1 nf v0 v1) l' have'
noncomputable def ref_Term_L0 (nf : Nat) : LC (Int × Unit) := theL (findL tab (ref_Term_phi nf) (fun _ F => iter nf F) ref_Term_keep 0 0 (codeOf Try.f26) (fin tab [(Ty.int IntKind.i64, Md.bor false true)] (resL ([]) Try.f26)) (fun _ _ => none) (fin tab [(Ty.int IntKind.i64, Md.bor false true)] (resL ([]) Try.f26)))
def ref_Term_m0 (l' : List (Int × Int × Int × Int × Unit)) (have' : List Int) (v : List Int) (t13 : Int) : St := ⟨fresh, [(0, AV.v ((Ty.int IntKind.i64).pair ((Ty.int IntKind.i64).pair ((Ty.int IntKind.i64).pair ((Ty.int IntKind.i64).pair Ty.unit)))).sl (Md.bor true false) l'), (1, AV.v (Ty.int IntKind.i64).sl (Md.bor true false) have'), (5, AV.ow 500005 (Ty.int IntKind.i64).sl (Md.own false (Md.bor false false)) v), (10, AV.dead), (11, AV.v ((Ty.int IntKind.i64).pair ((Ty.int IntKind.i64).pair ((Ty.int IntKind.i64).pair ((Ty.int IntKind.i64).pair Ty.unit)))).sl (Md.bor true false) l'), (12, AV.v (Ty.int IntKind.i64) (Md.bor false true) (↑l'.length : Int)), (13, AV.v (Ty.int IntKind.i64) (Md.bor false true) t13)]⟩
theorem ref_Term_h0 (nf : Nat)  (l' : List (Int × Int × Int × Int × Unit)) (have' : List Int) (fu : Nat) (v : List Int) (t13 : Int) : iter (fu + 1) (LC.F tab (ref_Term_phi nf) (fun _ F => iter nf F) ref_Term_keep 0 (ref_Term_L0 nf )) (ref_Term_m0 l' have' v t13) = ref_Term_b0 nf  l' have'  (fun v t13 => iter fu (LC.F tab (ref_Term_phi nf) (fun _ F => iter nf F) ref_Term_keep 0 (ref_Term_L0 nf )) (ref_Term_m0 l' have' v t13)) v t13 := by kernel_rfl
theorem ref_Term_e0 (nf : Nat)  (l' : List (Int × Int × Int × Int × Unit)) (have' : List Int) : ∀ (fu : Nat) (v : List Int) (t13 : Int), iter fu (LC.F tab (ref_Term_phi nf) (fun _ F => iter nf F) ref_Term_keep 0 (ref_Term_L0 nf )) (ref_Term_m0 l' have' v t13) = ref_Term_l0 nf l' have'  fu v t13 := by
  intro fu
  induction fu with
  | zero => intros; rfl
  | succ fu ih =>
    intro v t13
    rw [ref_Term_h0 nf  l' have' fu v t13]
    simp only [ih]
    rfl
theorem ref_Term_eq (nf : Nat) (l' : List (Int × Int × Int × Int × Unit)) (have' : List Int) : runF tab (ref_Term_phi nf) ref_Term_keep nf [PT.val ((Ty.int IntKind.i64).pair ((Ty.int IntKind.i64).pair ((Ty.int IntKind.i64).pair ((Ty.int IntKind.i64).pair Ty.unit)))).sl (Md.bor true false), PT.val (Ty.int IntKind.i64).sl (Md.bor true false)] [(Ty.int IntKind.i64, Md.bor false true)] (resL ([]) Try.f26) (codeOf Try.f26) ⟨l', have', ()⟩ = ref_Term_f nf l' have' := by
  have h : runF tab (ref_Term_phi nf) ref_Term_keep nf [PT.val ((Ty.int IntKind.i64).pair ((Ty.int IntKind.i64).pair ((Ty.int IntKind.i64).pair ((Ty.int IntKind.i64).pair Ty.unit)))).sl (Md.bor true false), PT.val (Ty.int IntKind.i64).sl (Md.bor true false)] [(Ty.int IntKind.i64, Md.bor false true)] (resL ([]) Try.f26) (codeOf Try.f26) ⟨l', have', ()⟩ = ref_Term_p nf (fun p0 p1 v0 v1 => iter nf (LC.F tab (ref_Term_phi nf) (fun _ F => iter nf F) ref_Term_keep 0 (ref_Term_L0 nf)) (ref_Term_m0 p0 p1 v0 v1)) l' have' := by kernel_rfl
  rw [h]
  simp only [ref_Term_e0]
  rfl
def ref_Term_F (nf : Nat) (x : denPs [.val (.sl (.pair (.int .i64) (.pair (.int .i64) (.pair (.int .i64) (.pair (.int .i64) (.unit)))))) (.bor true false), .val (.sl (.int .i64)) (.bor true false)]) : Option (denL [(.int .i64, .bor false true)]) := ref_Term_f nf x.1 x.2.1
def ref_Term_C (nf : Nat) : Contract := ⟨[.val (.sl (.pair (.int .i64) (.pair (.int .i64) (.pair (.int .i64) (.pair (.int .i64) (.unit)))))) (.bor true false), .val (.sl (.int .i64)) (.bor true false)], [(.int .i64, .bor false true)], ref_Term_F nf, []⟩
theorem ref_Term_ok : FnOK Try.prog 26 := ⟨Try.f26, codeOf Try.f26, Try.func26, by kernel_rfl, by kernel_rfl⟩
theorem ref_Term_holds (nf : Nat) : Contract.Holds Try.prog 26 (ref_Term_C nf) :=
  fn_holds (Φ := ref_Term_phi nf) (keep := ref_Term_keep) (n := nf) ⟨tabs.1, tabs.2, (ctx_cons ref_Op_ok (ref_Op_holds nf) ctx_nil), mixed, bk_ok bkls rfl⟩ (fn := Try.f26) ⟨Try.func26, by kernel_rfl, by kernel_rfl, by kernel_rfl⟩ (fun x => ref_Term_eq nf x.1 x.2.1)

/-! codemason need.Check 1 -/
def need_Check_1_phi (nf : Nat) : Nat → Option Contract := lookC []
def need_Check_1_keep : Nat → List Nat := lookK []
def need_Check_1_p (nf : Nat)  (i : Int) (c1 : Int) : Option (Bool × Unit) :=
  bif decide (i ≥ 0) then
    some ((decide (i < c1), ()))
  else
    some ((false, ()))
def need_Check_1_f (nf : Nat) (i : Int) (c1 : Int) : Option (Bool × Unit) := need_Check_1_p nf  i c1
theorem need_Check_1_eq (nf : Nat) (i : Int) (c1 : Int) : runF tab (need_Check_1_phi nf) need_Check_1_keep nf [PT.val (Ty.int IntKind.i64) (Md.bor true false), PT.ptr (Ty.int IntKind.i64) (Md.bor true false)] [(Ty.bool, Md.bor false true)] (resL ([]) Try.f94) (codeOf Try.f94) ⟨i, c1, ()⟩ = need_Check_1_f nf i c1 := by
  have h : runF tab (need_Check_1_phi nf) need_Check_1_keep nf [PT.val (Ty.int IntKind.i64) (Md.bor true false), PT.ptr (Ty.int IntKind.i64) (Md.bor true false)] [(Ty.bool, Md.bor false true)] (resL ([]) Try.f94) (codeOf Try.f94) ⟨i, c1, ()⟩ = need_Check_1_p nf  i c1 := by kernel_rfl
  exact h
def need_Check_1_F (nf : Nat) (x : denPs [.val (.int .i64) (.bor true false), .ptr (.int .i64) (.bor true false)]) : Option (denL [(.bool, .bor false true)]) := need_Check_1_f nf x.1 x.2.1
def need_Check_1_C (nf : Nat) : Contract := ⟨[.val (.int .i64) (.bor true false), .ptr (.int .i64) (.bor true false)], [(.bool, .bor false true)], need_Check_1_F nf, []⟩
theorem need_Check_1_ok : FnOK Try.prog 94 := ⟨Try.f94, codeOf Try.f94, Try.func94, by kernel_rfl, by kernel_rfl⟩
theorem need_Check_1_holds (nf : Nat) : Contract.Holds Try.prog 94 (need_Check_1_C nf) :=
  fn_holds (Φ := need_Check_1_phi nf) (keep := need_Check_1_keep) (n := nf) ⟨tabs.1, tabs.2, ctx_nil, mixed, bk_ok bkls rfl⟩ (fn := Try.f94) ⟨Try.func94, by kernel_rfl, by kernel_rfl, by kernel_rfl⟩ (fun x => need_Check_1_eq nf x.1 x.2.1)

/-! codemason need.Check -/
def need_Check_phi (nf : Nat) : Nat → Option Contract := lookC [(94, need_Check_1_C nf)]
def need_Check_keep : Nat → List Nat := lookK [(0, [0, 1, 5, 7, 29, 30, 31, 32])]
def need_Check_b0 (nf : Nat) (vars : Int) (code' : List (Int × Int × Int × Int × Int × Unit)) (g0 : Int → Int → Option (Int × Unit)) (regs2 : Int) (t32 : Int) : Option (Int × Unit) :=
  bif decide (t32 < (↑code'.length : Int)) then
    bif inb t32 code'.length then
      bif decide ((code'.getD t32.toNat (0, 0, 0, 0, 0, ())).fst < 1) then
        some ((6, ()))
      else
        bif decide ((code'.getD t32.toNat (0, 0, 0, 0, 0, ())).fst > 6) then
          some ((6, ()))
        else
          bif (code'.getD t32.toNat (0, 0, 0, 0, 0, ())).fst == 1 then
            bif decide ((code'.getD t32.toNat (0, 0, 0, 0, 0, ())).snd.snd.snd.snd.fst < 0) then
              some ((4, ()))
            else
              bif decide ((code'.getD t32.toNat (0, 0, 0, 0, 0, ())).snd.snd.snd.snd.fst > 255) then
                some ((4, ()))
              else
                bif (code'.getD t32.toNat (0, 0, 0, 0, 0, ())).fst == 2 then
                  bif decide ((code'.getD t32.toNat (0, 0, 0, 0, 0, ())).snd.snd.snd.snd.fst < 0) then
                    some ((4, ()))
                  else
                    bif decide ((code'.getD t32.toNat (0, 0, 0, 0, 0, ())).snd.snd.snd.snd.fst ≥ vars) then
                      some ((4, ()))
                    else
                      Option.bind (need_Check_1_f nf ((code'.getD t32.toNat (0, 0, 0, 0, 0, ())).snd.fst) regs2) fun r =>
                      bif !r.fst then
                        some ((2, ()))
                      else
                        bif decide ((code'.getD t32.toNat (0, 0, 0, 0, 0, ())).fst > 2) then
                          Option.bind (need_Check_1_f nf ((code'.getD t32.toNat (0, 0, 0, 0, 0, ())).snd.snd.fst) regs2) fun r2 =>
                          bif !r2.fst then
                            some ((2, ()))
                          else
                            Option.bind (need_Check_1_f nf ((code'.getD t32.toNat (0, 0, 0, 0, 0, ())).snd.snd.snd.fst) regs2) fun r3 =>
                            bif !r3.fst then
                              some ((2, ()))
                            else
                              g0 regs2 (IntKind.i64.wrap (t32 + 1))
                        else
                          g0 regs2 (IntKind.i64.wrap (t32 + 1))
                else
                  Option.bind (need_Check_1_f nf ((code'.getD t32.toNat (0, 0, 0, 0, 0, ())).snd.fst) regs2) fun r4 =>
                  bif !r4.fst then
                    some ((2, ()))
                  else
                    bif decide ((code'.getD t32.toNat (0, 0, 0, 0, 0, ())).fst > 2) then
                      Option.bind (need_Check_1_f nf ((code'.getD t32.toNat (0, 0, 0, 0, 0, ())).snd.snd.fst) regs2) fun r5 =>
                      bif !r5.fst then
                        some ((2, ()))
                      else
                        Option.bind (need_Check_1_f nf ((code'.getD t32.toNat (0, 0, 0, 0, 0, ())).snd.snd.snd.fst) regs2) fun r6 =>
                        bif !r6.fst then
                          some ((2, ()))
                        else
                          g0 regs2 (IntKind.i64.wrap (t32 + 1))
                    else
                      g0 regs2 (IntKind.i64.wrap (t32 + 1))
          else
            bif (code'.getD t32.toNat (0, 0, 0, 0, 0, ())).fst == 2 then
              bif decide ((code'.getD t32.toNat (0, 0, 0, 0, 0, ())).snd.snd.snd.snd.fst < 0) then
                some ((4, ()))
              else
                bif decide ((code'.getD t32.toNat (0, 0, 0, 0, 0, ())).snd.snd.snd.snd.fst ≥ vars) then
                  some ((4, ()))
                else
                  Option.bind (need_Check_1_f nf ((code'.getD t32.toNat (0, 0, 0, 0, 0, ())).snd.fst) regs2) fun r7 =>
                  bif !r7.fst then
                    some ((2, ()))
                  else
                    bif decide ((code'.getD t32.toNat (0, 0, 0, 0, 0, ())).fst > 2) then
                      Option.bind (need_Check_1_f nf ((code'.getD t32.toNat (0, 0, 0, 0, 0, ())).snd.snd.fst) regs2) fun r8 =>
                      bif !r8.fst then
                        some ((2, ()))
                      else
                        Option.bind (need_Check_1_f nf ((code'.getD t32.toNat (0, 0, 0, 0, 0, ())).snd.snd.snd.fst) regs2) fun r9 =>
                        bif !r9.fst then
                          some ((2, ()))
                        else
                          g0 regs2 (IntKind.i64.wrap (t32 + 1))
                    else
                      g0 regs2 (IntKind.i64.wrap (t32 + 1))
            else
              Option.bind (need_Check_1_f nf ((code'.getD t32.toNat (0, 0, 0, 0, 0, ())).snd.fst) regs2) fun r10 =>
              bif !r10.fst then
                some ((2, ()))
              else
                bif decide ((code'.getD t32.toNat (0, 0, 0, 0, 0, ())).fst > 2) then
                  Option.bind (need_Check_1_f nf ((code'.getD t32.toNat (0, 0, 0, 0, 0, ())).snd.snd.fst) regs2) fun r11 =>
                  bif !r11.fst then
                    some ((2, ()))
                  else
                    Option.bind (need_Check_1_f nf ((code'.getD t32.toNat (0, 0, 0, 0, 0, ())).snd.snd.snd.fst) regs2) fun r12 =>
                    bif !r12.fst then
                      some ((2, ()))
                    else
                      g0 regs2 (IntKind.i64.wrap (t32 + 1))
                else
                  g0 regs2 (IntKind.i64.wrap (t32 + 1))
    else
      none
  else
    some ((0, ()))
def need_Check_p (nf : Nat) (l0 : Int → List (Int × Int × Int × Int × Int × Unit) → Int → Int → Option (Int × Unit)) (vars : Int) (code' : List (Int × Int × Int × Int × Int × Unit)) (regs : Int) : Option (Int × Unit) :=
  bif decide (vars < 0) then
    some ((1, ()))
  else
    bif decide (vars > 6) then
      some ((1, ()))
    else
      bif decide ((↑code'.length : Int) > 40) then
        some ((1, ()))
      else
        bif decide (regs < 1) then
          some ((1, ()))
        else
          bif decide (regs > 8) then
            some ((1, ()))
          else
            l0 vars code' regs 0
def need_Check_l0 (nf : Nat) (vars : Int) (code' : List (Int × Int × Int × Int × Int × Unit)) : Nat → Int → Int → Option (Int × Unit)
  | 0, _, _ => none
  | fu + 1, regs2, t32 => need_Check_b0 nf  vars code'  (need_Check_l0 nf vars code'  fu) regs2 t32
def need_Check_f (nf : Nat) (vars : Int) (code' : List (Int × Int × Int × Int × Int × Unit)) (regs : Int) : Option (Int × Unit) := need_Check_p nf (fun p0 p1 v0 v1 => need_Check_l0 nf p0 p1 nf v0 v1) vars code' regs
noncomputable def need_Check_L0 (nf : Nat) : LC (Int × Unit) := theL (findL tab (need_Check_phi nf) (fun _ F => iter nf F) need_Check_keep 0 0 (codeOf Try.f73) (fin tab [(Ty.int IntKind.i64, Md.bor false true)] (resL ([]) Try.f73)) (fun _ _ => none) (fin tab [(Ty.int IntKind.i64, Md.bor false true)] (resL ([]) Try.f73)))
def need_Check_m0 (vars : Int) (code' : List (Int × Int × Int × Int × Int × Unit)) (regs2 : Int) (t32 : Int) : St := ⟨fresh, [(0, AV.v (Ty.int IntKind.i64) (Md.bor false true) vars), (1, AV.v ((Ty.int IntKind.i64).pair ((Ty.int IntKind.i64).pair ((Ty.int IntKind.i64).pair ((Ty.int IntKind.i64).pair ((Ty.int IntKind.i64).pair Ty.unit))))).sl (Md.bor true false) code'), (5, AV.box 5 500005 (Ty.int IntKind.i64) (Md.bor true false) regs2), (7, AV.clo 94 [AV.pl 5 5 [Stp.dr]]), (29, AV.clo 94 [AV.pl 5 5 [Stp.dr]]), (30, AV.v ((Ty.int IntKind.i64).pair ((Ty.int IntKind.i64).pair ((Ty.int IntKind.i64).pair ((Ty.int IntKind.i64).pair ((Ty.int IntKind.i64).pair Ty.unit))))).sl (Md.bor true false) code'), (31, AV.v (Ty.int IntKind.i64) (Md.bor false true) (↑code'.length : Int)), (32, AV.v (Ty.int IntKind.i64) (Md.bor false true) t32)]⟩
theorem need_Check_h0 (nf : Nat)  (vars : Int) (code' : List (Int × Int × Int × Int × Int × Unit)) (fu : Nat) (regs2 : Int) (t32 : Int) : iter (fu + 1) (LC.F tab (need_Check_phi nf) (fun _ F => iter nf F) need_Check_keep 0 (need_Check_L0 nf )) (need_Check_m0 vars code' regs2 t32) = need_Check_b0 nf  vars code'  (fun regs2 t32 => iter fu (LC.F tab (need_Check_phi nf) (fun _ F => iter nf F) need_Check_keep 0 (need_Check_L0 nf )) (need_Check_m0 vars code' regs2 t32)) regs2 t32 := by kernel_rfl
theorem need_Check_e0 (nf : Nat)  (vars : Int) (code' : List (Int × Int × Int × Int × Int × Unit)) : ∀ (fu : Nat) (regs2 : Int) (t32 : Int), iter fu (LC.F tab (need_Check_phi nf) (fun _ F => iter nf F) need_Check_keep 0 (need_Check_L0 nf )) (need_Check_m0 vars code' regs2 t32) = need_Check_l0 nf vars code'  fu regs2 t32 := by
  intro fu
  induction fu with
  | zero => intros; rfl
  | succ fu ih =>
    intro regs2 t32
    rw [need_Check_h0 nf  vars code' fu regs2 t32]
    simp only [ih]
    rfl
theorem need_Check_eq (nf : Nat) (vars : Int) (code' : List (Int × Int × Int × Int × Int × Unit)) (regs : Int) : runF tab (need_Check_phi nf) need_Check_keep nf [PT.val (Ty.int IntKind.i64) (Md.bor true false), PT.val ((Ty.int IntKind.i64).pair ((Ty.int IntKind.i64).pair ((Ty.int IntKind.i64).pair ((Ty.int IntKind.i64).pair ((Ty.int IntKind.i64).pair Ty.unit))))).sl (Md.bor true false), PT.val (Ty.int IntKind.i64) (Md.bor true false)] [(Ty.int IntKind.i64, Md.bor false true)] (resL ([]) Try.f73) (codeOf Try.f73) ⟨vars, code', regs, ()⟩ = need_Check_f nf vars code' regs := by
  have h : runF tab (need_Check_phi nf) need_Check_keep nf [PT.val (Ty.int IntKind.i64) (Md.bor true false), PT.val ((Ty.int IntKind.i64).pair ((Ty.int IntKind.i64).pair ((Ty.int IntKind.i64).pair ((Ty.int IntKind.i64).pair ((Ty.int IntKind.i64).pair Ty.unit))))).sl (Md.bor true false), PT.val (Ty.int IntKind.i64) (Md.bor true false)] [(Ty.int IntKind.i64, Md.bor false true)] (resL ([]) Try.f73) (codeOf Try.f73) ⟨vars, code', regs, ()⟩ = need_Check_p nf (fun p0 p1 v0 v1 => iter nf (LC.F tab (need_Check_phi nf) (fun _ F => iter nf F) need_Check_keep 0 (need_Check_L0 nf)) (need_Check_m0 p0 p1 v0 v1)) vars code' regs := by kernel_rfl
  rw [h]
  simp only [need_Check_e0]
  rfl
def need_Check_F (nf : Nat) (x : denPs [.val (.int .i64) (.bor true false), .val (.sl (.pair (.int .i64) (.pair (.int .i64) (.pair (.int .i64) (.pair (.int .i64) (.pair (.int .i64) (.unit))))))) (.bor true false), .val (.int .i64) (.bor true false)]) : Option (denL [(.int .i64, .bor false true)]) := need_Check_f nf x.1 x.2.1 x.2.2.1
def need_Check_C (nf : Nat) : Contract := ⟨[.val (.int .i64) (.bor true false), .val (.sl (.pair (.int .i64) (.pair (.int .i64) (.pair (.int .i64) (.pair (.int .i64) (.pair (.int .i64) (.unit))))))) (.bor true false), .val (.int .i64) (.bor true false)], [(.int .i64, .bor false true)], need_Check_F nf, []⟩
theorem need_Check_ok : FnOK Try.prog 73 := ⟨Try.f73, codeOf Try.f73, Try.func73, by kernel_rfl, by kernel_rfl⟩
theorem need_Check_holds (nf : Nat) : Contract.Holds Try.prog 73 (need_Check_C nf) :=
  fn_holds (Φ := need_Check_phi nf) (keep := need_Check_keep) (n := nf) ⟨tabs.1, tabs.2, (ctx_cons need_Check_1_ok (need_Check_1_holds nf) ctx_nil), mixed, bk_ok bkls rfl⟩ (fn := Try.f73) ⟨Try.func73, by kernel_rfl, by kernel_rfl, by kernel_rfl⟩ (fun x => need_Check_eq nf x.1 x.2.1 x.2.2.1)

/-! codemason need.Run -/
def need_Run_phi (nf : Nat) : Nat → Option Contract := lookC [(66, term_Have_C nf), (67, term_Do_C nf), (73, need_Check_C nf)]
def need_Run_keep : Nat → List Nat := lookK [(0, [1, 3, 12, 29, 30, 31, 32])]
def need_Run_b0 (nf : Nat) (code' : List (Int × Int × Int × Int × Int × Unit)) (have' : List Int) (g0 : List Int → Int → Option (List Int × Int × Unit)) (r3 : List Int) (t32 : Int) : Option (List Int × Int × Unit) :=
  bif decide (t32 < (↑code'.length : Int)) then
    bif inb t32 code'.length then
      bif (code'.getD t32.toNat (0, 0, 0, 0, 0, ())).fst == 1 then
        bif inb (code'.getD t32.toNat (0, 0, 0, 0, 0, ())).snd.fst r3.length then
          g0 (r3.set (Int.toNat (code'.getD t32.toNat (0, 0, 0, 0, 0, ())).snd.fst) (code'.getD t32.toNat (0, 0, 0, 0, 0, ())).snd.snd.snd.snd.fst) (IntKind.i64.wrap (t32 + 1))
        else
          none
      else
        bif (code'.getD t32.toNat (0, 0, 0, 0, 0, ())).fst == 2 then
          bif inb (code'.getD t32.toNat (0, 0, 0, 0, 0, ())).snd.snd.snd.snd.fst have'.length then
            bif inb (code'.getD t32.toNat (0, 0, 0, 0, 0, ())).snd.fst r3.length then
              g0 (r3.set (Int.toNat (code'.getD t32.toNat (0, 0, 0, 0, 0, ())).snd.fst) (have'.getD (Int.toNat (code'.getD t32.toNat (0, 0, 0, 0, 0, ())).snd.snd.snd.snd.fst) 0)) (IntKind.i64.wrap (t32 + 1))
            else
              none
          else
            none
        else
          bif inb (code'.getD t32.toNat (0, 0, 0, 0, 0, ())).snd.snd.fst r3.length then
            bif inb (code'.getD t32.toNat (0, 0, 0, 0, 0, ())).snd.snd.snd.fst r3.length then
              Option.bind (term_Do_f nf ((code'.getD t32.toNat (0, 0, 0, 0, 0, ())).fst) (r3.getD (Int.toNat (code'.getD t32.toNat (0, 0, 0, 0, 0, ())).snd.snd.fst) 0) (r3.getD (Int.toNat (code'.getD t32.toNat (0, 0, 0, 0, 0, ())).snd.snd.snd.fst) 0)) fun r4 =>
              bif inb (code'.getD t32.toNat (0, 0, 0, 0, 0, ())).snd.fst r3.length then
                g0 (r3.set (Int.toNat (code'.getD t32.toNat (0, 0, 0, 0, 0, ())).snd.fst) r4.fst) (IntKind.i64.wrap (t32 + 1))
              else
                none
            else
              none
          else
            none
    else
      none
  else
    some ((r3, 0, ()))
def need_Run_p (nf : Nat) (l0 : List (Int × Int × Int × Int × Int × Unit) → List Int → List Int → Int → Option (List Int × Int × Unit)) (vars : Int) (code' : List (Int × Int × Int × Int × Int × Unit)) (regs : Int) (have' : List Int) : Option (List Int × Int × Unit) :=
  Option.bind (need_Check_f nf vars code' regs) fun r =>
  bif r.fst != 0 then
    some (([], r.fst, ()))
  else
    Option.bind (term_Have_f nf vars have') fun r2 =>
    bif r2.fst != 0 then
      some (([], r2.fst, ()))
    else
      bif decide (0 ≤ regs) && decide (regs ≤ regs) && decide (regs ≤ (↑lim : Int)) then
        l0 code' have' (List.replicate regs.toNat 0) 0
      else
        none
def need_Run_l0 (nf : Nat) (code' : List (Int × Int × Int × Int × Int × Unit)) (have' : List Int) : Nat → List Int → Int → Option (List Int × Int × Unit)
  | 0, _, _ => none
  | fu + 1, r3, t32 => need_Run_b0 nf  code' have'  (need_Run_l0 nf code' have'  fu) r3 t32
def need_Run_f (nf : Nat) (vars : Int) (code' : List (Int × Int × Int × Int × Int × Unit)) (regs : Int) (have' : List Int) : Option (List Int × Int × Unit) := need_Run_p nf (fun p0 p1 v0 v1 => need_Run_l0 nf p0 p1 nf v0 v1) vars code' regs have'
noncomputable def need_Run_L0 (nf : Nat) : LC (List Int × Int × Unit) := theL (findL tab (need_Run_phi nf) (fun _ F => iter nf F) need_Run_keep 0 0 (codeOf Try.f32) (fin tab [((Ty.int IntKind.i64).sl, Md.own false (Md.bor false false)), (Ty.int IntKind.i64, Md.bor false true)] (resL ([]) Try.f32)) (fun _ _ => none) (fin tab [((Ty.int IntKind.i64).sl, Md.own false (Md.bor false false)), (Ty.int IntKind.i64, Md.bor false true)] (resL ([]) Try.f32)))
def need_Run_m0 (code' : List (Int × Int × Int × Int × Int × Unit)) (have' : List Int) (r3 : List Int) (t32 : Int) : St := ⟨fresh, [(1, AV.v ((Ty.int IntKind.i64).pair ((Ty.int IntKind.i64).pair ((Ty.int IntKind.i64).pair ((Ty.int IntKind.i64).pair ((Ty.int IntKind.i64).pair Ty.unit))))).sl (Md.bor true false) code'), (3, AV.v (Ty.int IntKind.i64).sl (Md.bor true false) have'), (12, AV.ow 500012 (Ty.int IntKind.i64).sl (Md.own false (Md.bor false false)) r3), (29, AV.dead), (30, AV.v ((Ty.int IntKind.i64).pair ((Ty.int IntKind.i64).pair ((Ty.int IntKind.i64).pair ((Ty.int IntKind.i64).pair ((Ty.int IntKind.i64).pair Ty.unit))))).sl (Md.bor true false) code'), (31, AV.v (Ty.int IntKind.i64) (Md.bor false true) (↑code'.length : Int)), (32, AV.v (Ty.int IntKind.i64) (Md.bor false true) t32)]⟩
theorem need_Run_h0 (nf : Nat)  (code' : List (Int × Int × Int × Int × Int × Unit)) (have' : List Int) (fu : Nat) (r3 : List Int) (t32 : Int) : iter (fu + 1) (LC.F tab (need_Run_phi nf) (fun _ F => iter nf F) need_Run_keep 0 (need_Run_L0 nf )) (need_Run_m0 code' have' r3 t32) = need_Run_b0 nf  code' have'  (fun r3 t32 => iter fu (LC.F tab (need_Run_phi nf) (fun _ F => iter nf F) need_Run_keep 0 (need_Run_L0 nf )) (need_Run_m0 code' have' r3 t32)) r3 t32 := by kernel_rfl
theorem need_Run_e0 (nf : Nat)  (code' : List (Int × Int × Int × Int × Int × Unit)) (have' : List Int) : ∀ (fu : Nat) (r3 : List Int) (t32 : Int), iter fu (LC.F tab (need_Run_phi nf) (fun _ F => iter nf F) need_Run_keep 0 (need_Run_L0 nf )) (need_Run_m0 code' have' r3 t32) = need_Run_l0 nf code' have'  fu r3 t32 := by
  intro fu
  induction fu with
  | zero => intros; rfl
  | succ fu ih =>
    intro r3 t32
    rw [need_Run_h0 nf  code' have' fu r3 t32]
    simp only [ih]
    rfl
theorem need_Run_eq (nf : Nat) (vars : Int) (code' : List (Int × Int × Int × Int × Int × Unit)) (regs : Int) (have' : List Int) : runF tab (need_Run_phi nf) need_Run_keep nf [PT.val (Ty.int IntKind.i64) (Md.bor true false), PT.val ((Ty.int IntKind.i64).pair ((Ty.int IntKind.i64).pair ((Ty.int IntKind.i64).pair ((Ty.int IntKind.i64).pair ((Ty.int IntKind.i64).pair Ty.unit))))).sl (Md.bor true false), PT.val (Ty.int IntKind.i64) (Md.bor true false), PT.val (Ty.int IntKind.i64).sl (Md.bor true false)] [((Ty.int IntKind.i64).sl, Md.own false (Md.bor false false)), (Ty.int IntKind.i64, Md.bor false true)] (resL ([]) Try.f32) (codeOf Try.f32) ⟨vars, code', regs, have', ()⟩ = need_Run_f nf vars code' regs have' := by
  have h : runF tab (need_Run_phi nf) need_Run_keep nf [PT.val (Ty.int IntKind.i64) (Md.bor true false), PT.val ((Ty.int IntKind.i64).pair ((Ty.int IntKind.i64).pair ((Ty.int IntKind.i64).pair ((Ty.int IntKind.i64).pair ((Ty.int IntKind.i64).pair Ty.unit))))).sl (Md.bor true false), PT.val (Ty.int IntKind.i64) (Md.bor true false), PT.val (Ty.int IntKind.i64).sl (Md.bor true false)] [((Ty.int IntKind.i64).sl, Md.own false (Md.bor false false)), (Ty.int IntKind.i64, Md.bor false true)] (resL ([]) Try.f32) (codeOf Try.f32) ⟨vars, code', regs, have', ()⟩ = need_Run_p nf (fun p0 p1 v0 v1 => iter nf (LC.F tab (need_Run_phi nf) (fun _ F => iter nf F) need_Run_keep 0 (need_Run_L0 nf)) (need_Run_m0 p0 p1 v0 v1)) vars code' regs have' := by kernel_rfl
  rw [h]
  simp only [need_Run_e0]
  rfl
def need_Run_F (nf : Nat) (x : denPs [.val (.int .i64) (.bor true false), .val (.sl (.pair (.int .i64) (.pair (.int .i64) (.pair (.int .i64) (.pair (.int .i64) (.pair (.int .i64) (.unit))))))) (.bor true false), .val (.int .i64) (.bor true false), .val (.sl (.int .i64)) (.bor true false)]) : Option (denL [(.sl (.int .i64), .own false (.bor false false)), (.int .i64, .bor false true)]) := need_Run_f nf x.1 x.2.1 x.2.2.1 x.2.2.2.1
def need_Run_C (nf : Nat) : Contract := ⟨[.val (.int .i64) (.bor true false), .val (.sl (.pair (.int .i64) (.pair (.int .i64) (.pair (.int .i64) (.pair (.int .i64) (.pair (.int .i64) (.unit))))))) (.bor true false), .val (.int .i64) (.bor true false), .val (.sl (.int .i64)) (.bor true false)], [(.sl (.int .i64), .own false (.bor false false)), (.int .i64, .bor false true)], need_Run_F nf, []⟩
theorem need_Run_ok : FnOK Try.prog 32 := ⟨Try.f32, codeOf Try.f32, Try.func32, by kernel_rfl, by kernel_rfl⟩
theorem need_Run_holds (nf : Nat) : Contract.Holds Try.prog 32 (need_Run_C nf) :=
  fn_holds (Φ := need_Run_phi nf) (keep := need_Run_keep) (n := nf) ⟨tabs.1, tabs.2, (ctx_cons term_Have_ok (term_Have_holds nf) (ctx_cons term_Do_ok (term_Do_holds nf) (ctx_cons need_Check_ok (need_Check_holds nf) ctx_nil))), mixed, bk_ok bkls rfl⟩ (fn := Try.f32) ⟨Try.func32, by kernel_rfl, by kernel_rfl, by kernel_rfl⟩ (fun x => need_Run_eq nf x.1 x.2.1 x.2.2.1 x.2.2.2.1)

/-! codemason codemasonref.StepCheck -/
def ref_StepCheck_phi (nf : Nat) : Nat → Option Contract := lookC [(50, ref_Inside_C nf), (56, ref_Value_C nf)]
def ref_StepCheck_keep : Nat → List Nat := lookK []
def ref_StepCheck_p (nf : Nat)  (vars : Int) (regs : Int) (s : Int × Int × Int × Int × Int × Unit) : Option (Int × Unit) :=
  bif decide (s.fst < 1) then
    some ((6, ()))
  else
    bif decide (s.fst > 6) then
      some ((6, ()))
    else
      bif s.fst == 1 then
        Option.bind (ref_Value_f nf s.snd.snd.snd.snd.fst) fun r =>
        bif !r.fst then
          some ((4, ()))
        else
          bif s.fst == 2 then
            Option.bind (ref_Inside_f nf vars ([s.snd.snd.snd.snd.fst])) fun r2 =>
            bif !r2.fst then
              some ((4, ()))
            else
              Option.bind (ref_Inside_f nf regs ([s.snd.fst])) fun r3 =>
              bif !r3.fst then
                some ((2, ()))
              else
                bif decide (s.fst ≥ 3) then
                  Option.bind (ref_Inside_f nf regs ([s.snd.snd.fst, s.snd.snd.snd.fst])) fun r4 =>
                  bif !r4.fst then
                    some ((2, ()))
                  else
                    some ((0, ()))
                else
                  some ((0, ()))
          else
            Option.bind (ref_Inside_f nf regs ([s.snd.fst])) fun r5 =>
            bif !r5.fst then
              some ((2, ()))
            else
              bif decide (s.fst ≥ 3) then
                Option.bind (ref_Inside_f nf regs ([s.snd.snd.fst, s.snd.snd.snd.fst])) fun r6 =>
                bif !r6.fst then
                  some ((2, ()))
                else
                  some ((0, ()))
              else
                some ((0, ()))
      else
        bif s.fst == 2 then
          Option.bind (ref_Inside_f nf vars ([s.snd.snd.snd.snd.fst])) fun r7 =>
          bif !r7.fst then
            some ((4, ()))
          else
            Option.bind (ref_Inside_f nf regs ([s.snd.fst])) fun r8 =>
            bif !r8.fst then
              some ((2, ()))
            else
              bif decide (s.fst ≥ 3) then
                Option.bind (ref_Inside_f nf regs ([s.snd.snd.fst, s.snd.snd.snd.fst])) fun r9 =>
                bif !r9.fst then
                  some ((2, ()))
                else
                  some ((0, ()))
              else
                some ((0, ()))
        else
          Option.bind (ref_Inside_f nf regs ([s.snd.fst])) fun r10 =>
          bif !r10.fst then
            some ((2, ()))
          else
            bif decide (s.fst ≥ 3) then
              Option.bind (ref_Inside_f nf regs ([s.snd.snd.fst, s.snd.snd.snd.fst])) fun r11 =>
              bif !r11.fst then
                some ((2, ()))
              else
                some ((0, ()))
            else
              some ((0, ()))
def ref_StepCheck_f (nf : Nat) (vars : Int) (regs : Int) (s : Int × Int × Int × Int × Int × Unit) : Option (Int × Unit) := ref_StepCheck_p nf  vars regs s
theorem ref_StepCheck_eq (nf : Nat) (vars : Int) (regs : Int) (s : Int × Int × Int × Int × Int × Unit) : runF tab (ref_StepCheck_phi nf) ref_StepCheck_keep nf [PT.val (Ty.int IntKind.i64) (Md.bor true false), PT.val (Ty.int IntKind.i64) (Md.bor true false), PT.val ((Ty.int IntKind.i64).pair ((Ty.int IntKind.i64).pair ((Ty.int IntKind.i64).pair ((Ty.int IntKind.i64).pair ((Ty.int IntKind.i64).pair Ty.unit))))) (Md.bor true false)] [(Ty.int IntKind.i64, Md.bor false true)] (resL ([]) Try.f75) (codeOf Try.f75) ⟨vars, regs, s, ()⟩ = ref_StepCheck_f nf vars regs s := by
  have h : runF tab (ref_StepCheck_phi nf) ref_StepCheck_keep nf [PT.val (Ty.int IntKind.i64) (Md.bor true false), PT.val (Ty.int IntKind.i64) (Md.bor true false), PT.val ((Ty.int IntKind.i64).pair ((Ty.int IntKind.i64).pair ((Ty.int IntKind.i64).pair ((Ty.int IntKind.i64).pair ((Ty.int IntKind.i64).pair Ty.unit))))) (Md.bor true false)] [(Ty.int IntKind.i64, Md.bor false true)] (resL ([]) Try.f75) (codeOf Try.f75) ⟨vars, regs, s, ()⟩ = ref_StepCheck_p nf  vars regs s := by kernel_rfl
  exact h
def ref_StepCheck_F (nf : Nat) (x : denPs [.val (.int .i64) (.bor true false), .val (.int .i64) (.bor true false), .val (.pair (.int .i64) (.pair (.int .i64) (.pair (.int .i64) (.pair (.int .i64) (.pair (.int .i64) (.unit)))))) (.bor true false)]) : Option (denL [(.int .i64, .bor false true)]) := ref_StepCheck_f nf x.1 x.2.1 x.2.2.1
def ref_StepCheck_C (nf : Nat) : Contract := ⟨[.val (.int .i64) (.bor true false), .val (.int .i64) (.bor true false), .val (.pair (.int .i64) (.pair (.int .i64) (.pair (.int .i64) (.pair (.int .i64) (.pair (.int .i64) (.unit)))))) (.bor true false)], [(.int .i64, .bor false true)], ref_StepCheck_F nf, []⟩
theorem ref_StepCheck_ok : FnOK Try.prog 75 := ⟨Try.f75, codeOf Try.f75, Try.func75, by kernel_rfl, by kernel_rfl⟩
theorem ref_StepCheck_holds (nf : Nat) : Contract.Holds Try.prog 75 (ref_StepCheck_C nf) :=
  fn_holds (Φ := ref_StepCheck_phi nf) (keep := ref_StepCheck_keep) (n := nf) ⟨tabs.1, tabs.2, (ctx_cons ref_Inside_ok (ref_Inside_holds nf) (ctx_cons ref_Value_ok (ref_Value_holds nf) ctx_nil)), mixed, bk_ok bkls rfl⟩ (fn := Try.f75) ⟨Try.func75, by kernel_rfl, by kernel_rfl, by kernel_rfl⟩ (fun x => ref_StepCheck_eq nf x.1 x.2.1 x.2.2.1)

/-! codemason codemasonref.StepsCheck -/
def ref_StepsCheck_phi (nf : Nat) : Nat → Option Contract := lookC [(75, ref_StepCheck_C nf)]
def ref_StepsCheck_keep : Nat → List Nat := lookK [(0, [0, 1, 2, 29, 30, 31])]
def ref_StepsCheck_b0 (nf : Nat) (vars : Int) (code' : List (Int × Int × Int × Int × Int × Unit)) (regs : Int) (g0 : Int → Option (Int × Unit)) (t31 : Int) : Option (Int × Unit) :=
  bif decide (t31 < (↑code'.length : Int)) then
    bif inb t31 code'.length then
      Option.bind (ref_StepCheck_f nf vars regs (code'.getD t31.toNat (0, 0, 0, 0, 0, ()))) fun r =>
      bif r.fst != 0 then
        some ((r.fst, ()))
      else
        g0 (IntKind.i64.wrap (t31 + 1))
    else
      none
  else
    some ((0, ()))
def ref_StepsCheck_p (nf : Nat) (l0 : Int → List (Int × Int × Int × Int × Int × Unit) → Int → Int → Option (Int × Unit)) (vars : Int) (code' : List (Int × Int × Int × Int × Int × Unit)) (regs : Int) : Option (Int × Unit) :=
  bif decide (vars < 0) then
    some ((1, ()))
  else
    bif decide (vars > 6) then
      some ((1, ()))
    else
      bif decide ((↑code'.length : Int) > 40) then
        some ((1, ()))
      else
        bif decide (regs < 1) then
          some ((1, ()))
        else
          bif decide (regs > 8) then
            some ((1, ()))
          else
            l0 vars code' regs 0
def ref_StepsCheck_l0 (nf : Nat) (vars : Int) (code' : List (Int × Int × Int × Int × Int × Unit)) (regs : Int) : Nat → Int → Option (Int × Unit)
  | 0, _ => none
  | fu + 1, t31 => ref_StepsCheck_b0 nf  vars code' regs  (ref_StepsCheck_l0 nf vars code' regs  fu) t31
def ref_StepsCheck_f (nf : Nat) (vars : Int) (code' : List (Int × Int × Int × Int × Int × Unit)) (regs : Int) : Option (Int × Unit) := ref_StepsCheck_p nf (fun p0 p1 p2 v0 => ref_StepsCheck_l0 nf p0 p1 p2 nf v0) vars code' regs
noncomputable def ref_StepsCheck_L0 (nf : Nat) : LC (Int × Unit) := theL (findL tab (ref_StepsCheck_phi nf) (fun _ F => iter nf F) ref_StepsCheck_keep 0 0 (codeOf Try.f37) (fin tab [(Ty.int IntKind.i64, Md.bor false true)] (resL ([]) Try.f37)) (fun _ _ => none) (fin tab [(Ty.int IntKind.i64, Md.bor false true)] (resL ([]) Try.f37)))
def ref_StepsCheck_m0 (vars : Int) (code' : List (Int × Int × Int × Int × Int × Unit)) (regs : Int) (t31 : Int) : St := ⟨fresh, [(0, AV.v (Ty.int IntKind.i64) (Md.bor false true) vars), (1, AV.v ((Ty.int IntKind.i64).pair ((Ty.int IntKind.i64).pair ((Ty.int IntKind.i64).pair ((Ty.int IntKind.i64).pair ((Ty.int IntKind.i64).pair Ty.unit))))).sl (Md.bor true false) code'), (2, AV.v (Ty.int IntKind.i64) (Md.bor false true) regs), (29, AV.v ((Ty.int IntKind.i64).pair ((Ty.int IntKind.i64).pair ((Ty.int IntKind.i64).pair ((Ty.int IntKind.i64).pair ((Ty.int IntKind.i64).pair Ty.unit))))).sl (Md.bor true false) code'), (30, AV.v (Ty.int IntKind.i64) (Md.bor false true) (↑code'.length : Int)), (31, AV.v (Ty.int IntKind.i64) (Md.bor false true) t31)]⟩
theorem ref_StepsCheck_h0 (nf : Nat)  (vars : Int) (code' : List (Int × Int × Int × Int × Int × Unit)) (regs : Int) (fu : Nat) (t31 : Int) : iter (fu + 1) (LC.F tab (ref_StepsCheck_phi nf) (fun _ F => iter nf F) ref_StepsCheck_keep 0 (ref_StepsCheck_L0 nf )) (ref_StepsCheck_m0 vars code' regs t31) = ref_StepsCheck_b0 nf  vars code' regs  (fun t31 => iter fu (LC.F tab (ref_StepsCheck_phi nf) (fun _ F => iter nf F) ref_StepsCheck_keep 0 (ref_StepsCheck_L0 nf )) (ref_StepsCheck_m0 vars code' regs t31)) t31 := by kernel_rfl
theorem ref_StepsCheck_e0 (nf : Nat)  (vars : Int) (code' : List (Int × Int × Int × Int × Int × Unit)) (regs : Int) : ∀ (fu : Nat) (t31 : Int), iter fu (LC.F tab (ref_StepsCheck_phi nf) (fun _ F => iter nf F) ref_StepsCheck_keep 0 (ref_StepsCheck_L0 nf )) (ref_StepsCheck_m0 vars code' regs t31) = ref_StepsCheck_l0 nf vars code' regs  fu t31 := by
  intro fu
  induction fu with
  | zero => intros; rfl
  | succ fu ih =>
    intro t31
    rw [ref_StepsCheck_h0 nf  vars code' regs fu t31]
    simp only [ih]
    rfl
theorem ref_StepsCheck_eq (nf : Nat) (vars : Int) (code' : List (Int × Int × Int × Int × Int × Unit)) (regs : Int) : runF tab (ref_StepsCheck_phi nf) ref_StepsCheck_keep nf [PT.val (Ty.int IntKind.i64) (Md.bor true false), PT.val ((Ty.int IntKind.i64).pair ((Ty.int IntKind.i64).pair ((Ty.int IntKind.i64).pair ((Ty.int IntKind.i64).pair ((Ty.int IntKind.i64).pair Ty.unit))))).sl (Md.bor true false), PT.val (Ty.int IntKind.i64) (Md.bor true false)] [(Ty.int IntKind.i64, Md.bor false true)] (resL ([]) Try.f37) (codeOf Try.f37) ⟨vars, code', regs, ()⟩ = ref_StepsCheck_f nf vars code' regs := by
  have h : runF tab (ref_StepsCheck_phi nf) ref_StepsCheck_keep nf [PT.val (Ty.int IntKind.i64) (Md.bor true false), PT.val ((Ty.int IntKind.i64).pair ((Ty.int IntKind.i64).pair ((Ty.int IntKind.i64).pair ((Ty.int IntKind.i64).pair ((Ty.int IntKind.i64).pair Ty.unit))))).sl (Md.bor true false), PT.val (Ty.int IntKind.i64) (Md.bor true false)] [(Ty.int IntKind.i64, Md.bor false true)] (resL ([]) Try.f37) (codeOf Try.f37) ⟨vars, code', regs, ()⟩ = ref_StepsCheck_p nf (fun p0 p1 p2 v0 => iter nf (LC.F tab (ref_StepsCheck_phi nf) (fun _ F => iter nf F) ref_StepsCheck_keep 0 (ref_StepsCheck_L0 nf)) (ref_StepsCheck_m0 p0 p1 p2 v0)) vars code' regs := by kernel_rfl
  rw [h]
  simp only [ref_StepsCheck_e0]
  rfl
def ref_StepsCheck_F (nf : Nat) (x : denPs [.val (.int .i64) (.bor true false), .val (.sl (.pair (.int .i64) (.pair (.int .i64) (.pair (.int .i64) (.pair (.int .i64) (.pair (.int .i64) (.unit))))))) (.bor true false), .val (.int .i64) (.bor true false)]) : Option (denL [(.int .i64, .bor false true)]) := ref_StepsCheck_f nf x.1 x.2.1 x.2.2.1
def ref_StepsCheck_C (nf : Nat) : Contract := ⟨[.val (.int .i64) (.bor true false), .val (.sl (.pair (.int .i64) (.pair (.int .i64) (.pair (.int .i64) (.pair (.int .i64) (.pair (.int .i64) (.unit))))))) (.bor true false), .val (.int .i64) (.bor true false)], [(.int .i64, .bor false true)], ref_StepsCheck_F nf, []⟩
theorem ref_StepsCheck_ok : FnOK Try.prog 37 := ⟨Try.f37, codeOf Try.f37, Try.func37, by kernel_rfl, by kernel_rfl⟩
theorem ref_StepsCheck_holds (nf : Nat) : Contract.Holds Try.prog 37 (ref_StepsCheck_C nf) :=
  fn_holds (Φ := ref_StepsCheck_phi nf) (keep := ref_StepsCheck_keep) (n := nf) ⟨tabs.1, tabs.2, (ctx_cons ref_StepCheck_ok (ref_StepCheck_holds nf) ctx_nil), mixed, bk_ok bkls rfl⟩ (fn := Try.f37) ⟨Try.func37, by kernel_rfl, by kernel_rfl, by kernel_rfl⟩ (fun x => ref_StepsCheck_eq nf x.1 x.2.1 x.2.2.1)

/-! codemason codemasonlaw.runCode -/
def law_runCode_phi (nf : Nat) : Nat → Option Contract := lookC [(28, ref_HaveCheck_C nf), (37, ref_StepsCheck_C nf)]
def law_runCode_keep : Nat → List Nat := lookK []
def law_runCode_p (nf : Nat)  (vars : Int) (code' : List (Int × Int × Int × Int × Int × Unit)) (regs : Int) (have' : List Int) : Option (Int × Unit) :=
  Option.bind (ref_StepsCheck_f nf vars code' regs) fun r =>
  bif r.fst == 0 then
    Option.bind (ref_HaveCheck_f nf vars have') fun r2 =>
    some ((r2.fst, ()))
  else
    some ((r.fst, ()))
def law_runCode_f (nf : Nat) (vars : Int) (code' : List (Int × Int × Int × Int × Int × Unit)) (regs : Int) (have' : List Int) : Option (Int × Unit) := law_runCode_p nf  vars code' regs have'
theorem law_runCode_eq (nf : Nat) (vars : Int) (code' : List (Int × Int × Int × Int × Int × Unit)) (regs : Int) (have' : List Int) : runF tab (law_runCode_phi nf) law_runCode_keep nf [PT.val (Ty.int IntKind.i64) (Md.bor true false), PT.val ((Ty.int IntKind.i64).pair ((Ty.int IntKind.i64).pair ((Ty.int IntKind.i64).pair ((Ty.int IntKind.i64).pair ((Ty.int IntKind.i64).pair Ty.unit))))).sl (Md.bor true false), PT.val (Ty.int IntKind.i64) (Md.bor true false), PT.val (Ty.int IntKind.i64).sl (Md.bor true false)] [(Ty.int IntKind.i64, Md.bor false true)] (resL ([]) Try.f33) (codeOf Try.f33) ⟨vars, code', regs, have', ()⟩ = law_runCode_f nf vars code' regs have' := by
  have h : runF tab (law_runCode_phi nf) law_runCode_keep nf [PT.val (Ty.int IntKind.i64) (Md.bor true false), PT.val ((Ty.int IntKind.i64).pair ((Ty.int IntKind.i64).pair ((Ty.int IntKind.i64).pair ((Ty.int IntKind.i64).pair ((Ty.int IntKind.i64).pair Ty.unit))))).sl (Md.bor true false), PT.val (Ty.int IntKind.i64) (Md.bor true false), PT.val (Ty.int IntKind.i64).sl (Md.bor true false)] [(Ty.int IntKind.i64, Md.bor false true)] (resL ([]) Try.f33) (codeOf Try.f33) ⟨vars, code', regs, have', ()⟩ = law_runCode_p nf  vars code' regs have' := by kernel_rfl
  exact h
def law_runCode_F (nf : Nat) (x : denPs [.val (.int .i64) (.bor true false), .val (.sl (.pair (.int .i64) (.pair (.int .i64) (.pair (.int .i64) (.pair (.int .i64) (.pair (.int .i64) (.unit))))))) (.bor true false), .val (.int .i64) (.bor true false), .val (.sl (.int .i64)) (.bor true false)]) : Option (denL [(.int .i64, .bor false true)]) := law_runCode_f nf x.1 x.2.1 x.2.2.1 x.2.2.2.1
def law_runCode_C (nf : Nat) : Contract := ⟨[.val (.int .i64) (.bor true false), .val (.sl (.pair (.int .i64) (.pair (.int .i64) (.pair (.int .i64) (.pair (.int .i64) (.pair (.int .i64) (.unit))))))) (.bor true false), .val (.int .i64) (.bor true false), .val (.sl (.int .i64)) (.bor true false)], [(.int .i64, .bor false true)], law_runCode_F nf, []⟩
theorem law_runCode_ok : FnOK Try.prog 33 := ⟨Try.f33, codeOf Try.f33, Try.func33, by kernel_rfl, by kernel_rfl⟩
theorem law_runCode_holds (nf : Nat) : Contract.Holds Try.prog 33 (law_runCode_C nf) :=
  fn_holds (Φ := law_runCode_phi nf) (keep := law_runCode_keep) (n := nf) ⟨tabs.1, tabs.2, (ctx_cons ref_HaveCheck_ok (ref_HaveCheck_holds nf) (ctx_cons ref_StepsCheck_ok (ref_StepsCheck_holds nf) ctx_nil)), mixed, bk_ok bkls rfl⟩ (fn := Try.f33) ⟨Try.func33, by kernel_rfl, by kernel_rfl, by kernel_rfl⟩ (fun x => law_runCode_eq nf x.1 x.2.1 x.2.2.1 x.2.2.2.1)

/-! codemason codemasonref.Steps -/
def ref_Steps_phi (nf : Nat) : Nat → Option Contract := lookC [(68, ref_Op_C nf)]
def ref_Steps_keep : Nat → List Nat := lookK [(0, [0, 2, 7, 12, 13, 14, 15])]
def ref_Steps_b0 (nf : Nat) (code' : List (Int × Int × Int × Int × Int × Unit)) (have' : List Int) (g0 : List Int → Int → Option (List Int × Unit)) (r : List Int) (t15 : Int) : Option (List Int × Unit) :=
  bif decide (t15 < (↑code'.length : Int)) then
    bif inb t15 code'.length then
      bif (code'.getD t15.toNat (0, 0, 0, 0, 0, ())).fst == 2 then
        bif inb (code'.getD t15.toNat (0, 0, 0, 0, 0, ())).snd.snd.snd.snd.fst have'.length then
          bif decide ((code'.getD t15.toNat (0, 0, 0, 0, 0, ())).fst ≥ 3) then
            bif inb (code'.getD t15.toNat (0, 0, 0, 0, 0, ())).snd.snd.fst r.length then
              bif inb (code'.getD t15.toNat (0, 0, 0, 0, 0, ())).snd.snd.snd.fst r.length then
                Option.bind (ref_Op_f nf ((code'.getD t15.toNat (0, 0, 0, 0, 0, ())).fst) (r.getD (Int.toNat (code'.getD t15.toNat (0, 0, 0, 0, 0, ())).snd.snd.fst) 0) (r.getD (Int.toNat (code'.getD t15.toNat (0, 0, 0, 0, 0, ())).snd.snd.snd.fst) 0)) fun r2 =>
                bif inb (code'.getD t15.toNat (0, 0, 0, 0, 0, ())).snd.fst r.length then
                  g0 (r.set (Int.toNat (code'.getD t15.toNat (0, 0, 0, 0, 0, ())).snd.fst) r2.fst) (IntKind.i64.wrap (t15 + 1))
                else
                  none
              else
                none
            else
              none
          else
            bif inb (code'.getD t15.toNat (0, 0, 0, 0, 0, ())).snd.fst r.length then
              g0 (r.set (Int.toNat (code'.getD t15.toNat (0, 0, 0, 0, 0, ())).snd.fst) (have'.getD (Int.toNat (code'.getD t15.toNat (0, 0, 0, 0, 0, ())).snd.snd.snd.snd.fst) 0)) (IntKind.i64.wrap (t15 + 1))
            else
              none
        else
          none
      else
        bif decide ((code'.getD t15.toNat (0, 0, 0, 0, 0, ())).fst ≥ 3) then
          bif inb (code'.getD t15.toNat (0, 0, 0, 0, 0, ())).snd.snd.fst r.length then
            bif inb (code'.getD t15.toNat (0, 0, 0, 0, 0, ())).snd.snd.snd.fst r.length then
              Option.bind (ref_Op_f nf ((code'.getD t15.toNat (0, 0, 0, 0, 0, ())).fst) (r.getD (Int.toNat (code'.getD t15.toNat (0, 0, 0, 0, 0, ())).snd.snd.fst) 0) (r.getD (Int.toNat (code'.getD t15.toNat (0, 0, 0, 0, 0, ())).snd.snd.snd.fst) 0)) fun r3 =>
              bif inb (code'.getD t15.toNat (0, 0, 0, 0, 0, ())).snd.fst r.length then
                g0 (r.set (Int.toNat (code'.getD t15.toNat (0, 0, 0, 0, 0, ())).snd.fst) r3.fst) (IntKind.i64.wrap (t15 + 1))
              else
                none
            else
              none
          else
            none
        else
          bif inb (code'.getD t15.toNat (0, 0, 0, 0, 0, ())).snd.fst r.length then
            g0 (r.set (Int.toNat (code'.getD t15.toNat (0, 0, 0, 0, 0, ())).snd.fst) (code'.getD t15.toNat (0, 0, 0, 0, 0, ())).snd.snd.snd.snd.fst) (IntKind.i64.wrap (t15 + 1))
          else
            none
    else
      none
  else
    some ((r, ()))
def ref_Steps_p (nf : Nat) (l0 : List (Int × Int × Int × Int × Int × Unit) → List Int → List Int → Int → Option (List Int × Unit)) (code' : List (Int × Int × Int × Int × Int × Unit)) (regs : Int) (have' : List Int) : Option (List Int × Unit) :=
  bif decide (0 ≤ regs) && decide (regs ≤ regs) && decide (regs ≤ (↑lim : Int)) then
    l0 code' have' (List.replicate regs.toNat 0) 0
  else
    none
def ref_Steps_l0 (nf : Nat) (code' : List (Int × Int × Int × Int × Int × Unit)) (have' : List Int) : Nat → List Int → Int → Option (List Int × Unit)
  | 0, _, _ => none
  | fu + 1, r, t15 => ref_Steps_b0 nf  code' have'  (ref_Steps_l0 nf code' have'  fu) r t15
def ref_Steps_f (nf : Nat) (code' : List (Int × Int × Int × Int × Int × Unit)) (regs : Int) (have' : List Int) : Option (List Int × Unit) := ref_Steps_p nf (fun p0 p1 v0 v1 => ref_Steps_l0 nf p0 p1 nf v0 v1) code' regs have'
noncomputable def ref_Steps_L0 (nf : Nat) : LC (List Int × Unit) := theL (findL tab (ref_Steps_phi nf) (fun _ F => iter nf F) ref_Steps_keep 0 0 (codeOf Try.f35) (fin tab [((Ty.int IntKind.i64).sl, Md.own false (Md.bor false false))] (resL ([]) Try.f35)) (fun _ _ => none) (fin tab [((Ty.int IntKind.i64).sl, Md.own false (Md.bor false false))] (resL ([]) Try.f35)))
def ref_Steps_m0 (code' : List (Int × Int × Int × Int × Int × Unit)) (have' : List Int) (r : List Int) (t15 : Int) : St := ⟨fresh, [(0, AV.v ((Ty.int IntKind.i64).pair ((Ty.int IntKind.i64).pair ((Ty.int IntKind.i64).pair ((Ty.int IntKind.i64).pair ((Ty.int IntKind.i64).pair Ty.unit))))).sl (Md.bor true false) code'), (2, AV.v (Ty.int IntKind.i64).sl (Md.bor true false) have'), (7, AV.ow 500007 (Ty.int IntKind.i64).sl (Md.own false (Md.bor false false)) r), (12, AV.dead), (13, AV.v ((Ty.int IntKind.i64).pair ((Ty.int IntKind.i64).pair ((Ty.int IntKind.i64).pair ((Ty.int IntKind.i64).pair ((Ty.int IntKind.i64).pair Ty.unit))))).sl (Md.bor true false) code'), (14, AV.v (Ty.int IntKind.i64) (Md.bor false true) (↑code'.length : Int)), (15, AV.v (Ty.int IntKind.i64) (Md.bor false true) t15)]⟩
theorem ref_Steps_h0 (nf : Nat)  (code' : List (Int × Int × Int × Int × Int × Unit)) (have' : List Int) (fu : Nat) (r : List Int) (t15 : Int) : iter (fu + 1) (LC.F tab (ref_Steps_phi nf) (fun _ F => iter nf F) ref_Steps_keep 0 (ref_Steps_L0 nf )) (ref_Steps_m0 code' have' r t15) = ref_Steps_b0 nf  code' have'  (fun r t15 => iter fu (LC.F tab (ref_Steps_phi nf) (fun _ F => iter nf F) ref_Steps_keep 0 (ref_Steps_L0 nf )) (ref_Steps_m0 code' have' r t15)) r t15 := by kernel_rfl
theorem ref_Steps_e0 (nf : Nat)  (code' : List (Int × Int × Int × Int × Int × Unit)) (have' : List Int) : ∀ (fu : Nat) (r : List Int) (t15 : Int), iter fu (LC.F tab (ref_Steps_phi nf) (fun _ F => iter nf F) ref_Steps_keep 0 (ref_Steps_L0 nf )) (ref_Steps_m0 code' have' r t15) = ref_Steps_l0 nf code' have'  fu r t15 := by
  intro fu
  induction fu with
  | zero => intros; rfl
  | succ fu ih =>
    intro r t15
    rw [ref_Steps_h0 nf  code' have' fu r t15]
    simp only [ih]
    rfl
theorem ref_Steps_eq (nf : Nat) (code' : List (Int × Int × Int × Int × Int × Unit)) (regs : Int) (have' : List Int) : runF tab (ref_Steps_phi nf) ref_Steps_keep nf [PT.val ((Ty.int IntKind.i64).pair ((Ty.int IntKind.i64).pair ((Ty.int IntKind.i64).pair ((Ty.int IntKind.i64).pair ((Ty.int IntKind.i64).pair Ty.unit))))).sl (Md.bor true false), PT.val (Ty.int IntKind.i64) (Md.bor true false), PT.val (Ty.int IntKind.i64).sl (Md.bor true false)] [((Ty.int IntKind.i64).sl, Md.own false (Md.bor false false))] (resL ([]) Try.f35) (codeOf Try.f35) ⟨code', regs, have', ()⟩ = ref_Steps_f nf code' regs have' := by
  have h : runF tab (ref_Steps_phi nf) ref_Steps_keep nf [PT.val ((Ty.int IntKind.i64).pair ((Ty.int IntKind.i64).pair ((Ty.int IntKind.i64).pair ((Ty.int IntKind.i64).pair ((Ty.int IntKind.i64).pair Ty.unit))))).sl (Md.bor true false), PT.val (Ty.int IntKind.i64) (Md.bor true false), PT.val (Ty.int IntKind.i64).sl (Md.bor true false)] [((Ty.int IntKind.i64).sl, Md.own false (Md.bor false false))] (resL ([]) Try.f35) (codeOf Try.f35) ⟨code', regs, have', ()⟩ = ref_Steps_p nf (fun p0 p1 v0 v1 => iter nf (LC.F tab (ref_Steps_phi nf) (fun _ F => iter nf F) ref_Steps_keep 0 (ref_Steps_L0 nf)) (ref_Steps_m0 p0 p1 v0 v1)) code' regs have' := by kernel_rfl
  rw [h]
  simp only [ref_Steps_e0]
  rfl
def ref_Steps_F (nf : Nat) (x : denPs [.val (.sl (.pair (.int .i64) (.pair (.int .i64) (.pair (.int .i64) (.pair (.int .i64) (.pair (.int .i64) (.unit))))))) (.bor true false), .val (.int .i64) (.bor true false), .val (.sl (.int .i64)) (.bor true false)]) : Option (denL [(.sl (.int .i64), .own false (.bor false false))]) := ref_Steps_f nf x.1 x.2.1 x.2.2.1
def ref_Steps_C (nf : Nat) : Contract := ⟨[.val (.sl (.pair (.int .i64) (.pair (.int .i64) (.pair (.int .i64) (.pair (.int .i64) (.pair (.int .i64) (.unit))))))) (.bor true false), .val (.int .i64) (.bor true false), .val (.sl (.int .i64)) (.bor true false)], [(.sl (.int .i64), .own false (.bor false false))], ref_Steps_F nf, []⟩
theorem ref_Steps_ok : FnOK Try.prog 35 := ⟨Try.f35, codeOf Try.f35, Try.func35, by kernel_rfl, by kernel_rfl⟩
theorem ref_Steps_holds (nf : Nat) : Contract.Holds Try.prog 35 (ref_Steps_C nf) :=
  fn_holds (Φ := ref_Steps_phi nf) (keep := ref_Steps_keep) (n := nf) ⟨tabs.1, tabs.2, (ctx_cons ref_Op_ok (ref_Op_holds nf) ctx_nil), mixed, bk_ok bkls rfl⟩ (fn := Try.f35) ⟨Try.func35, by kernel_rfl, by kernel_rfl, by kernel_rfl⟩ (fun x => ref_Steps_eq nf x.1 x.2.1 x.2.2.1)

/-! codemason codemasonlaw.NeedRuns -/
def law_NeedRuns_phi (nf : Nat) : Nat → Option Contract := lookC [(32, need_Run_C nf), (33, law_runCode_C nf), (34, ref_Ints_C nf), (35, ref_Steps_C nf)]
def law_NeedRuns_keep : Nat → List Nat := lookK []
def law_NeedRuns_p (nf : Nat)  (vars : Int) (code' : List (Int × Int × Int × Int × Int × Unit)) (regs : Int) (have' : List Int) : Option (Bool × Unit) :=
  Option.bind (need_Run_f nf vars code' regs have') fun r =>
  Option.bind (law_runCode_f nf vars code' regs have') fun r2 =>
  bif r2.fst != 0 then
    bif r.snd.fst == r2.fst then
      some (((↑(List.length r.fst) : Int) == 0, ()))
    else
      some ((false, ()))
  else
    bif r.snd.fst == 0 then
      Option.bind (ref_Steps_f nf code' regs have') fun r3 =>
      Option.bind (ref_Ints_f nf r.fst r3.fst) fun r4 =>
      some ((r4.fst, ()))
    else
      some ((false, ()))
def law_NeedRuns_f (nf : Nat) (vars : Int) (code' : List (Int × Int × Int × Int × Int × Unit)) (regs : Int) (have' : List Int) : Option (Bool × Unit) := law_NeedRuns_p nf  vars code' regs have'
theorem law_NeedRuns_eq (nf : Nat) (vars : Int) (code' : List (Int × Int × Int × Int × Int × Unit)) (regs : Int) (have' : List Int) : runF tab (law_NeedRuns_phi nf) law_NeedRuns_keep nf [PT.val (Ty.int IntKind.i64) (Md.bor false false), PT.val ((Ty.int IntKind.i64).pair ((Ty.int IntKind.i64).pair ((Ty.int IntKind.i64).pair ((Ty.int IntKind.i64).pair ((Ty.int IntKind.i64).pair Ty.unit))))).sl (Md.bor false false), PT.val (Ty.int IntKind.i64) (Md.bor false false), PT.val (Ty.int IntKind.i64).sl (Md.bor false false)] [(Ty.bool, Md.bor false true)] (resL ([]) Try.f8) (codeOf Try.f8) ⟨vars, code', regs, have', ()⟩ = law_NeedRuns_f nf vars code' regs have' := by
  have h : runF tab (law_NeedRuns_phi nf) law_NeedRuns_keep nf [PT.val (Ty.int IntKind.i64) (Md.bor false false), PT.val ((Ty.int IntKind.i64).pair ((Ty.int IntKind.i64).pair ((Ty.int IntKind.i64).pair ((Ty.int IntKind.i64).pair ((Ty.int IntKind.i64).pair Ty.unit))))).sl (Md.bor false false), PT.val (Ty.int IntKind.i64) (Md.bor false false), PT.val (Ty.int IntKind.i64).sl (Md.bor false false)] [(Ty.bool, Md.bor false true)] (resL ([]) Try.f8) (codeOf Try.f8) ⟨vars, code', regs, have', ()⟩ = law_NeedRuns_p nf  vars code' regs have' := by kernel_rfl
  exact h
def law_NeedRuns_F (nf : Nat) (x : denPs [.val (.int .i64) (.bor false false), .val (.sl (.pair (.int .i64) (.pair (.int .i64) (.pair (.int .i64) (.pair (.int .i64) (.pair (.int .i64) (.unit))))))) (.bor false false), .val (.int .i64) (.bor false false), .val (.sl (.int .i64)) (.bor false false)]) : Option (denL [(.bool, .bor false true)]) := law_NeedRuns_f nf x.1 x.2.1 x.2.2.1 x.2.2.2.1
def law_NeedRuns_C (nf : Nat) : Contract := ⟨[.val (.int .i64) (.bor false false), .val (.sl (.pair (.int .i64) (.pair (.int .i64) (.pair (.int .i64) (.pair (.int .i64) (.pair (.int .i64) (.unit))))))) (.bor false false), .val (.int .i64) (.bor false false), .val (.sl (.int .i64)) (.bor false false)], [(.bool, .bor false true)], law_NeedRuns_F nf, []⟩
theorem law_NeedRuns_ok : FnOK Try.prog 8 := ⟨Try.f8, codeOf Try.f8, Try.func8, by kernel_rfl, by kernel_rfl⟩
theorem law_NeedRuns_holds (nf : Nat) : Contract.Holds Try.prog 8 (law_NeedRuns_C nf) :=
  fn_holds (Φ := law_NeedRuns_phi nf) (keep := law_NeedRuns_keep) (n := nf) ⟨tabs.1, tabs.2, (ctx_cons need_Run_ok (need_Run_holds nf) (ctx_cons law_runCode_ok (law_runCode_holds nf) (ctx_cons ref_Ints_ok (ref_Ints_holds nf) (ctx_cons ref_Steps_ok (ref_Steps_holds nf) ctx_nil)))), mixed, bk_ok bkls rfl⟩ (fn := Try.f8) ⟨Try.func8, by kernel_rfl, by kernel_rfl, by kernel_rfl⟩ (fun x => law_NeedRuns_eq nf x.1 x.2.1 x.2.2.1 x.2.2.2.1)

/-! codemason codemasonref.Tree -/
def ref_Tree_phi (nf : Nat) : Nat → Option Contract := lookC []
def ref_Tree_keep : Nat → List Nat := lookK [(2, [0, 3, 4, 13, 14, 15]), (0, [0, 3])]
def ref_Tree_b0 (nf : Nat) (l2 : List (Int × Int × Int × Int × Unit) → Int → Int → Int → Option (Bool × Unit)) (l' : List (Int × Int × Int × Int × Unit)) (g0 : Int → Option (Bool × Unit)) (i : Int) : Option (Bool × Unit) :=
  bif decide (i < (↑l'.length : Int)) then
    l2 l' i 0 0
  else
    some ((true, ()))
def ref_Tree_b2 (nf : Nat) (l' : List (Int × Int × Int × Int × Unit)) (i : Int) (g0 : Int → Option (Bool × Unit)) (g2 : Int → Int → Option (Bool × Unit)) (many : Int) (t15 : Int) : Option (Bool × Unit) :=
  bif decide (t15 < (↑l'.length : Int)) then
    bif inb t15 l'.length then
      bif decide ((l'.getD t15.toNat (0, 0, 0, 0, ())).fst ≥ 3) then
        bif (l'.getD t15.toNat (0, 0, 0, 0, ())).snd.fst == i then
          bif decide ((l'.getD t15.toNat (0, 0, 0, 0, ())).fst ≥ 3) then
            bif (l'.getD t15.toNat (0, 0, 0, 0, ())).snd.snd.fst == i then
              g2 (IntKind.i64.wrap (IntKind.i64.wrap (many + 1) + 1)) (IntKind.i64.wrap (t15 + 1))
            else
              g2 (IntKind.i64.wrap (many + 1)) (IntKind.i64.wrap (t15 + 1))
          else
            g2 (IntKind.i64.wrap (many + 1)) (IntKind.i64.wrap (t15 + 1))
        else
          bif decide ((l'.getD t15.toNat (0, 0, 0, 0, ())).fst ≥ 3) then
            bif (l'.getD t15.toNat (0, 0, 0, 0, ())).snd.snd.fst == i then
              g2 (IntKind.i64.wrap (many + 1)) (IntKind.i64.wrap (t15 + 1))
            else
              g2 many (IntKind.i64.wrap (t15 + 1))
          else
            g2 many (IntKind.i64.wrap (t15 + 1))
      else
        bif decide ((l'.getD t15.toNat (0, 0, 0, 0, ())).fst ≥ 3) then
          bif (l'.getD t15.toNat (0, 0, 0, 0, ())).snd.snd.fst == i then
            g2 (IntKind.i64.wrap (many + 1)) (IntKind.i64.wrap (t15 + 1))
          else
            g2 many (IntKind.i64.wrap (t15 + 1))
        else
          g2 many (IntKind.i64.wrap (t15 + 1))
    else
      none
  else
    bif decide (i < IntKind.i64.wrap ((↑l'.length : Int) - 1)) then
      bif many != 1 then
        some ((false, ()))
      else
        bif i == IntKind.i64.wrap ((↑l'.length : Int) - 1) then
          bif many != 0 then
            some ((false, ()))
          else
            g0 (IntKind.i64.wrap (i + 1))
        else
          g0 (IntKind.i64.wrap (i + 1))
    else
      bif i == IntKind.i64.wrap ((↑l'.length : Int) - 1) then
        bif many != 0 then
          some ((false, ()))
        else
          g0 (IntKind.i64.wrap (i + 1))
      else
        g0 (IntKind.i64.wrap (i + 1))
def ref_Tree_p (nf : Nat) (l0 : List (Int × Int × Int × Int × Unit) → Int → Option (Bool × Unit)) (l' : List (Int × Int × Int × Int × Unit)) : Option (Bool × Unit) :=
  l0 l' 0
def ref_Tree_l2 (nf : Nat) (l' : List (Int × Int × Int × Int × Unit)) (i : Int) (g0 : Int → Option (Bool × Unit)) : Nat → Int → Int → Option (Bool × Unit)
  | 0, _, _ => none
  | fu + 1, many, t15 => ref_Tree_b2 nf  l' i g0 (ref_Tree_l2 nf l' i g0 fu) many t15
def ref_Tree_l0 (nf : Nat) (l' : List (Int × Int × Int × Int × Unit)) : Nat → Int → Option (Bool × Unit)
  | 0, _ => none
  | fu + 1, i => ref_Tree_b0 nf (fun _ p1 v0 v1 => ref_Tree_l2 nf l' p1 (fun i => ref_Tree_l0 nf l'  fu i) nf v0 v1) l'  (ref_Tree_l0 nf l'  fu) i
def ref_Tree_f (nf : Nat) (l' : List (Int × Int × Int × Int × Unit)) : Option (Bool × Unit) := ref_Tree_p nf (fun p0 v0 => ref_Tree_l0 nf p0 nf v0) l'
noncomputable def ref_Tree_L0 (nf : Nat) : LC (Bool × Unit) := theL (findL tab (ref_Tree_phi nf) (fun _ F => iter nf F) ref_Tree_keep 0 0 (codeOf Try.f72) (fin tab [(Ty.bool, Md.bor false true)] (resL ([]) Try.f72)) (fun _ _ => none) (fin tab [(Ty.bool, Md.bor false true)] (resL ([]) Try.f72)))
def ref_Tree_m0 (l' : List (Int × Int × Int × Int × Unit)) (i : Int) : St := ⟨fresh, [(0, AV.v ((Ty.int IntKind.i64).pair ((Ty.int IntKind.i64).pair ((Ty.int IntKind.i64).pair ((Ty.int IntKind.i64).pair Ty.unit)))).sl (Md.bor true false) l'), (3, AV.v (Ty.int IntKind.i64) (Md.bor false true) i)]⟩
noncomputable def ref_Tree_L2 (nf : Nat) (G0 : St → Option (Bool × Unit)) : LC (Bool × Unit) := theL (findL tab (ref_Tree_phi nf) (fun _ F => iter nf F) ref_Tree_keep 2 0 (ref_Tree_L0 nf ).c (fun st => norm (ref_Tree_keep 0) st G0) (ref_Tree_L0 nf ).Kx (ref_Tree_L0 nf ).Kr)
def ref_Tree_m2 (l' : List (Int × Int × Int × Int × Unit)) (i : Int) (many : Int) (t15 : Int) : St := ⟨fresh, [(0, AV.v ((Ty.int IntKind.i64).pair ((Ty.int IntKind.i64).pair ((Ty.int IntKind.i64).pair ((Ty.int IntKind.i64).pair Ty.unit)))).sl (Md.bor true false) l'), (3, AV.v (Ty.int IntKind.i64) (Md.bor false true) i), (4, AV.v (Ty.int IntKind.i64) (Md.bor false true) many), (13, AV.v ((Ty.int IntKind.i64).pair ((Ty.int IntKind.i64).pair ((Ty.int IntKind.i64).pair ((Ty.int IntKind.i64).pair Ty.unit)))).sl (Md.bor true false) l'), (14, AV.v (Ty.int IntKind.i64) (Md.bor false true) (↑l'.length : Int)), (15, AV.v (Ty.int IntKind.i64) (Md.bor false true) t15)]⟩
theorem ref_Tree_h2 (nf : Nat) (G0 : St → Option (Bool × Unit)) (l' : List (Int × Int × Int × Int × Unit)) (i : Int) (fu : Nat) (many : Int) (t15 : Int) : iter (fu + 1) (LC.F tab (ref_Tree_phi nf) (fun _ F => iter nf F) ref_Tree_keep 2 (ref_Tree_L2 nf G0)) (ref_Tree_m2 l' i many t15) = ref_Tree_b2 nf  l' i (fun i => G0 (ref_Tree_m0 l' i)) (fun many t15 => iter fu (LC.F tab (ref_Tree_phi nf) (fun _ F => iter nf F) ref_Tree_keep 2 (ref_Tree_L2 nf G0)) (ref_Tree_m2 l' i many t15)) many t15 := by kernel_rfl
theorem ref_Tree_e2 (nf : Nat) (G0 : St → Option (Bool × Unit)) (l' : List (Int × Int × Int × Int × Unit)) (i : Int) : ∀ (fu : Nat) (many : Int) (t15 : Int), iter fu (LC.F tab (ref_Tree_phi nf) (fun _ F => iter nf F) ref_Tree_keep 2 (ref_Tree_L2 nf G0)) (ref_Tree_m2 l' i many t15) = ref_Tree_l2 nf l' i (fun i => G0 (ref_Tree_m0 l' i)) fu many t15 := by
  intro fu
  induction fu with
  | zero => intros; rfl
  | succ fu ih =>
    intro many t15
    rw [ref_Tree_h2 nf G0 l' i fu many t15]
    simp only [ih]
    rfl
theorem ref_Tree_h0 (nf : Nat)  (l' : List (Int × Int × Int × Int × Unit)) (fu : Nat) (i : Int) : iter (fu + 1) (LC.F tab (ref_Tree_phi nf) (fun _ F => iter nf F) ref_Tree_keep 0 (ref_Tree_L0 nf )) (ref_Tree_m0 l' i) = ref_Tree_b0 nf (fun _ p1 v0 v1 => iter nf (LC.F tab (ref_Tree_phi nf) (fun _ F => iter nf F) ref_Tree_keep 2 (ref_Tree_L2 nf (iter fu (LC.F tab (ref_Tree_phi nf) (fun _ F => iter nf F) ref_Tree_keep 0 (ref_Tree_L0 nf ))))) (ref_Tree_m2 l' p1 v0 v1)) l'  (fun i => iter fu (LC.F tab (ref_Tree_phi nf) (fun _ F => iter nf F) ref_Tree_keep 0 (ref_Tree_L0 nf )) (ref_Tree_m0 l' i)) i := by kernel_rfl
theorem ref_Tree_e0 (nf : Nat)  (l' : List (Int × Int × Int × Int × Unit)) : ∀ (fu : Nat) (i : Int), iter fu (LC.F tab (ref_Tree_phi nf) (fun _ F => iter nf F) ref_Tree_keep 0 (ref_Tree_L0 nf )) (ref_Tree_m0 l' i) = ref_Tree_l0 nf l'  fu i := by
  intro fu
  induction fu with
  | zero => intros; rfl
  | succ fu ih =>
    intro i
    rw [ref_Tree_h0 nf  l' fu i]
    simp only [ih, ref_Tree_e2]
    rfl
theorem ref_Tree_eq (nf : Nat) (l' : List (Int × Int × Int × Int × Unit)) : runF tab (ref_Tree_phi nf) ref_Tree_keep nf [PT.val ((Ty.int IntKind.i64).pair ((Ty.int IntKind.i64).pair ((Ty.int IntKind.i64).pair ((Ty.int IntKind.i64).pair Ty.unit)))).sl (Md.bor true false)] [(Ty.bool, Md.bor false true)] (resL ([]) Try.f72) (codeOf Try.f72) ⟨l', ()⟩ = ref_Tree_f nf l' := by
  have h : runF tab (ref_Tree_phi nf) ref_Tree_keep nf [PT.val ((Ty.int IntKind.i64).pair ((Ty.int IntKind.i64).pair ((Ty.int IntKind.i64).pair ((Ty.int IntKind.i64).pair Ty.unit)))).sl (Md.bor true false)] [(Ty.bool, Md.bor false true)] (resL ([]) Try.f72) (codeOf Try.f72) ⟨l', ()⟩ = ref_Tree_p nf (fun p0 v0 => iter nf (LC.F tab (ref_Tree_phi nf) (fun _ F => iter nf F) ref_Tree_keep 0 (ref_Tree_L0 nf)) (ref_Tree_m0 p0 v0)) l' := by kernel_rfl
  rw [h]
  simp only [ref_Tree_e0]
  rfl
def ref_Tree_F (nf : Nat) (x : denPs [.val (.sl (.pair (.int .i64) (.pair (.int .i64) (.pair (.int .i64) (.pair (.int .i64) (.unit)))))) (.bor true false)]) : Option (denL [(.bool, .bor false true)]) := ref_Tree_f nf x.1
def ref_Tree_C (nf : Nat) : Contract := ⟨[.val (.sl (.pair (.int .i64) (.pair (.int .i64) (.pair (.int .i64) (.pair (.int .i64) (.unit)))))) (.bor true false)], [(.bool, .bor false true)], ref_Tree_F nf, []⟩
theorem ref_Tree_ok : FnOK Try.prog 72 := ⟨Try.f72, codeOf Try.f72, Try.func72, by kernel_rfl, by kernel_rfl⟩
theorem ref_Tree_holds (nf : Nat) : Contract.Holds Try.prog 72 (ref_Tree_C nf) :=
  fn_holds (Φ := ref_Tree_phi nf) (keep := ref_Tree_keep) (n := nf) ⟨tabs.1, tabs.2, ctx_nil, mixed, bk_ok bkls rfl⟩ (fn := Try.f72) ⟨Try.func72, by kernel_rfl, by kernel_rfl, by kernel_rfl⟩ (fun x => ref_Tree_eq nf x.1)

/-! codemason codemasonlaw.treeCode -/
def law_treeCode_phi (nf : Nat) : Nat → Option Contract := lookC [(21, ref_TermsCheck_C nf), (72, ref_Tree_C nf)]
def law_treeCode_keep : Nat → List Nat := lookK []
def law_treeCode_p (nf : Nat)  (vars : Int) (l' : List (Int × Int × Int × Int × Unit)) : Option (Int × Unit) :=
  Option.bind (ref_TermsCheck_f nf vars l') fun r =>
  bif r.fst == 0 then
    Option.bind (ref_Tree_f nf l') fun r2 =>
    bif !r2.fst then
      some ((3, ()))
    else
      some ((r.fst, ()))
  else
    some ((r.fst, ()))
def law_treeCode_f (nf : Nat) (vars : Int) (l' : List (Int × Int × Int × Int × Unit)) : Option (Int × Unit) := law_treeCode_p nf  vars l'
theorem law_treeCode_eq (nf : Nat) (vars : Int) (l' : List (Int × Int × Int × Int × Unit)) : runF tab (law_treeCode_phi nf) law_treeCode_keep nf [PT.val (Ty.int IntKind.i64) (Md.bor true false), PT.val ((Ty.int IntKind.i64).pair ((Ty.int IntKind.i64).pair ((Ty.int IntKind.i64).pair ((Ty.int IntKind.i64).pair Ty.unit)))).sl (Md.bor true false)] [(Ty.int IntKind.i64, Md.bor false true)] (resL ([]) Try.f30) (codeOf Try.f30) ⟨vars, l', ()⟩ = law_treeCode_f nf vars l' := by
  have h : runF tab (law_treeCode_phi nf) law_treeCode_keep nf [PT.val (Ty.int IntKind.i64) (Md.bor true false), PT.val ((Ty.int IntKind.i64).pair ((Ty.int IntKind.i64).pair ((Ty.int IntKind.i64).pair ((Ty.int IntKind.i64).pair Ty.unit)))).sl (Md.bor true false)] [(Ty.int IntKind.i64, Md.bor false true)] (resL ([]) Try.f30) (codeOf Try.f30) ⟨vars, l', ()⟩ = law_treeCode_p nf  vars l' := by kernel_rfl
  exact h
def law_treeCode_F (nf : Nat) (x : denPs [.val (.int .i64) (.bor true false), .val (.sl (.pair (.int .i64) (.pair (.int .i64) (.pair (.int .i64) (.pair (.int .i64) (.unit)))))) (.bor true false)]) : Option (denL [(.int .i64, .bor false true)]) := law_treeCode_f nf x.1 x.2.1
def law_treeCode_C (nf : Nat) : Contract := ⟨[.val (.int .i64) (.bor true false), .val (.sl (.pair (.int .i64) (.pair (.int .i64) (.pair (.int .i64) (.pair (.int .i64) (.unit)))))) (.bor true false)], [(.int .i64, .bor false true)], law_treeCode_F nf, []⟩
theorem law_treeCode_ok : FnOK Try.prog 30 := ⟨Try.f30, codeOf Try.f30, Try.func30, by kernel_rfl, by kernel_rfl⟩
theorem law_treeCode_holds (nf : Nat) : Contract.Holds Try.prog 30 (law_treeCode_C nf) :=
  fn_holds (Φ := law_treeCode_phi nf) (keep := law_treeCode_keep) (n := nf) ⟨tabs.1, tabs.2, (ctx_cons ref_TermsCheck_ok (ref_TermsCheck_holds nf) (ctx_cons ref_Tree_ok (ref_Tree_holds nf) ctx_nil)), mixed, bk_ok bkls rfl⟩ (fn := Try.f30) ⟨Try.func30, by kernel_rfl, by kernel_rfl, by kernel_rfl⟩ (fun x => law_treeCode_eq nf x.1 x.2.1)

/-! codemason codemasonref.Need -/
def ref_Need_phi (nf : Nat) (self : denPs [.val (.sl (.pair (.int .i64) (.pair (.int .i64) (.pair (.int .i64) (.pair (.int .i64) (.unit)))))) (.bor true false), .val (.int .i64) (.bor true false)] → Option (denL [(.int .i64, .bor false true)])) : Nat → Option Contract := lookC [(31, ⟨[.val (.sl (.pair (.int .i64) (.pair (.int .i64) (.pair (.int .i64) (.pair (.int .i64) (.unit)))))) (.bor true false), .val (.int .i64) (.bor true false)], [(.int .i64, .bor false true)], self, []⟩)]
def ref_Need_keep : Nat → List Nat := lookK []
def ref_Need_p (nf : Nat) (self : denPs [.val (.sl (.pair (.int .i64) (.pair (.int .i64) (.pair (.int .i64) (.pair (.int .i64) (.unit)))))) (.bor true false), .val (.int .i64) (.bor true false)] → Option (denL [(.int .i64, .bor false true)]))  (l' : List (Int × Int × Int × Int × Unit)) (i : Int) : Option (Int × Unit) :=
  bif inb i l'.length then
    bif decide ((l'.getD i.toNat (0, 0, 0, 0, ())).fst < 3) then
      some ((1, ()))
    else
      bif inb i l'.length then
        Option.bind (self (l', (l'.getD i.toNat (0, 0, 0, 0, ())).snd.fst, ())) fun r =>
        bif inb i l'.length then
          Option.bind (self (l', (l'.getD i.toNat (0, 0, 0, 0, ())).snd.snd.fst, ())) fun r2 =>
          bif r.fst == r2.fst then
            some ((IntKind.i64.wrap (r.fst + 1), ()))
          else
            bif decide (r.fst > r2.fst) then
              some ((r.fst, ()))
            else
              some ((r2.fst, ()))
        else
          none
      else
        none
  else
    none
def ref_Need_f (nf : Nat) (self : denPs [.val (.sl (.pair (.int .i64) (.pair (.int .i64) (.pair (.int .i64) (.pair (.int .i64) (.unit)))))) (.bor true false), .val (.int .i64) (.bor true false)] → Option (denL [(.int .i64, .bor false true)])) (l' : List (Int × Int × Int × Int × Unit)) (i : Int) : Option (Int × Unit) := ref_Need_p nf self  l' i
theorem ref_Need_eq (nf : Nat) (self : denPs [.val (.sl (.pair (.int .i64) (.pair (.int .i64) (.pair (.int .i64) (.pair (.int .i64) (.unit)))))) (.bor true false), .val (.int .i64) (.bor true false)] → Option (denL [(.int .i64, .bor false true)])) (l' : List (Int × Int × Int × Int × Unit)) (i : Int) : runF tab (ref_Need_phi nf self) ref_Need_keep nf [PT.val ((Ty.int IntKind.i64).pair ((Ty.int IntKind.i64).pair ((Ty.int IntKind.i64).pair ((Ty.int IntKind.i64).pair Ty.unit)))).sl (Md.bor true false), PT.val (Ty.int IntKind.i64) (Md.bor true false)] [(Ty.int IntKind.i64, Md.bor false true)] (resL ([]) Try.f31) (codeOf Try.f31) ⟨l', i, ()⟩ = ref_Need_f nf self l' i := by
  have h : runF tab (ref_Need_phi nf self) ref_Need_keep nf [PT.val ((Ty.int IntKind.i64).pair ((Ty.int IntKind.i64).pair ((Ty.int IntKind.i64).pair ((Ty.int IntKind.i64).pair Ty.unit)))).sl (Md.bor true false), PT.val (Ty.int IntKind.i64) (Md.bor true false)] [(Ty.int IntKind.i64, Md.bor false true)] (resL ([]) Try.f31) (codeOf Try.f31) ⟨l', i, ()⟩ = ref_Need_p nf self  l' i := by kernel_rfl
  exact h
def ref_Need_F : Nat → denPs [.val (.sl (.pair (.int .i64) (.pair (.int .i64) (.pair (.int .i64) (.pair (.int .i64) (.unit)))))) (.bor true false), .val (.int .i64) (.bor true false)] → Option (denL [(.int .i64, .bor false true)])
  | 0, _ => none
  | nf + 1, x => ref_Need_f nf (ref_Need_F nf) x.1 x.2.1
def ref_Need_C (nf : Nat) : Contract := ⟨[.val (.sl (.pair (.int .i64) (.pair (.int .i64) (.pair (.int .i64) (.pair (.int .i64) (.unit)))))) (.bor true false), .val (.int .i64) (.bor true false)], [(.int .i64, .bor false true)], ref_Need_F nf, []⟩
theorem ref_Need_ok : FnOK Try.prog 31 := ⟨Try.f31, codeOf Try.f31, Try.func31, by kernel_rfl, by kernel_rfl⟩
theorem ref_Need_holds : ∀ (nf : Nat), Contract.Holds Try.prog 31 (ref_Need_C nf)
  | 0 => fun _ _ h => by cases h
  | nf + 1 => by
    have ih := ref_Need_holds nf
    exact fn_holds (Φ := ref_Need_phi nf (ref_Need_F nf)) (keep := ref_Need_keep) (n := nf) ⟨tabs.1, tabs.2, (ctx_cons ref_Need_ok (ih) ctx_nil), mixed, bk_ok bkls rfl⟩ (fn := Try.f31) ⟨Try.func31, by kernel_rfl, by kernel_rfl, by kernel_rfl⟩ (fun x => ref_Need_eq nf (ref_Need_F nf) x.1 x.2.1)

/-! codemason need.tree -/
def need_tree_phi (nf : Nat) : Nat → Option Contract := lookC []
def need_tree_keep : Nat → List Nat := lookK [(2, [0, 3, 10, 35, 36, 37]), (0, [0, 3, 10, 11, 12, 13])]
def need_tree_b0 (nf : Nat) (l2 : List (Int × Int × Int × Int × Unit) → List Int → List Int → Int → Option (Bool × Unit)) (l' : List (Int × Int × Int × Int × Unit)) (g0 : List Int → Int → Option (Bool × Unit)) (often : List Int) (t13 : Int) : Option (Bool × Unit) :=
  bif decide (t13 < (↑l'.length : Int)) then
    bif inb t13 l'.length then
      bif decide ((l'.getD t13.toNat (0, 0, 0, 0, ())).fst > 2) then
        bif inb (l'.getD t13.toNat (0, 0, 0, 0, ())).snd.fst often.length then
          bif inb (l'.getD t13.toNat (0, 0, 0, 0, ())).snd.fst often.length then
            bif inb (l'.getD t13.toNat (0, 0, 0, 0, ())).snd.snd.fst (often.set (Int.toNat (l'.getD t13.toNat (0, 0, 0, 0, ())).snd.fst) (IntKind.i64.wrap (often.getD (Int.toNat (l'.getD t13.toNat (0, 0, 0, 0, ())).snd.fst) 0 + 1))).length then
              bif inb (l'.getD t13.toNat (0, 0, 0, 0, ())).snd.snd.fst (often.set (Int.toNat (l'.getD t13.toNat (0, 0, 0, 0, ())).snd.fst) (IntKind.i64.wrap (often.getD (Int.toNat (l'.getD t13.toNat (0, 0, 0, 0, ())).snd.fst) 0 + 1))).length then
                g0 ((often.set (Int.toNat (l'.getD t13.toNat (0, 0, 0, 0, ())).snd.fst) (IntKind.i64.wrap (often.getD (Int.toNat (l'.getD t13.toNat (0, 0, 0, 0, ())).snd.fst) 0 + 1))).set (Int.toNat (l'.getD t13.toNat (0, 0, 0, 0, ())).snd.snd.fst) (IntKind.i64.wrap ((often.set (Int.toNat (l'.getD t13.toNat (0, 0, 0, 0, ())).snd.fst) (IntKind.i64.wrap (often.getD (Int.toNat (l'.getD t13.toNat (0, 0, 0, 0, ())).snd.fst) 0 + 1))).getD (Int.toNat (l'.getD t13.toNat (0, 0, 0, 0, ())).snd.snd.fst) 0 + 1))) (IntKind.i64.wrap (t13 + 1))
              else
                none
            else
              none
          else
            none
        else
          none
      else
        g0 often (IntKind.i64.wrap (t13 + 1))
    else
      none
  else
    l2 l' often often 0
def need_tree_b2 (nf : Nat) (l' : List (Int × Int × Int × Int × Unit)) (often : List Int) (g2 : List Int → Int → Option (Bool × Unit)) (often2 : List Int) (t37 : Int) : Option (Bool × Unit) :=
  bif decide (t37 < (↑often.length : Int)) then
    bif inb t37 often2.length then
      bif (often2.getD t37.toNat 0 != 1) == decide (t37 < IntKind.i64.wrap ((↑l'.length : Int) - 1)) then
        some ((false, ()))
      else
        g2 often2 (IntKind.i64.wrap (t37 + 1))
    else
      none
  else
    some ((true, ()))
def need_tree_p (nf : Nat) (l0 : List (Int × Int × Int × Int × Unit) → List Int → Int → Option (Bool × Unit)) (l' : List (Int × Int × Int × Int × Unit)) : Option (Bool × Unit) :=
  bif decide (0 ≤ (↑l'.length : Int)) && decide ((↑l'.length : Int) ≤ (↑l'.length : Int)) && decide ((↑l'.length : Int) ≤ (↑lim : Int)) then
    l0 l' (List.replicate (↑l'.length : Int).toNat 0) 0
  else
    none
def need_tree_l2 (nf : Nat) (l' : List (Int × Int × Int × Int × Unit)) (often : List Int) : Nat → List Int → Int → Option (Bool × Unit)
  | 0, _, _ => none
  | fu + 1, often2, t37 => need_tree_b2 nf  l' often  (need_tree_l2 nf l' often  fu) often2 t37
def need_tree_l0 (nf : Nat) (l' : List (Int × Int × Int × Int × Unit)) : Nat → List Int → Int → Option (Bool × Unit)
  | 0, _, _ => none
  | fu + 1, often, t13 => need_tree_b0 nf (fun _ p1 v0 v1 => need_tree_l2 nf l' p1  nf v0 v1) l'  (need_tree_l0 nf l'  fu) often t13
def need_tree_f (nf : Nat) (l' : List (Int × Int × Int × Int × Unit)) : Option (Bool × Unit) := need_tree_p nf (fun p0 v0 v1 => need_tree_l0 nf p0 nf v0 v1) l'
noncomputable def need_tree_L0 (nf : Nat) : LC (Bool × Unit) := theL (findL tab (need_tree_phi nf) (fun _ F => iter nf F) need_tree_keep 0 0 (codeOf Try.f93) (fin tab [(Ty.bool, Md.bor false true)] (resL ([]) Try.f93)) (fun _ _ => none) (fin tab [(Ty.bool, Md.bor false true)] (resL ([]) Try.f93)))
def need_tree_m0 (l' : List (Int × Int × Int × Int × Unit)) (often : List Int) (t13 : Int) : St := ⟨fresh, [(0, AV.v ((Ty.int IntKind.i64).pair ((Ty.int IntKind.i64).pair ((Ty.int IntKind.i64).pair ((Ty.int IntKind.i64).pair Ty.unit)))).sl (Md.bor true false) l'), (3, AV.ow 500003 (Ty.int IntKind.i64).sl (Md.own false (Md.bor false false)) often), (10, AV.dead), (11, AV.v ((Ty.int IntKind.i64).pair ((Ty.int IntKind.i64).pair ((Ty.int IntKind.i64).pair ((Ty.int IntKind.i64).pair Ty.unit)))).sl (Md.bor true false) l'), (12, AV.v (Ty.int IntKind.i64) (Md.bor false true) (↑l'.length : Int)), (13, AV.v (Ty.int IntKind.i64) (Md.bor false true) t13)]⟩
noncomputable def need_tree_L2 (nf : Nat) : LC (Bool × Unit) := theL (findL tab (need_tree_phi nf) (fun _ F => iter nf F) need_tree_keep 2 0 (codeOf Try.f93) (fin tab [(Ty.bool, Md.bor false true)] (resL ([]) Try.f93)) (fun _ _ => none) (fin tab [(Ty.bool, Md.bor false true)] (resL ([]) Try.f93)))
def need_tree_m2 (l' : List (Int × Int × Int × Int × Unit)) (often : List Int) (often2 : List Int) (t37 : Int) : St := ⟨fresh, [(0, AV.v ((Ty.int IntKind.i64).pair ((Ty.int IntKind.i64).pair ((Ty.int IntKind.i64).pair ((Ty.int IntKind.i64).pair Ty.unit)))).sl (Md.bor true false) l'), (3, AV.ow 500003 (Ty.int IntKind.i64).sl (Md.own false (Md.bor false false)) often2), (10, AV.dead), (35, AV.al 3 500003 []), (36, AV.v (Ty.int IntKind.i64) (Md.bor false true) (↑often.length : Int)), (37, AV.v (Ty.int IntKind.i64) (Md.bor false true) t37)]⟩
theorem need_tree_h2 (nf : Nat)  (l' : List (Int × Int × Int × Int × Unit)) (often : List Int) (fu : Nat) (often2 : List Int) (t37 : Int) : iter (fu + 1) (LC.F tab (need_tree_phi nf) (fun _ F => iter nf F) need_tree_keep 2 (need_tree_L2 nf )) (need_tree_m2 l' often often2 t37) = need_tree_b2 nf  l' often  (fun often2 t37 => iter fu (LC.F tab (need_tree_phi nf) (fun _ F => iter nf F) need_tree_keep 2 (need_tree_L2 nf )) (need_tree_m2 l' often often2 t37)) often2 t37 := by kernel_rfl
theorem need_tree_e2 (nf : Nat)  (l' : List (Int × Int × Int × Int × Unit)) (often : List Int) : ∀ (fu : Nat) (often2 : List Int) (t37 : Int), iter fu (LC.F tab (need_tree_phi nf) (fun _ F => iter nf F) need_tree_keep 2 (need_tree_L2 nf )) (need_tree_m2 l' often often2 t37) = need_tree_l2 nf l' often  fu often2 t37 := by
  intro fu
  induction fu with
  | zero => intros; rfl
  | succ fu ih =>
    intro often2 t37
    rw [need_tree_h2 nf  l' often fu often2 t37]
    simp only [ih]
    rfl
theorem need_tree_h0 (nf : Nat)  (l' : List (Int × Int × Int × Int × Unit)) (fu : Nat) (often : List Int) (t13 : Int) : iter (fu + 1) (LC.F tab (need_tree_phi nf) (fun _ F => iter nf F) need_tree_keep 0 (need_tree_L0 nf )) (need_tree_m0 l' often t13) = need_tree_b0 nf (fun _ p1 v0 v1 => iter nf (LC.F tab (need_tree_phi nf) (fun _ F => iter nf F) need_tree_keep 2 (need_tree_L2 nf )) (need_tree_m2 l' p1 v0 v1)) l'  (fun often t13 => iter fu (LC.F tab (need_tree_phi nf) (fun _ F => iter nf F) need_tree_keep 0 (need_tree_L0 nf )) (need_tree_m0 l' often t13)) often t13 := by kernel_rfl
theorem need_tree_e0 (nf : Nat)  (l' : List (Int × Int × Int × Int × Unit)) : ∀ (fu : Nat) (often : List Int) (t13 : Int), iter fu (LC.F tab (need_tree_phi nf) (fun _ F => iter nf F) need_tree_keep 0 (need_tree_L0 nf )) (need_tree_m0 l' often t13) = need_tree_l0 nf l'  fu often t13 := by
  intro fu
  induction fu with
  | zero => intros; rfl
  | succ fu ih =>
    intro often t13
    rw [need_tree_h0 nf  l' fu often t13]
    simp only [ih, need_tree_e2]
    rfl
theorem need_tree_eq (nf : Nat) (l' : List (Int × Int × Int × Int × Unit)) : runF tab (need_tree_phi nf) need_tree_keep nf [PT.val ((Ty.int IntKind.i64).pair ((Ty.int IntKind.i64).pair ((Ty.int IntKind.i64).pair ((Ty.int IntKind.i64).pair Ty.unit)))).sl (Md.bor true false)] [(Ty.bool, Md.bor false true)] (resL ([]) Try.f93) (codeOf Try.f93) ⟨l', ()⟩ = need_tree_f nf l' := by
  have h : runF tab (need_tree_phi nf) need_tree_keep nf [PT.val ((Ty.int IntKind.i64).pair ((Ty.int IntKind.i64).pair ((Ty.int IntKind.i64).pair ((Ty.int IntKind.i64).pair Ty.unit)))).sl (Md.bor true false)] [(Ty.bool, Md.bor false true)] (resL ([]) Try.f93) (codeOf Try.f93) ⟨l', ()⟩ = need_tree_p nf (fun p0 v0 v1 => iter nf (LC.F tab (need_tree_phi nf) (fun _ F => iter nf F) need_tree_keep 0 (need_tree_L0 nf)) (need_tree_m0 p0 v0 v1)) l' := by kernel_rfl
  rw [h]
  simp only [need_tree_e0]
  rfl
def need_tree_F (nf : Nat) (x : denPs [.val (.sl (.pair (.int .i64) (.pair (.int .i64) (.pair (.int .i64) (.pair (.int .i64) (.unit)))))) (.bor true false)]) : Option (denL [(.bool, .bor false true)]) := need_tree_f nf x.1
def need_tree_C (nf : Nat) : Contract := ⟨[.val (.sl (.pair (.int .i64) (.pair (.int .i64) (.pair (.int .i64) (.pair (.int .i64) (.unit)))))) (.bor true false)], [(.bool, .bor false true)], need_tree_F nf, []⟩
theorem need_tree_ok : FnOK Try.prog 93 := ⟨Try.f93, codeOf Try.f93, Try.func93, by kernel_rfl, by kernel_rfl⟩
theorem need_tree_holds (nf : Nat) : Contract.Holds Try.prog 93 (need_tree_C nf) :=
  fn_holds (Φ := need_tree_phi nf) (keep := need_tree_keep) (n := nf) ⟨tabs.1, tabs.2, ctx_nil, mixed, bk_ok bkls rfl⟩ (fn := Try.f93) ⟨Try.func93, by kernel_rfl, by kernel_rfl, by kernel_rfl⟩ (fun x => need_tree_eq nf x.1)

/-! codemason need.wrong -/
def need_wrong_phi (nf : Nat) : Nat → Option Contract := lookC [(20, term_Check_C nf), (93, need_tree_C nf)]
def need_wrong_keep : Nat → List Nat := lookK []
def need_wrong_p (nf : Nat)  (vars : Int) (l' : List (Int × Int × Int × Int × Unit)) : Option (Int × Unit) :=
  Option.bind (term_Check_f nf vars l') fun r =>
  bif r.fst != 0 then
    some ((r.fst, ()))
  else
    Option.bind (need_tree_f nf l') fun r2 =>
    bif !r2.fst then
      some ((3, ()))
    else
      some ((0, ()))
def need_wrong_f (nf : Nat) (vars : Int) (l' : List (Int × Int × Int × Int × Unit)) : Option (Int × Unit) := need_wrong_p nf  vars l'
theorem need_wrong_eq (nf : Nat) (vars : Int) (l' : List (Int × Int × Int × Int × Unit)) : runF tab (need_wrong_phi nf) need_wrong_keep nf [PT.val (Ty.int IntKind.i64) (Md.bor true false), PT.val ((Ty.int IntKind.i64).pair ((Ty.int IntKind.i64).pair ((Ty.int IntKind.i64).pair ((Ty.int IntKind.i64).pair Ty.unit)))).sl (Md.bor true false)] [(Ty.int IntKind.i64, Md.bor false true)] (resL ([]) Try.f70) (codeOf Try.f70) ⟨vars, l', ()⟩ = need_wrong_f nf vars l' := by
  have h : runF tab (need_wrong_phi nf) need_wrong_keep nf [PT.val (Ty.int IntKind.i64) (Md.bor true false), PT.val ((Ty.int IntKind.i64).pair ((Ty.int IntKind.i64).pair ((Ty.int IntKind.i64).pair ((Ty.int IntKind.i64).pair Ty.unit)))).sl (Md.bor true false)] [(Ty.int IntKind.i64, Md.bor false true)] (resL ([]) Try.f70) (codeOf Try.f70) ⟨vars, l', ()⟩ = need_wrong_p nf  vars l' := by kernel_rfl
  exact h
def need_wrong_F (nf : Nat) (x : denPs [.val (.int .i64) (.bor true false), .val (.sl (.pair (.int .i64) (.pair (.int .i64) (.pair (.int .i64) (.pair (.int .i64) (.unit)))))) (.bor true false)]) : Option (denL [(.int .i64, .bor false true)]) := need_wrong_f nf x.1 x.2.1
def need_wrong_C (nf : Nat) : Contract := ⟨[.val (.int .i64) (.bor true false), .val (.sl (.pair (.int .i64) (.pair (.int .i64) (.pair (.int .i64) (.pair (.int .i64) (.unit)))))) (.bor true false)], [(.int .i64, .bor false true)], need_wrong_F nf, []⟩
theorem need_wrong_ok : FnOK Try.prog 70 := ⟨Try.f70, codeOf Try.f70, Try.func70, by kernel_rfl, by kernel_rfl⟩
theorem need_wrong_holds (nf : Nat) : Contract.Holds Try.prog 70 (need_wrong_C nf) :=
  fn_holds (Φ := need_wrong_phi nf) (keep := need_wrong_keep) (n := nf) ⟨tabs.1, tabs.2, (ctx_cons term_Check_ok (term_Check_holds nf) (ctx_cons need_tree_ok (need_tree_holds nf) ctx_nil)), mixed, bk_ok bkls rfl⟩ (fn := Try.f70) ⟨Try.func70, by kernel_rfl, by kernel_rfl, by kernel_rfl⟩ (fun x => need_wrong_eq nf x.1 x.2.1)

/-! codemason need.needs -/
def need_needs_phi (nf : Nat) : Nat → Option Contract := lookC []
def need_needs_keep : Nat → List Nat := lookK [(0, [0, 3, 9, 10, 11, 39])]
def need_needs_b0 (nf : Nat) (l' : List (Int × Int × Int × Int × Unit)) (g0 : List Int → Int → Option (List Int × Unit)) (out : List Int) (t11 : Int) : Option (List Int × Unit) :=
  bif decide (t11 < (↑l'.length : Int)) then
    bif inb t11 l'.length then
      bif decide ((l'.getD t11.toNat (0, 0, 0, 0, ())).fst > 2) then
        bif inb (l'.getD t11.toNat (0, 0, 0, 0, ())).snd.fst out.length then
          bif inb (l'.getD t11.toNat (0, 0, 0, 0, ())).snd.snd.fst out.length then
            bif out.getD (Int.toNat (l'.getD t11.toNat (0, 0, 0, 0, ())).snd.fst) 0 == out.getD (Int.toNat (l'.getD t11.toNat (0, 0, 0, 0, ())).snd.snd.fst) 0 then
              bif bimp false ![IntKind.i64.wrap ((if out.getD (Int.toNat (l'.getD t11.toNat (0, 0, 0, 0, ())).snd.snd.fst) 0 > out.getD (Int.toNat (l'.getD t11.toNat (0, 0, 0, 0, ())).snd.fst) 0 then out.getD (Int.toNat (l'.getD t11.toNat (0, 0, 0, 0, ())).snd.snd.fst) 0 else out.getD (Int.toNat (l'.getD t11.toNat (0, 0, 0, 0, ())).snd.fst) 0) + 1)].isEmpty && (out.length + [IntKind.i64.wrap ((if out.getD (Int.toNat (l'.getD t11.toNat (0, 0, 0, 0, ())).snd.snd.fst) 0 > out.getD (Int.toNat (l'.getD t11.toNat (0, 0, 0, 0, ())).snd.fst) 0 then out.getD (Int.toNat (l'.getD t11.toNat (0, 0, 0, 0, ())).snd.snd.fst) 0 else out.getD (Int.toNat (l'.getD t11.toNat (0, 0, 0, 0, ())).snd.fst) 0) + 1)].length).ble lim then
                g0 (out ++ [IntKind.i64.wrap ((if out.getD (Int.toNat (l'.getD t11.toNat (0, 0, 0, 0, ())).snd.snd.fst) 0 > out.getD (Int.toNat (l'.getD t11.toNat (0, 0, 0, 0, ())).snd.fst) 0 then out.getD (Int.toNat (l'.getD t11.toNat (0, 0, 0, 0, ())).snd.snd.fst) 0 else out.getD (Int.toNat (l'.getD t11.toNat (0, 0, 0, 0, ())).snd.fst) 0) + 1)]) (IntKind.i64.wrap (t11 + 1))
              else
                none
            else
              bif bimp false ![if out.getD (Int.toNat (l'.getD t11.toNat (0, 0, 0, 0, ())).snd.snd.fst) 0 > out.getD (Int.toNat (l'.getD t11.toNat (0, 0, 0, 0, ())).snd.fst) 0 then out.getD (Int.toNat (l'.getD t11.toNat (0, 0, 0, 0, ())).snd.snd.fst) 0 else out.getD (Int.toNat (l'.getD t11.toNat (0, 0, 0, 0, ())).snd.fst) 0].isEmpty && (out.length + [if out.getD (Int.toNat (l'.getD t11.toNat (0, 0, 0, 0, ())).snd.snd.fst) 0 > out.getD (Int.toNat (l'.getD t11.toNat (0, 0, 0, 0, ())).snd.fst) 0 then out.getD (Int.toNat (l'.getD t11.toNat (0, 0, 0, 0, ())).snd.snd.fst) 0 else out.getD (Int.toNat (l'.getD t11.toNat (0, 0, 0, 0, ())).snd.fst) 0].length).ble lim then
                g0 (out ++ [if out.getD (Int.toNat (l'.getD t11.toNat (0, 0, 0, 0, ())).snd.snd.fst) 0 > out.getD (Int.toNat (l'.getD t11.toNat (0, 0, 0, 0, ())).snd.fst) 0 then out.getD (Int.toNat (l'.getD t11.toNat (0, 0, 0, 0, ())).snd.snd.fst) 0 else out.getD (Int.toNat (l'.getD t11.toNat (0, 0, 0, 0, ())).snd.fst) 0]) (IntKind.i64.wrap (t11 + 1))
              else
                none
          else
            none
        else
          none
      else
        bif bimp false ![1].isEmpty && (out.length + [1].length).ble lim then
          g0 (out ++ [1]) (IntKind.i64.wrap (t11 + 1))
        else
          none
    else
      none
  else
    some ((out, ()))
def need_needs_p (nf : Nat) (l0 : List (Int × Int × Int × Int × Unit) → List Int → Int → Option (List Int × Unit)) (l' : List (Int × Int × Int × Int × Unit)) : Option (List Int × Unit) :=
  l0 l' [] 0
def need_needs_l0 (nf : Nat) (l' : List (Int × Int × Int × Int × Unit)) : Nat → List Int → Int → Option (List Int × Unit)
  | 0, _, _ => none
  | fu + 1, out, t11 => need_needs_b0 nf  l'  (need_needs_l0 nf l'  fu) out t11
def need_needs_f (nf : Nat) (l' : List (Int × Int × Int × Int × Unit)) : Option (List Int × Unit) := need_needs_p nf (fun p0 v0 v1 => need_needs_l0 nf p0 nf v0 v1) l'
noncomputable def need_needs_L0 (nf : Nat) : LC (List Int × Unit) := theL (findL tab (need_needs_phi nf) (fun _ F => iter nf F) need_needs_keep 0 0 (codeOf Try.f71) (fin tab [((Ty.int IntKind.i64).sl, Md.own false (Md.bor false false))] (resL ([]) Try.f71)) (fun _ _ => none) (fin tab [((Ty.int IntKind.i64).sl, Md.own false (Md.bor false false))] (resL ([]) Try.f71)))
def need_needs_m0 (l' : List (Int × Int × Int × Int × Unit)) (out : List Int) (t11 : Int) : St := ⟨fresh, [(0, AV.v ((Ty.int IntKind.i64).pair ((Ty.int IntKind.i64).pair ((Ty.int IntKind.i64).pair ((Ty.int IntKind.i64).pair Ty.unit)))).sl (Md.bor true false) l'), (3, AV.ow 500003 (Ty.int IntKind.i64).sl (Md.own false (Md.bor false false)) out), (9, AV.v ((Ty.int IntKind.i64).pair ((Ty.int IntKind.i64).pair ((Ty.int IntKind.i64).pair ((Ty.int IntKind.i64).pair Ty.unit)))).sl (Md.bor true false) l'), (10, AV.v (Ty.int IntKind.i64) (Md.bor false true) (↑l'.length : Int)), (11, AV.v (Ty.int IntKind.i64) (Md.bor false true) t11), (39, AV.dead)]⟩
theorem need_needs_h0 (nf : Nat)  (l' : List (Int × Int × Int × Int × Unit)) (fu : Nat) (out : List Int) (t11 : Int) : iter (fu + 1) (LC.F tab (need_needs_phi nf) (fun _ F => iter nf F) need_needs_keep 0 (need_needs_L0 nf )) (need_needs_m0 l' out t11) = need_needs_b0 nf  l'  (fun out t11 => iter fu (LC.F tab (need_needs_phi nf) (fun _ F => iter nf F) need_needs_keep 0 (need_needs_L0 nf )) (need_needs_m0 l' out t11)) out t11 := by kernel_rfl
theorem need_needs_e0 (nf : Nat)  (l' : List (Int × Int × Int × Int × Unit)) : ∀ (fu : Nat) (out : List Int) (t11 : Int), iter fu (LC.F tab (need_needs_phi nf) (fun _ F => iter nf F) need_needs_keep 0 (need_needs_L0 nf )) (need_needs_m0 l' out t11) = need_needs_l0 nf l'  fu out t11 := by
  intro fu
  induction fu with
  | zero => intros; rfl
  | succ fu ih =>
    intro out t11
    rw [need_needs_h0 nf  l' fu out t11]
    simp only [ih]
    rfl
theorem need_needs_eq (nf : Nat) (l' : List (Int × Int × Int × Int × Unit)) : runF tab (need_needs_phi nf) need_needs_keep nf [PT.val ((Ty.int IntKind.i64).pair ((Ty.int IntKind.i64).pair ((Ty.int IntKind.i64).pair ((Ty.int IntKind.i64).pair Ty.unit)))).sl (Md.bor true false)] [((Ty.int IntKind.i64).sl, Md.own false (Md.bor false false))] (resL ([]) Try.f71) (codeOf Try.f71) ⟨l', ()⟩ = need_needs_f nf l' := by
  have h : runF tab (need_needs_phi nf) need_needs_keep nf [PT.val ((Ty.int IntKind.i64).pair ((Ty.int IntKind.i64).pair ((Ty.int IntKind.i64).pair ((Ty.int IntKind.i64).pair Ty.unit)))).sl (Md.bor true false)] [((Ty.int IntKind.i64).sl, Md.own false (Md.bor false false))] (resL ([]) Try.f71) (codeOf Try.f71) ⟨l', ()⟩ = need_needs_p nf (fun p0 v0 v1 => iter nf (LC.F tab (need_needs_phi nf) (fun _ F => iter nf F) need_needs_keep 0 (need_needs_L0 nf)) (need_needs_m0 p0 v0 v1)) l' := by kernel_rfl
  rw [h]
  simp only [need_needs_e0]
  rfl
def need_needs_F (nf : Nat) (x : denPs [.val (.sl (.pair (.int .i64) (.pair (.int .i64) (.pair (.int .i64) (.pair (.int .i64) (.unit)))))) (.bor true false)]) : Option (denL [(.sl (.int .i64), .own false (.bor false false))]) := need_needs_f nf x.1
def need_needs_C (nf : Nat) : Contract := ⟨[.val (.sl (.pair (.int .i64) (.pair (.int .i64) (.pair (.int .i64) (.pair (.int .i64) (.unit)))))) (.bor true false)], [(.sl (.int .i64), .own false (.bor false false))], need_needs_F nf, []⟩
theorem need_needs_ok : FnOK Try.prog 71 := ⟨Try.f71, codeOf Try.f71, Try.func71, by kernel_rfl, by kernel_rfl⟩
theorem need_needs_holds (nf : Nat) : Contract.Holds Try.prog 71 (need_needs_C nf) :=
  fn_holds (Φ := need_needs_phi nf) (keep := need_needs_keep) (n := nf) ⟨tabs.1, tabs.2, ctx_nil, mixed, bk_ok bkls rfl⟩ (fn := Try.f71) ⟨Try.func71, by kernel_rfl, by kernel_rfl, by kernel_rfl⟩ (fun x => need_needs_eq nf x.1)

/-!   codemason need.coder .put -/
def need_coder_put_phi (nf : Nat) (self : denPs [.box (.pair (.sl (.pair (.int .i64) (.pair (.int .i64) (.pair (.int .i64) (.pair (.int .i64) (.unit)))))) (.pair (.sl (.int .i64)) (.pair (.sl (.pair (.int .i64) (.pair (.int .i64) (.pair (.int .i64) (.pair (.int .i64) (.pair (.int .i64) (.unit))))))) (.unit)))) (.pair (.bor false false) (.pair (.bor false false) (.pair (.own false (.bor false false)) (.bor false false)))), .val (.int .i64) (.bor true false), .val (.int .i64) (.bor true false)] → Option (denL [(.bx (.pair (.sl (.pair (.int .i64) (.pair (.int .i64) (.pair (.int .i64) (.pair (.int .i64) (.unit)))))) (.pair (.sl (.int .i64)) (.pair (.sl (.pair (.int .i64) (.pair (.int .i64) (.pair (.int .i64) (.pair (.int .i64) (.pair (.int .i64) (.unit))))))) (.unit)))), .own false (.pair (.bor false false) (.pair (.bor false false) (.pair (.own false (.bor false false)) (.bor false false)))))])) : Nat → Option Contract := lookC [(74, ⟨[.box (.pair (.sl (.pair (.int .i64) (.pair (.int .i64) (.pair (.int .i64) (.pair (.int .i64) (.unit)))))) (.pair (.sl (.int .i64)) (.pair (.sl (.pair (.int .i64) (.pair (.int .i64) (.pair (.int .i64) (.pair (.int .i64) (.pair (.int .i64) (.unit))))))) (.unit)))) (.pair (.bor false false) (.pair (.bor false false) (.pair (.own false (.bor false false)) (.bor false false)))), .val (.int .i64) (.bor true false), .val (.int .i64) (.bor true false)], [(.bx (.pair (.sl (.pair (.int .i64) (.pair (.int .i64) (.pair (.int .i64) (.pair (.int .i64) (.unit)))))) (.pair (.sl (.int .i64)) (.pair (.sl (.pair (.int .i64) (.pair (.int .i64) (.pair (.int .i64) (.pair (.int .i64) (.pair (.int .i64) (.unit))))))) (.unit)))), .own false (.pair (.bor false false) (.pair (.bor false false) (.pair (.own false (.bor false false)) (.bor false false)))))], self, [0]⟩)]
def need_coder_put_keep : Nat → List Nat := lookK []
def need_coder_put_p (nf : Nat) (self : denPs [.box (.pair (.sl (.pair (.int .i64) (.pair (.int .i64) (.pair (.int .i64) (.pair (.int .i64) (.unit)))))) (.pair (.sl (.int .i64)) (.pair (.sl (.pair (.int .i64) (.pair (.int .i64) (.pair (.int .i64) (.pair (.int .i64) (.pair (.int .i64) (.unit))))))) (.unit)))) (.pair (.bor false false) (.pair (.bor false false) (.pair (.own false (.bor false false)) (.bor false false)))), .val (.int .i64) (.bor true false), .val (.int .i64) (.bor true false)] → Option (denL [(.bx (.pair (.sl (.pair (.int .i64) (.pair (.int .i64) (.pair (.int .i64) (.pair (.int .i64) (.unit)))))) (.pair (.sl (.int .i64)) (.pair (.sl (.pair (.int .i64) (.pair (.int .i64) (.pair (.int .i64) (.pair (.int .i64) (.pair (.int .i64) (.unit))))))) (.unit)))), .own false (.pair (.bor false false) (.pair (.bor false false) (.pair (.own false (.bor false false)) (.bor false false)))))]))  (c : List (Int × Int × Int × Int × Unit) × List Int × List (Int × Int × Int × Int × Int × Unit) × Unit) (i : Int) (to' : Int) : Option (Option (List (Int × Int × Int × Int × Unit) × List Int × List (Int × Int × Int × Int × Int × Unit) × Unit) × Unit) :=
  bif inb i (List.length c.fst) then
    bif decide ((List.getD c.fst i.toNat (0, 0, 0, 0, ())).fst ≤ 2) then
      bif ![((List.getD c.fst i.toNat (0, 0, 0, 0, ())).fst, to', 0, 0, (List.getD c.fst i.toNat (0, 0, 0, 0, ())).snd.snd.snd.fst, ())].isEmpty && (List.length c.snd.snd.fst + [((List.getD c.fst i.toNat (0, 0, 0, 0, ())).fst, to', 0, 0, (List.getD c.fst i.toNat (0, 0, 0, 0, ())).snd.snd.snd.fst, ())].length).ble lim then
        some ((some (c.fst, c.snd.fst, c.snd.snd.fst ++ [((List.getD c.fst i.toNat (0, 0, 0, 0, ())).fst, to', 0, 0, (List.getD c.fst i.toNat (0, 0, 0, 0, ())).snd.snd.snd.fst, ())], c.snd.snd.snd), ()))
      else
        none
    else
      bif inb (List.getD c.fst i.toNat (0, 0, 0, 0, ())).snd.fst (List.length c.snd.fst) then
        bif inb (List.getD c.fst i.toNat (0, 0, 0, 0, ())).snd.snd.fst (List.length c.snd.fst) then
          bif decide (List.getD c.snd.fst (Int.toNat (List.getD c.fst i.toNat (0, 0, 0, 0, ())).snd.fst) 0 ≥ List.getD c.snd.fst (Int.toNat (List.getD c.fst i.toNat (0, 0, 0, 0, ())).snd.snd.fst) 0) then
            Option.bind (self (c, (List.getD c.fst i.toNat (0, 0, 0, 0, ())).snd.fst, to', ())) fun r =>
            Option.bind r.fst fun r2 =>
            Option.bind (self (r2, (List.getD c.fst i.toNat (0, 0, 0, 0, ())).snd.snd.fst, IntKind.i64.wrap (to' + 1), ())) fun r3 =>
            Option.bind r3.fst fun r4 =>
            bif ![((List.getD c.fst i.toNat (0, 0, 0, 0, ())).fst, to', to', IntKind.i64.wrap (to' + 1), 0, ())].isEmpty && (List.length r4.snd.snd.fst + [((List.getD c.fst i.toNat (0, 0, 0, 0, ())).fst, to', to', IntKind.i64.wrap (to' + 1), 0, ())].length).ble lim then
              some ((some (r4.fst, r4.snd.fst, r4.snd.snd.fst ++ [((List.getD c.fst i.toNat (0, 0, 0, 0, ())).fst, to', to', IntKind.i64.wrap (to' + 1), 0, ())], r4.snd.snd.snd), ()))
            else
              none
          else
            Option.bind (self (c, (List.getD c.fst i.toNat (0, 0, 0, 0, ())).snd.snd.fst, to', ())) fun r5 =>
            Option.bind r5.fst fun r6 =>
            Option.bind (self (r6, (List.getD c.fst i.toNat (0, 0, 0, 0, ())).snd.fst, IntKind.i64.wrap (to' + 1), ())) fun r7 =>
            Option.bind r7.fst fun r8 =>
            bif ![((List.getD c.fst i.toNat (0, 0, 0, 0, ())).fst, to', IntKind.i64.wrap (to' + 1), to', 0, ())].isEmpty && (List.length r8.snd.snd.fst + [((List.getD c.fst i.toNat (0, 0, 0, 0, ())).fst, to', IntKind.i64.wrap (to' + 1), to', 0, ())].length).ble lim then
              some ((some (r8.fst, r8.snd.fst, r8.snd.snd.fst ++ [((List.getD c.fst i.toNat (0, 0, 0, 0, ())).fst, to', IntKind.i64.wrap (to' + 1), to', 0, ())], r8.snd.snd.snd), ()))
            else
              none
        else
          none
      else
        none
  else
    none
def need_coder_put_f (nf : Nat) (self : denPs [.box (.pair (.sl (.pair (.int .i64) (.pair (.int .i64) (.pair (.int .i64) (.pair (.int .i64) (.unit)))))) (.pair (.sl (.int .i64)) (.pair (.sl (.pair (.int .i64) (.pair (.int .i64) (.pair (.int .i64) (.pair (.int .i64) (.pair (.int .i64) (.unit))))))) (.unit)))) (.pair (.bor false false) (.pair (.bor false false) (.pair (.own false (.bor false false)) (.bor false false)))), .val (.int .i64) (.bor true false), .val (.int .i64) (.bor true false)] → Option (denL [(.bx (.pair (.sl (.pair (.int .i64) (.pair (.int .i64) (.pair (.int .i64) (.pair (.int .i64) (.unit)))))) (.pair (.sl (.int .i64)) (.pair (.sl (.pair (.int .i64) (.pair (.int .i64) (.pair (.int .i64) (.pair (.int .i64) (.pair (.int .i64) (.unit))))))) (.unit)))), .own false (.pair (.bor false false) (.pair (.bor false false) (.pair (.own false (.bor false false)) (.bor false false)))))])) (c : List (Int × Int × Int × Int × Unit) × List Int × List (Int × Int × Int × Int × Int × Unit) × Unit) (i : Int) (to' : Int) : Option (Option (List (Int × Int × Int × Int × Unit) × List Int × List (Int × Int × Int × Int × Int × Unit) × Unit) × Unit) := need_coder_put_p nf self  c i to'
theorem need_coder_put_eq (nf : Nat) (self : denPs [.box (.pair (.sl (.pair (.int .i64) (.pair (.int .i64) (.pair (.int .i64) (.pair (.int .i64) (.unit)))))) (.pair (.sl (.int .i64)) (.pair (.sl (.pair (.int .i64) (.pair (.int .i64) (.pair (.int .i64) (.pair (.int .i64) (.pair (.int .i64) (.unit))))))) (.unit)))) (.pair (.bor false false) (.pair (.bor false false) (.pair (.own false (.bor false false)) (.bor false false)))), .val (.int .i64) (.bor true false), .val (.int .i64) (.bor true false)] → Option (denL [(.bx (.pair (.sl (.pair (.int .i64) (.pair (.int .i64) (.pair (.int .i64) (.pair (.int .i64) (.unit)))))) (.pair (.sl (.int .i64)) (.pair (.sl (.pair (.int .i64) (.pair (.int .i64) (.pair (.int .i64) (.pair (.int .i64) (.pair (.int .i64) (.unit))))))) (.unit)))), .own false (.pair (.bor false false) (.pair (.bor false false) (.pair (.own false (.bor false false)) (.bor false false)))))])) (c : List (Int × Int × Int × Int × Unit) × List Int × List (Int × Int × Int × Int × Int × Unit) × Unit) (i : Int) (to' : Int) : runF tab (need_coder_put_phi nf self) need_coder_put_keep nf [PT.box (((Ty.int IntKind.i64).pair ((Ty.int IntKind.i64).pair ((Ty.int IntKind.i64).pair ((Ty.int IntKind.i64).pair Ty.unit)))).sl.pair ((Ty.int IntKind.i64).sl.pair (((Ty.int IntKind.i64).pair ((Ty.int IntKind.i64).pair ((Ty.int IntKind.i64).pair ((Ty.int IntKind.i64).pair ((Ty.int IntKind.i64).pair Ty.unit))))).sl.pair Ty.unit))) ((Md.bor false false).pair ((Md.bor false false).pair ((Md.own false (Md.bor false false)).pair (Md.bor false false)))), PT.val (Ty.int IntKind.i64) (Md.bor true false), PT.val (Ty.int IntKind.i64) (Md.bor true false)] [((((Ty.int IntKind.i64).pair ((Ty.int IntKind.i64).pair ((Ty.int IntKind.i64).pair ((Ty.int IntKind.i64).pair Ty.unit)))).sl.pair ((Ty.int IntKind.i64).sl.pair (((Ty.int IntKind.i64).pair ((Ty.int IntKind.i64).pair ((Ty.int IntKind.i64).pair ((Ty.int IntKind.i64).pair ((Ty.int IntKind.i64).pair Ty.unit))))).sl.pair Ty.unit))).bx, Md.own false ((Md.bor false false).pair ((Md.bor false false).pair ((Md.own false (Md.bor false false)).pair (Md.bor false false)))))] (resL ([0]) Try.f74) (codeOf Try.f74) ⟨c, i, to', ()⟩ = need_coder_put_f nf self c i to' := by
  have h : runF tab (need_coder_put_phi nf self) need_coder_put_keep nf [PT.box (((Ty.int IntKind.i64).pair ((Ty.int IntKind.i64).pair ((Ty.int IntKind.i64).pair ((Ty.int IntKind.i64).pair Ty.unit)))).sl.pair ((Ty.int IntKind.i64).sl.pair (((Ty.int IntKind.i64).pair ((Ty.int IntKind.i64).pair ((Ty.int IntKind.i64).pair ((Ty.int IntKind.i64).pair ((Ty.int IntKind.i64).pair Ty.unit))))).sl.pair Ty.unit))) ((Md.bor false false).pair ((Md.bor false false).pair ((Md.own false (Md.bor false false)).pair (Md.bor false false)))), PT.val (Ty.int IntKind.i64) (Md.bor true false), PT.val (Ty.int IntKind.i64) (Md.bor true false)] [((((Ty.int IntKind.i64).pair ((Ty.int IntKind.i64).pair ((Ty.int IntKind.i64).pair ((Ty.int IntKind.i64).pair Ty.unit)))).sl.pair ((Ty.int IntKind.i64).sl.pair (((Ty.int IntKind.i64).pair ((Ty.int IntKind.i64).pair ((Ty.int IntKind.i64).pair ((Ty.int IntKind.i64).pair ((Ty.int IntKind.i64).pair Ty.unit))))).sl.pair Ty.unit))).bx, Md.own false ((Md.bor false false).pair ((Md.bor false false).pair ((Md.own false (Md.bor false false)).pair (Md.bor false false)))))] (resL ([0]) Try.f74) (codeOf Try.f74) ⟨c, i, to', ()⟩ = need_coder_put_p nf self  c i to' := by kernel_rfl
  exact h
def need_coder_put_F : Nat → denPs [.box (.pair (.sl (.pair (.int .i64) (.pair (.int .i64) (.pair (.int .i64) (.pair (.int .i64) (.unit)))))) (.pair (.sl (.int .i64)) (.pair (.sl (.pair (.int .i64) (.pair (.int .i64) (.pair (.int .i64) (.pair (.int .i64) (.pair (.int .i64) (.unit))))))) (.unit)))) (.pair (.bor false false) (.pair (.bor false false) (.pair (.own false (.bor false false)) (.bor false false)))), .val (.int .i64) (.bor true false), .val (.int .i64) (.bor true false)] → Option (denL [(.bx (.pair (.sl (.pair (.int .i64) (.pair (.int .i64) (.pair (.int .i64) (.pair (.int .i64) (.unit)))))) (.pair (.sl (.int .i64)) (.pair (.sl (.pair (.int .i64) (.pair (.int .i64) (.pair (.int .i64) (.pair (.int .i64) (.pair (.int .i64) (.unit))))))) (.unit)))), .own false (.pair (.bor false false) (.pair (.bor false false) (.pair (.own false (.bor false false)) (.bor false false)))))])
  | 0, _ => none
  | nf + 1, x => need_coder_put_f nf (need_coder_put_F nf) x.1 x.2.1 x.2.2.1
def need_coder_put_C (nf : Nat) : Contract := ⟨[.box (.pair (.sl (.pair (.int .i64) (.pair (.int .i64) (.pair (.int .i64) (.pair (.int .i64) (.unit)))))) (.pair (.sl (.int .i64)) (.pair (.sl (.pair (.int .i64) (.pair (.int .i64) (.pair (.int .i64) (.pair (.int .i64) (.pair (.int .i64) (.unit))))))) (.unit)))) (.pair (.bor false false) (.pair (.bor false false) (.pair (.own false (.bor false false)) (.bor false false)))), .val (.int .i64) (.bor true false), .val (.int .i64) (.bor true false)], [(.bx (.pair (.sl (.pair (.int .i64) (.pair (.int .i64) (.pair (.int .i64) (.pair (.int .i64) (.unit)))))) (.pair (.sl (.int .i64)) (.pair (.sl (.pair (.int .i64) (.pair (.int .i64) (.pair (.int .i64) (.pair (.int .i64) (.pair (.int .i64) (.unit))))))) (.unit)))), .own false (.pair (.bor false false) (.pair (.bor false false) (.pair (.own false (.bor false false)) (.bor false false)))))], need_coder_put_F nf, [0]⟩
theorem need_coder_put_ok : FnOK Try.prog 74 := ⟨Try.f74, codeOf Try.f74, Try.func74, by kernel_rfl, by kernel_rfl⟩
theorem need_coder_put_holds : ∀ (nf : Nat), Contract.Holds Try.prog 74 (need_coder_put_C nf)
  | 0 => fun _ _ h => by cases h
  | nf + 1 => by
    have ih := need_coder_put_holds nf
    exact fn_holds (Φ := need_coder_put_phi nf (need_coder_put_F nf)) (keep := need_coder_put_keep) (n := nf) ⟨tabs.1, tabs.2, (ctx_cons need_coder_put_ok (ih) ctx_nil), mixed, bk_ok bkls rfl⟩ (fn := Try.f74) ⟨Try.func74, by kernel_rfl, by kernel_rfl, by kernel_rfl⟩ (fun x => need_coder_put_eq nf (need_coder_put_F nf) x.1 x.2.1 x.2.2.1)

/-! codemason need.Code -/
def need_Code_phi (nf : Nat) : Nat → Option Contract := lookC [(70, need_wrong_C nf), (71, need_needs_C nf), (74, need_coder_put_C nf)]
def need_Code_keep : Nat → List Nat := lookK []
def need_Code_p (nf : Nat)  (vars : Int) (l' : List (Int × Int × Int × Int × Unit)) (regs : Int) : Option (List (Int × Int × Int × Int × Int × Unit) × Int × Unit) :=
  bif decide (regs < 1) then
    some (([], 1, ()))
  else
    bif decide (regs > 8) then
      some (([], 1, ()))
    else
      Option.bind (need_wrong_f nf vars l') fun r =>
      bif r.fst != 0 then
        some (([], r.fst, ()))
      else
        Option.bind (need_needs_f nf l') fun r2 =>
        bif inb (IntKind.i64.wrap ((↑l'.length : Int) - 1)) (List.length r2.fst) then
          bif decide (List.getD r2.fst (IntKind.i64.wrap ((↑l'.length : Int) - 1)).toNat 0 > regs) then
            some (([], 5, ()))
          else
            Option.bind (need_coder_put_F nf ((l', r2.fst, [], ()), IntKind.i64.wrap ((↑l'.length : Int) - 1), 0, ())) fun r3 =>
            Option.bind r3.fst fun r4 =>
            some ((r4.snd.snd.fst, 0, ()))
        else
          none
def need_Code_f (nf : Nat) (vars : Int) (l' : List (Int × Int × Int × Int × Unit)) (regs : Int) : Option (List (Int × Int × Int × Int × Int × Unit) × Int × Unit) := need_Code_p nf  vars l' regs
theorem need_Code_eq (nf : Nat) (vars : Int) (l' : List (Int × Int × Int × Int × Unit)) (regs : Int) : runF tab (need_Code_phi nf) need_Code_keep nf [PT.val (Ty.int IntKind.i64) (Md.bor true false), PT.val ((Ty.int IntKind.i64).pair ((Ty.int IntKind.i64).pair ((Ty.int IntKind.i64).pair ((Ty.int IntKind.i64).pair Ty.unit)))).sl (Md.bor false false), PT.val (Ty.int IntKind.i64) (Md.bor true false)] [(((Ty.int IntKind.i64).pair ((Ty.int IntKind.i64).pair ((Ty.int IntKind.i64).pair ((Ty.int IntKind.i64).pair ((Ty.int IntKind.i64).pair Ty.unit))))).sl, Md.own false (Md.bor false false)), (Ty.int IntKind.i64, Md.bor false true)] (resL ([]) Try.f36) (codeOf Try.f36) ⟨vars, l', regs, ()⟩ = need_Code_f nf vars l' regs := by
  have h : runF tab (need_Code_phi nf) need_Code_keep nf [PT.val (Ty.int IntKind.i64) (Md.bor true false), PT.val ((Ty.int IntKind.i64).pair ((Ty.int IntKind.i64).pair ((Ty.int IntKind.i64).pair ((Ty.int IntKind.i64).pair Ty.unit)))).sl (Md.bor false false), PT.val (Ty.int IntKind.i64) (Md.bor true false)] [(((Ty.int IntKind.i64).pair ((Ty.int IntKind.i64).pair ((Ty.int IntKind.i64).pair ((Ty.int IntKind.i64).pair ((Ty.int IntKind.i64).pair Ty.unit))))).sl, Md.own false (Md.bor false false)), (Ty.int IntKind.i64, Md.bor false true)] (resL ([]) Try.f36) (codeOf Try.f36) ⟨vars, l', regs, ()⟩ = need_Code_p nf  vars l' regs := by kernel_rfl
  exact h
def need_Code_F (nf : Nat) (x : denPs [.val (.int .i64) (.bor true false), .val (.sl (.pair (.int .i64) (.pair (.int .i64) (.pair (.int .i64) (.pair (.int .i64) (.unit)))))) (.bor false false), .val (.int .i64) (.bor true false)]) : Option (denL [(.sl (.pair (.int .i64) (.pair (.int .i64) (.pair (.int .i64) (.pair (.int .i64) (.pair (.int .i64) (.unit)))))), .own false (.bor false false)), (.int .i64, .bor false true)]) := need_Code_f nf x.1 x.2.1 x.2.2.1
def need_Code_C (nf : Nat) : Contract := ⟨[.val (.int .i64) (.bor true false), .val (.sl (.pair (.int .i64) (.pair (.int .i64) (.pair (.int .i64) (.pair (.int .i64) (.unit)))))) (.bor false false), .val (.int .i64) (.bor true false)], [(.sl (.pair (.int .i64) (.pair (.int .i64) (.pair (.int .i64) (.pair (.int .i64) (.pair (.int .i64) (.unit)))))), .own false (.bor false false)), (.int .i64, .bor false true)], need_Code_F nf, []⟩
theorem need_Code_ok : FnOK Try.prog 36 := ⟨Try.f36, codeOf Try.f36, Try.func36, by kernel_rfl, by kernel_rfl⟩
theorem need_Code_holds (nf : Nat) : Contract.Holds Try.prog 36 (need_Code_C nf) :=
  fn_holds (Φ := need_Code_phi nf) (keep := need_Code_keep) (n := nf) ⟨tabs.1, tabs.2, (ctx_cons need_wrong_ok (need_wrong_holds nf) (ctx_cons need_needs_ok (need_needs_holds nf) (ctx_cons need_coder_put_ok (need_coder_put_holds nf) ctx_nil))), mixed, bk_ok bkls rfl⟩ (fn := Try.f36) ⟨Try.func36, by kernel_rfl, by kernel_rfl, by kernel_rfl⟩ (fun x => need_Code_eq nf x.1 x.2.1 x.2.2.1)

/-! codemason codemasonlaw.NeedCodes -/
def law_NeedCodes_phi (nf : Nat) : Nat → Option Contract := lookC [(26, ref_Term_C nf), (28, ref_HaveCheck_C nf), (30, law_treeCode_C nf), (31, ref_Need_C nf), (35, ref_Steps_C nf), (36, need_Code_C nf), (37, ref_StepsCheck_C nf)]
def law_NeedCodes_keep : Nat → List Nat := lookK []
def law_NeedCodes_p (nf : Nat)  (vars : Int) (l' : List (Int × Int × Int × Int × Unit)) (regs : Int) (have' : List Int) : Option (Bool × Unit) :=
  Option.bind (need_Code_f nf vars l' regs) fun r =>
  Option.bind (law_treeCode_f nf vars l') fun r2 =>
  bif decide (regs < 1) then
    bif r.snd.fst == 1 then
      some (((↑(List.length r.fst) : Int) == 0, ()))
    else
      some ((false, ()))
  else
    bif decide (regs > 8) then
      bif r.snd.fst == 1 then
        some (((↑(List.length r.fst) : Int) == 0, ()))
      else
        some ((false, ()))
    else
      bif r2.fst == 0 then
        Option.bind (ref_Need_F nf (l', IntKind.i64.wrap ((↑l'.length : Int) - 1), ())) fun r3 =>
        bif decide (r3.fst > regs) then
          bif r.snd.fst == 5 then
            some (((↑(List.length r.fst) : Int) == 0, ()))
          else
            some ((false, ()))
        else
          bif r2.fst != 0 then
            bif r.snd.fst == r2.fst then
              some (((↑(List.length r.fst) : Int) == 0, ()))
            else
              some ((false, ()))
          else
            bif r.snd.fst != 0 then
              some ((false, ()))
            else
              bif (↑(List.length r.fst) : Int) != (↑l'.length : Int) then
                some ((false, ()))
              else
                Option.bind (ref_StepsCheck_f nf vars r.fst regs) fun r4 =>
                bif r4.fst != 0 then
                  some ((false, ()))
                else
                  Option.bind (ref_HaveCheck_f nf vars have') fun r5 =>
                  bif r5.fst != 0 then
                    some ((true, ()))
                  else
                    Option.bind (ref_Steps_f nf r.fst regs have') fun r6 =>
                    bif inb 0 (List.length r6.fst) then
                      Option.bind (ref_Term_f nf l' have') fun r7 =>
                      some ((List.getD r6.fst 0 0 == r7.fst, ()))
                    else
                      none
      else
        bif r2.fst != 0 then
          bif r.snd.fst == r2.fst then
            some (((↑(List.length r.fst) : Int) == 0, ()))
          else
            some ((false, ()))
        else
          bif r.snd.fst != 0 then
            some ((false, ()))
          else
            bif (↑(List.length r.fst) : Int) != (↑l'.length : Int) then
              some ((false, ()))
            else
              Option.bind (ref_StepsCheck_f nf vars r.fst regs) fun r8 =>
              bif r8.fst != 0 then
                some ((false, ()))
              else
                Option.bind (ref_HaveCheck_f nf vars have') fun r9 =>
                bif r9.fst != 0 then
                  some ((true, ()))
                else
                  Option.bind (ref_Steps_f nf r.fst regs have') fun r10 =>
                  bif inb 0 (List.length r10.fst) then
                    Option.bind (ref_Term_f nf l' have') fun r11 =>
                    some ((List.getD r10.fst 0 0 == r11.fst, ()))
                  else
                    none
def law_NeedCodes_f (nf : Nat) (vars : Int) (l' : List (Int × Int × Int × Int × Unit)) (regs : Int) (have' : List Int) : Option (Bool × Unit) := law_NeedCodes_p nf  vars l' regs have'
theorem law_NeedCodes_eq (nf : Nat) (vars : Int) (l' : List (Int × Int × Int × Int × Unit)) (regs : Int) (have' : List Int) : runF tab (law_NeedCodes_phi nf) law_NeedCodes_keep nf [PT.val (Ty.int IntKind.i64) (Md.bor false false), PT.val ((Ty.int IntKind.i64).pair ((Ty.int IntKind.i64).pair ((Ty.int IntKind.i64).pair ((Ty.int IntKind.i64).pair Ty.unit)))).sl (Md.bor false false), PT.val (Ty.int IntKind.i64) (Md.bor false false), PT.val (Ty.int IntKind.i64).sl (Md.bor false false)] [(Ty.bool, Md.bor false true)] (resL ([]) Try.f9) (codeOf Try.f9) ⟨vars, l', regs, have', ()⟩ = law_NeedCodes_f nf vars l' regs have' := by
  have h : runF tab (law_NeedCodes_phi nf) law_NeedCodes_keep nf [PT.val (Ty.int IntKind.i64) (Md.bor false false), PT.val ((Ty.int IntKind.i64).pair ((Ty.int IntKind.i64).pair ((Ty.int IntKind.i64).pair ((Ty.int IntKind.i64).pair Ty.unit)))).sl (Md.bor false false), PT.val (Ty.int IntKind.i64) (Md.bor false false), PT.val (Ty.int IntKind.i64).sl (Md.bor false false)] [(Ty.bool, Md.bor false true)] (resL ([]) Try.f9) (codeOf Try.f9) ⟨vars, l', regs, have', ()⟩ = law_NeedCodes_p nf  vars l' regs have' := by kernel_rfl
  exact h
def law_NeedCodes_F (nf : Nat) (x : denPs [.val (.int .i64) (.bor false false), .val (.sl (.pair (.int .i64) (.pair (.int .i64) (.pair (.int .i64) (.pair (.int .i64) (.unit)))))) (.bor false false), .val (.int .i64) (.bor false false), .val (.sl (.int .i64)) (.bor false false)]) : Option (denL [(.bool, .bor false true)]) := law_NeedCodes_f nf x.1 x.2.1 x.2.2.1 x.2.2.2.1
def law_NeedCodes_C (nf : Nat) : Contract := ⟨[.val (.int .i64) (.bor false false), .val (.sl (.pair (.int .i64) (.pair (.int .i64) (.pair (.int .i64) (.pair (.int .i64) (.unit)))))) (.bor false false), .val (.int .i64) (.bor false false), .val (.sl (.int .i64)) (.bor false false)], [(.bool, .bor false true)], law_NeedCodes_F nf, []⟩
theorem law_NeedCodes_ok : FnOK Try.prog 9 := ⟨Try.f9, codeOf Try.f9, Try.func9, by kernel_rfl, by kernel_rfl⟩
theorem law_NeedCodes_holds (nf : Nat) : Contract.Holds Try.prog 9 (law_NeedCodes_C nf) :=
  fn_holds (Φ := law_NeedCodes_phi nf) (keep := law_NeedCodes_keep) (n := nf) ⟨tabs.1, tabs.2, (ctx_cons ref_Term_ok (ref_Term_holds nf) (ctx_cons ref_HaveCheck_ok (ref_HaveCheck_holds nf) (ctx_cons law_treeCode_ok (law_treeCode_holds nf) (ctx_cons ref_Need_ok (ref_Need_holds nf) (ctx_cons ref_Steps_ok (ref_Steps_holds nf) (ctx_cons need_Code_ok (need_Code_holds nf) (ctx_cons ref_StepsCheck_ok (ref_StepsCheck_holds nf) ctx_nil))))))), mixed, bk_ok bkls rfl⟩ (fn := Try.f9) ⟨Try.func9, by kernel_rfl, by kernel_rfl, by kernel_rfl⟩ (fun x => law_NeedCodes_eq nf x.1 x.2.1 x.2.2.1 x.2.2.2.1)
end
end Go.Proofs.Ytpnganfbonlphaa.S
