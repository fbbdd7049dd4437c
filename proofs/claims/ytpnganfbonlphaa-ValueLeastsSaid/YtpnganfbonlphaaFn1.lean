/- The functions of the code, as plain functions, and the theorems that say so: made by a program of this proof's own. -/
import Derived.Test.YtpnganfbonlphaaAbCheck
import Derived.Test.YtpnganfbonlphaaChecked
namespace Go.Proofs.Ytpnganfbonlphaa.S
open Go Go.Ab
noncomputable section
def bkl : List (Nat × Bk) := [(90, .mk 96 22), (96, .gen 22)]
def tab : Tab := ⟨lookT [(2, .int .i64), (3, .int .i64), (4, .bool), (5, .int .u8), (6, .int .u8), (7, .pair (.int .i64) (.pair (.int .i64) (.pair (.bool) (.pair (.int .u8) (.unit))))), (8, .pair (.int .i64) (.pair (.int .i64) (.pair (.bool) (.pair (.int .u8) (.unit))))), (12, .int .u64), (21, .int .i32), (22, .sl (.pair (.int .i64) (.pair (.int .i64) (.pair (.int .i64) (.pair (.int .i64) (.unit)))))), (23, .int .i64), (26, .int .u32), (29, .sl (.int .i64)), (31, .pair (.int .i64) (.pair (.int .i64) (.pair (.int .i64) (.pair (.int .i64) (.unit))))), (32, .pair (.int .i64) (.pair (.int .i64) (.pair (.int .i64) (.pair (.int .i64) (.unit))))), (33, .int .u64), (44, .sl (.pair (.int .i64) (.pair (.int .i64) (.pair (.int .i64) (.pair (.int .i64) (.pair (.int .i64) (.unit))))))), (55, .sl (.pair (.int .i64) (.pair (.int .i64) (.unit)))), (65, .pair (.int .i64) (.pair (.int .i64) (.unit))), (66, .pair (.int .i64) (.pair (.int .i64) (.unit))), (86, .sl (.pair (.int .i64) (.pair (.int .i64) (.pair (.int .i64) (.pair (.int .i64) (.unit)))))), (94, .pair (.int .i64) (.pair (.int .i64) (.pair (.int .i64) (.pair (.int .i64) (.unit))))), (95, .pair (.int .i64) (.pair (.int .i64) (.pair (.int .i64) (.pair (.int .i64) (.unit))))), (96, .sl (.bool)), (101, .pair (.int .i64) (.pair (.int .i64) (.pair (.int .i64) (.pair (.int .i64) (.pair (.int .i64) (.unit)))))), (102, .pair (.int .i64) (.pair (.int .i64) (.pair (.int .i64) (.pair (.int .i64) (.pair (.int .i64) (.unit)))))), (104, .pair (.sl (.pair (.int .i64) (.pair (.int .i64) (.pair (.int .i64) (.pair (.int .i64) (.unit)))))) (.pair (.sl (.int .i64)) (.pair (.sl (.pair (.int .i64) (.pair (.int .i64) (.pair (.int .i64) (.pair (.int .i64) (.pair (.int .i64) (.unit))))))) (.unit)))), (105, .pair (.sl (.pair (.int .i64) (.pair (.int .i64) (.pair (.int .i64) (.pair (.int .i64) (.unit)))))) (.pair (.sl (.int .i64)) (.pair (.sl (.pair (.int .i64) (.pair (.int .i64) (.pair (.int .i64) (.pair (.int .i64) (.pair (.int .i64) (.unit))))))) (.unit)))), (114, .mp (.pair (.int .i64) (.pair (.int .i64) (.pair (.int .i64) (.pair (.int .i64) (.unit))))) (.int .i64)), (115, .pair (.sl (.pair (.int .i64) (.pair (.int .i64) (.pair (.int .i64) (.pair (.int .i64) (.unit)))))) (.pair (.mp (.pair (.int .i64) (.pair (.int .i64) (.pair (.int .i64) (.pair (.int .i64) (.unit))))) (.int .i64)) (.unit))), (116, .pair (.sl (.pair (.int .i64) (.pair (.int .i64) (.pair (.int .i64) (.pair (.int .i64) (.unit)))))) (.pair (.mp (.pair (.int .i64) (.pair (.int .i64) (.pair (.int .i64) (.pair (.int .i64) (.unit))))) (.int .i64)) (.unit))), (119, .pair (.sl (.pair (.int .i64) (.pair (.int .i64) (.pair (.int .i64) (.pair (.int .i64) (.pair (.int .i64) (.unit))))))) (.pair (.int .i64) (.pair (.int .i64) (.pair (.int .i64) (.unit))))), (120, .pair (.sl (.pair (.int .i64) (.pair (.int .i64) (.pair (.int .i64) (.pair (.int .i64) (.pair (.int .i64) (.unit))))))) (.pair (.int .i64) (.pair (.int .i64) (.pair (.int .i64) (.unit))))), (121, .sl (.pair (.sl (.pair (.int .i64) (.pair (.int .i64) (.pair (.int .i64) (.pair (.int .i64) (.pair (.int .i64) (.unit))))))) (.pair (.int .i64) (.pair (.int .i64) (.pair (.int .i64) (.unit)))))), (142, .int .u8), (143, .int .u8), (146, .int .i32), (147, .int .i32)], lookM [(2, .bor false true), (3, .bor false true), (4, .bor false true), (5, .bor false true), (6, .bor false true), (7, .bor false true), (8, .bor false true), (12, .bor false true), (21, .bor false true), (22, .own false (.bor false false)), (23, .bor false true), (26, .bor false true), (29, .own false (.bor false false)), (31, .bor false true), (32, .bor false true), (33, .bor false true), (44, .own false (.bor false false)), (55, .own false (.bor false false)), (65, .bor false true), (66, .bor false true), (86, .own false (.bor false false)), (94, .bor false true), (95, .bor false true), (96, .own false (.bor false false)), (101, .bor false true), (102, .bor false true), (104, .bor true false), (105, .pair (.bor false false) (.pair (.bor false false) (.pair (.own false (.bor false false)) (.bor false false)))), (114, .own false (.bor false false)), (115, .bor true false), (116, .pair (.own false (.bor false false)) (.pair (.own true (.bor false false)) (.bor false false))), (119, .bor true false), (120, .bor true false), (121, .own false (.bor false false)), (142, .bor false true), (143, .bor false true), (146, .bor false true), (147, .bor false true)], hasT [138], hasT [9, 10, 11], fun _ => none, lookB bkl⟩
theorem bkls : BkL Try.prog bkl := by
  intro x hx
  simp only [bkl, List.mem_cons, List.not_mem_nil, or_false] at hx
  rcases hx with rfl | rfl
  · exact ⟨⟨Try.f90, codeOf Try.f90, Try.func90, by kernel_rfl, by kernel_rfl⟩, Try.f90, 128, 127, Try.func90, by kernel_rfl, by kernel_rfl, by kernel_rfl⟩
  · exact ⟨⟨Try.f96, codeOf Try.f96, Try.func96, by kernel_rfl, by kernel_rfl⟩, Try.f96, 3, 32, 4, 132, Try.func96, by kernel_rfl, by kernel_rfl, by kernel_rfl, by kernel_rfl⟩
theorem tabs : TabOK Try.prog tab ∧ EqOK Try.prog tab := tab_ok (by kernel_rfl) (by kernel_rfl)
theorem mixed : Try.prog.follows .mixedOrders = true := by kernel_rfl

/-! codemason term.Check -/
def term_Check_phi (nf : Nat) : Nat → Option Contract := lookC []
def term_Check_keep : Nat → List Nat := lookK [(0, [0, 1, 23, 24, 25])]
def term_Check_b0 (nf : Nat) (vars : Int) (l' : List (Int × Int × Int × Int × Unit)) (g0 : Int → Option (Int × Unit)) (t25 : Int) : Option (Int × Unit) :=
  bif decide (t25 < (↑l'.length : Int)) then
    bif inb t25 l'.length then
      bif decide ((l'.getD t25.toNat (0, 0, 0, 0, ())).fst < 1) then
        some ((6, ()))
      else
        bif decide ((l'.getD t25.toNat (0, 0, 0, 0, ())).fst > 6) then
          some ((6, ()))
        else
          bif (l'.getD t25.toNat (0, 0, 0, 0, ())).fst == 1 then
            bif decide ((l'.getD t25.toNat (0, 0, 0, 0, ())).snd.snd.snd.fst < 0) then
              some ((4, ()))
            else
              bif decide ((l'.getD t25.toNat (0, 0, 0, 0, ())).snd.snd.snd.fst > 255) then
                some ((4, ()))
              else
                bif (l'.getD t25.toNat (0, 0, 0, 0, ())).fst == 2 then
                  bif decide ((l'.getD t25.toNat (0, 0, 0, 0, ())).snd.snd.snd.fst < 0) then
                    some ((4, ()))
                  else
                    bif decide ((l'.getD t25.toNat (0, 0, 0, 0, ())).snd.snd.snd.fst ≥ vars) then
                      some ((4, ()))
                    else
                      bif decide ((l'.getD t25.toNat (0, 0, 0, 0, ())).fst > 2) then
                        bif decide ((if (l'.getD t25.toNat (0, 0, 0, 0, ())).snd.snd.fst < (l'.getD t25.toNat (0, 0, 0, 0, ())).snd.fst then (l'.getD t25.toNat (0, 0, 0, 0, ())).snd.snd.fst else (l'.getD t25.toNat (0, 0, 0, 0, ())).snd.fst) < 0) then
                          some ((2, ()))
                        else
                          bif decide ((if (l'.getD t25.toNat (0, 0, 0, 0, ())).snd.snd.fst > (l'.getD t25.toNat (0, 0, 0, 0, ())).snd.fst then (l'.getD t25.toNat (0, 0, 0, 0, ())).snd.snd.fst else (l'.getD t25.toNat (0, 0, 0, 0, ())).snd.fst) ≥ t25) then
                            some ((2, ()))
                          else
                            g0 (IntKind.i64.wrap (t25 + 1))
                      else
                        g0 (IntKind.i64.wrap (t25 + 1))
                else
                  bif decide ((l'.getD t25.toNat (0, 0, 0, 0, ())).fst > 2) then
                    bif decide ((if (l'.getD t25.toNat (0, 0, 0, 0, ())).snd.snd.fst < (l'.getD t25.toNat (0, 0, 0, 0, ())).snd.fst then (l'.getD t25.toNat (0, 0, 0, 0, ())).snd.snd.fst else (l'.getD t25.toNat (0, 0, 0, 0, ())).snd.fst) < 0) then
                      some ((2, ()))
                    else
                      bif decide ((if (l'.getD t25.toNat (0, 0, 0, 0, ())).snd.snd.fst > (l'.getD t25.toNat (0, 0, 0, 0, ())).snd.fst then (l'.getD t25.toNat (0, 0, 0, 0, ())).snd.snd.fst else (l'.getD t25.toNat (0, 0, 0, 0, ())).snd.fst) ≥ t25) then
                        some ((2, ()))
                      else
                        g0 (IntKind.i64.wrap (t25 + 1))
                  else
                    g0 (IntKind.i64.wrap (t25 + 1))
          else
            bif (l'.getD t25.toNat (0, 0, 0, 0, ())).fst == 2 then
              bif decide ((l'.getD t25.toNat (0, 0, 0, 0, ())).snd.snd.snd.fst < 0) then
                some ((4, ()))
              else
                bif decide ((l'.getD t25.toNat (0, 0, 0, 0, ())).snd.snd.snd.fst ≥ vars) then
                  some ((4, ()))
                else
                  bif decide ((l'.getD t25.toNat (0, 0, 0, 0, ())).fst > 2) then
                    bif decide ((if (l'.getD t25.toNat (0, 0, 0, 0, ())).snd.snd.fst < (l'.getD t25.toNat (0, 0, 0, 0, ())).snd.fst then (l'.getD t25.toNat (0, 0, 0, 0, ())).snd.snd.fst else (l'.getD t25.toNat (0, 0, 0, 0, ())).snd.fst) < 0) then
                      some ((2, ()))
                    else
                      bif decide ((if (l'.getD t25.toNat (0, 0, 0, 0, ())).snd.snd.fst > (l'.getD t25.toNat (0, 0, 0, 0, ())).snd.fst then (l'.getD t25.toNat (0, 0, 0, 0, ())).snd.snd.fst else (l'.getD t25.toNat (0, 0, 0, 0, ())).snd.fst) ≥ t25) then
                        some ((2, ()))
                      else
                        g0 (IntKind.i64.wrap (t25 + 1))
                  else
                    g0 (IntKind.i64.wrap (t25 + 1))
            else
              bif decide ((l'.getD t25.toNat (0, 0, 0, 0, ())).fst > 2) then
                bif decide ((if (l'.getD t25.toNat (0, 0, 0, 0, ())).snd.snd.fst < (l'.getD t25.toNat (0, 0, 0, 0, ())).snd.fst then (l'.getD t25.toNat (0, 0, 0, 0, ())).snd.snd.fst else (l'.getD t25.toNat (0, 0, 0, 0, ())).snd.fst) < 0) then
                  some ((2, ()))
                else
                  bif decide ((if (l'.getD t25.toNat (0, 0, 0, 0, ())).snd.snd.fst > (l'.getD t25.toNat (0, 0, 0, 0, ())).snd.fst then (l'.getD t25.toNat (0, 0, 0, 0, ())).snd.snd.fst else (l'.getD t25.toNat (0, 0, 0, 0, ())).snd.fst) ≥ t25) then
                    some ((2, ()))
                  else
                    g0 (IntKind.i64.wrap (t25 + 1))
              else
                g0 (IntKind.i64.wrap (t25 + 1))
    else
      none
  else
    some ((0, ()))
def term_Check_p (nf : Nat) (l0 : Int → List (Int × Int × Int × Int × Unit) → Int → Option (Int × Unit)) (vars : Int) (l' : List (Int × Int × Int × Int × Unit)) : Option (Int × Unit) :=
  bif decide (vars < 0) then
    some ((1, ()))
  else
    bif decide (vars > 6) then
      some ((1, ()))
    else
      bif (↑l'.length : Int) == 0 then
        some ((1, ()))
      else
        bif decide ((↑l'.length : Int) > 16) then
          some ((1, ()))
        else
          l0 vars l' 0
def term_Check_l0 (nf : Nat) (vars : Int) (l' : List (Int × Int × Int × Int × Unit)) : Nat → Int → Option (Int × Unit)
  | 0, _ => none
  | fu + 1, t25 => term_Check_b0 nf  vars l'  (term_Check_l0 nf vars l'  fu) t25
def term_Check_f (nf : Nat) (vars : Int) (l' : List (Int × Int × Int × Int × Unit)) : Option (Int × Unit) := term_Check_p nf (fun p0 p1 v0 => term_Check_l0 nf p0 p1 nf v0) vars l'
noncomputable def term_Check_L0 (nf : Nat) : LC (Int × Unit) := theL (findL tab (term_Check_phi nf) (fun _ F => iter nf F) term_Check_keep 0 0 (codeOf Try.f20) (fin tab [(Ty.int IntKind.i64, Md.bor false true)] (resL ([]) Try.f20)) (fun _ _ => none) (fin tab [(Ty.int IntKind.i64, Md.bor false true)] (resL ([]) Try.f20)))
def term_Check_m0 (vars : Int) (l' : List (Int × Int × Int × Int × Unit)) (t25 : Int) : St := ⟨fresh, [(0, AV.v (Ty.int IntKind.i64) (Md.bor false true) vars), (1, AV.v ((Ty.int IntKind.i64).pair ((Ty.int IntKind.i64).pair ((Ty.int IntKind.i64).pair ((Ty.int IntKind.i64).pair Ty.unit)))).sl (Md.bor true false) l'), (23, AV.v ((Ty.int IntKind.i64).pair ((Ty.int IntKind.i64).pair ((Ty.int IntKind.i64).pair ((Ty.int IntKind.i64).pair Ty.unit)))).sl (Md.bor true false) l'), (24, AV.v (Ty.int IntKind.i64) (Md.bor false true) (↑l'.length : Int)), (25, AV.v (Ty.int IntKind.i64) (Md.bor false true) t25)]⟩
theorem term_Check_h0 (nf : Nat)  (vars : Int) (l' : List (Int × Int × Int × Int × Unit)) (fu : Nat) (t25 : Int) : iter (fu + 1) (LC.F tab (term_Check_phi nf) (fun _ F => iter nf F) term_Check_keep 0 (term_Check_L0 nf )) (term_Check_m0 vars l' t25) = term_Check_b0 nf  vars l'  (fun t25 => iter fu (LC.F tab (term_Check_phi nf) (fun _ F => iter nf F) term_Check_keep 0 (term_Check_L0 nf )) (term_Check_m0 vars l' t25)) t25 := by kernel_rfl
theorem term_Check_e0 (nf : Nat)  (vars : Int) (l' : List (Int × Int × Int × Int × Unit)) : ∀ (fu : Nat) (t25 : Int), iter fu (LC.F tab (term_Check_phi nf) (fun _ F => iter nf F) term_Check_keep 0 (term_Check_L0 nf )) (term_Check_m0 vars l' t25) = term_Check_l0 nf vars l'  fu t25 := by
  intro fu
  induction fu with
  | zero => intros; rfl
  | succ fu ih =>
    intro t25
    rw [term_Check_h0 nf  vars l' fu t25]
    simp only [ih]
    rfl
theorem term_Check_eq (nf : Nat) (vars : Int) (l' : List (Int × Int × Int × Int × Unit)) : runF tab (term_Check_phi nf) term_Check_keep nf [PT.val (Ty.int IntKind.i64) (Md.bor true false), PT.val ((Ty.int IntKind.i64).pair ((Ty.int IntKind.i64).pair ((Ty.int IntKind.i64).pair ((Ty.int IntKind.i64).pair Ty.unit)))).sl (Md.bor true false)] [(Ty.int IntKind.i64, Md.bor false true)] (resL ([]) Try.f20) (codeOf Try.f20) ⟨vars, l', ()⟩ = term_Check_f nf vars l' := by
  have h : runF tab (term_Check_phi nf) term_Check_keep nf [PT.val (Ty.int IntKind.i64) (Md.bor true false), PT.val ((Ty.int IntKind.i64).pair ((Ty.int IntKind.i64).pair ((Ty.int IntKind.i64).pair ((Ty.int IntKind.i64).pair Ty.unit)))).sl (Md.bor true false)] [(Ty.int IntKind.i64, Md.bor false true)] (resL ([]) Try.f20) (codeOf Try.f20) ⟨vars, l', ()⟩ = term_Check_p nf (fun p0 p1 v0 => iter nf (LC.F tab (term_Check_phi nf) (fun _ F => iter nf F) term_Check_keep 0 (term_Check_L0 nf)) (term_Check_m0 p0 p1 v0)) vars l' := by kernel_rfl
  rw [h]
  simp only [term_Check_e0]
  rfl
def term_Check_F (nf : Nat) (x : denPs [.val (.int .i64) (.bor true false), .val (.sl (.pair (.int .i64) (.pair (.int .i64) (.pair (.int .i64) (.pair (.int .i64) (.unit)))))) (.bor true false)]) : Option (denL [(.int .i64, .bor false true)]) := term_Check_f nf x.1 x.2.1
def term_Check_C (nf : Nat) : Contract := ⟨[.val (.int .i64) (.bor true false), .val (.sl (.pair (.int .i64) (.pair (.int .i64) (.pair (.int .i64) (.pair (.int .i64) (.unit)))))) (.bor true false)], [(.int .i64, .bor false true)], term_Check_F nf, []⟩
theorem term_Check_ok : FnOK Try.prog 20 := ⟨Try.f20, codeOf Try.f20, Try.func20, by kernel_rfl, by kernel_rfl⟩
theorem term_Check_holds (nf : Nat) : Contract.Holds Try.prog 20 (term_Check_C nf) :=
  fn_holds (Φ := term_Check_phi nf) (keep := term_Check_keep) (n := nf) ⟨tabs.1, tabs.2, ctx_nil, mixed, bk_ok bkls rfl⟩ (fn := Try.f20) ⟨Try.func20, by kernel_rfl, by kernel_rfl, by kernel_rfl⟩ (fun x => term_Check_eq nf x.1 x.2.1)

/-! codemason codemasonref.Inside -/
def ref_Inside_phi (nf : Nat) : Nat → Option Contract := lookC []
def ref_Inside_keep : Nat → List Nat := lookK [(0, [0, 1, 7, 8, 9])]
def ref_Inside_b0 (nf : Nat) (n' : Int) (l' : List Int) (g0 : Int → Option (Bool × Unit)) (t9 : Int) : Option (Bool × Unit) :=
  bif decide (t9 < (↑l'.length : Int)) then
    bif inb t9 l'.length then
      bif decide (l'.getD t9.toNat 0 < 0) then
        some ((false, ()))
      else
        bif decide (l'.getD t9.toNat 0 ≥ n') then
          some ((false, ()))
        else
          g0 (IntKind.i64.wrap (t9 + 1))
    else
      none
  else
    some ((true, ()))
def ref_Inside_p (nf : Nat) (l0 : Int → List Int → Int → Option (Bool × Unit)) (n' : Int) (l' : List Int) : Option (Bool × Unit) :=
  l0 n' l' 0
def ref_Inside_l0 (nf : Nat) (n' : Int) (l' : List Int) : Nat → Int → Option (Bool × Unit)
  | 0, _ => none
  | fu + 1, t9 => ref_Inside_b0 nf  n' l'  (ref_Inside_l0 nf n' l'  fu) t9
def ref_Inside_f (nf : Nat) (n' : Int) (l' : List Int) : Option (Bool × Unit) := ref_Inside_p nf (fun p0 p1 v0 => ref_Inside_l0 nf p0 p1 nf v0) n' l'
noncomputable def ref_Inside_L0 (nf : Nat) : LC (Bool × Unit) := theL (findL tab (ref_Inside_phi nf) (fun _ F => iter nf F) ref_Inside_keep 0 0 (codeOf Try.f50) (fin tab [(Ty.bool, Md.bor false true)] (resL ([]) Try.f50)) (fun _ _ => none) (fin tab [(Ty.bool, Md.bor false true)] (resL ([]) Try.f50)))
def ref_Inside_m0 (n' : Int) (l' : List Int) (t9 : Int) : St := ⟨fresh, [(0, AV.v (Ty.int IntKind.i64) (Md.bor false true) n'), (1, AV.v (Ty.int IntKind.i64).sl (Md.bor true false) l'), (7, AV.v (Ty.int IntKind.i64).sl (Md.bor true false) l'), (8, AV.v (Ty.int IntKind.i64) (Md.bor false true) (↑l'.length : Int)), (9, AV.v (Ty.int IntKind.i64) (Md.bor false true) t9)]⟩
theorem ref_Inside_h0 (nf : Nat)  (n' : Int) (l' : List Int) (fu : Nat) (t9 : Int) : iter (fu + 1) (LC.F tab (ref_Inside_phi nf) (fun _ F => iter nf F) ref_Inside_keep 0 (ref_Inside_L0 nf )) (ref_Inside_m0 n' l' t9) = ref_Inside_b0 nf  n' l'  (fun t9 => iter fu (LC.F tab (ref_Inside_phi nf) (fun _ F => iter nf F) ref_Inside_keep 0 (ref_Inside_L0 nf )) (ref_Inside_m0 n' l' t9)) t9 := by kernel_rfl
theorem ref_Inside_e0 (nf : Nat)  (n' : Int) (l' : List Int) : ∀ (fu : Nat) (t9 : Int), iter fu (LC.F tab (ref_Inside_phi nf) (fun _ F => iter nf F) ref_Inside_keep 0 (ref_Inside_L0 nf )) (ref_Inside_m0 n' l' t9) = ref_Inside_l0 nf n' l'  fu t9 := by
  intro fu
  induction fu with
  | zero => intros; rfl
  | succ fu ih =>
    intro t9
    rw [ref_Inside_h0 nf  n' l' fu t9]
    simp only [ih]
    rfl
theorem ref_Inside_eq (nf : Nat) (n' : Int) (l' : List Int) : runF tab (ref_Inside_phi nf) ref_Inside_keep nf [PT.val (Ty.int IntKind.i64) (Md.bor true false), PT.val (Ty.int IntKind.i64).sl (Md.bor true false)] [(Ty.bool, Md.bor false true)] (resL ([]) Try.f50) (codeOf Try.f50) ⟨n', l', ()⟩ = ref_Inside_f nf n' l' := by
  have h : runF tab (ref_Inside_phi nf) ref_Inside_keep nf [PT.val (Ty.int IntKind.i64) (Md.bor true false), PT.val (Ty.int IntKind.i64).sl (Md.bor true false)] [(Ty.bool, Md.bor false true)] (resL ([]) Try.f50) (codeOf Try.f50) ⟨n', l', ()⟩ = ref_Inside_p nf (fun p0 p1 v0 => iter nf (LC.F tab (ref_Inside_phi nf) (fun _ F => iter nf F) ref_Inside_keep 0 (ref_Inside_L0 nf)) (ref_Inside_m0 p0 p1 v0)) n' l' := by kernel_rfl
  rw [h]
  simp only [ref_Inside_e0]
  rfl
def ref_Inside_F (nf : Nat) (x : denPs [.val (.int .i64) (.bor true false), .val (.sl (.int .i64)) (.bor true false)]) : Option (denL [(.bool, .bor false true)]) := ref_Inside_f nf x.1 x.2.1
def ref_Inside_C (nf : Nat) : Contract := ⟨[.val (.int .i64) (.bor true false), .val (.sl (.int .i64)) (.bor true false)], [(.bool, .bor false true)], ref_Inside_F nf, []⟩
theorem ref_Inside_ok : FnOK Try.prog 50 := ⟨Try.f50, codeOf Try.f50, Try.func50, by kernel_rfl, by kernel_rfl⟩
theorem ref_Inside_holds (nf : Nat) : Contract.Holds Try.prog 50 (ref_Inside_C nf) :=
  fn_holds (Φ := ref_Inside_phi nf) (keep := ref_Inside_keep) (n := nf) ⟨tabs.1, tabs.2, ctx_nil, mixed, bk_ok bkls rfl⟩ (fn := Try.f50) ⟨Try.func50, by kernel_rfl, by kernel_rfl, by kernel_rfl⟩ (fun x => ref_Inside_eq nf x.1 x.2.1)

/-! codemason codemasonref.Value -/
def ref_Value_phi (nf : Nat) : Nat → Option Contract := lookC []
def ref_Value_keep : Nat → List Nat := lookK []
def ref_Value_p (nf : Nat)  (x : Int) : Option (Bool × Unit) :=
  bif decide (x ≥ 0) then
    some ((decide (x ≤ 255), ()))
  else
    some ((false, ()))
def ref_Value_f (nf : Nat) (x : Int) : Option (Bool × Unit) := ref_Value_p nf  x
theorem ref_Value_eq (nf : Nat) (x : Int) : runF tab (ref_Value_phi nf) ref_Value_keep nf [PT.val (Ty.int IntKind.i64) (Md.bor true false)] [(Ty.bool, Md.bor false true)] (resL ([]) Try.f56) (codeOf Try.f56) ⟨x, ()⟩ = ref_Value_f nf x := by
  have h : runF tab (ref_Value_phi nf) ref_Value_keep nf [PT.val (Ty.int IntKind.i64) (Md.bor true false)] [(Ty.bool, Md.bor false true)] (resL ([]) Try.f56) (codeOf Try.f56) ⟨x, ()⟩ = ref_Value_p nf  x := by kernel_rfl
  exact h
def ref_Value_F (nf : Nat) (x : denPs [.val (.int .i64) (.bor true false)]) : Option (denL [(.bool, .bor false true)]) := ref_Value_f nf x.1
def ref_Value_C (nf : Nat) : Contract := ⟨[.val (.int .i64) (.bor true false)], [(.bool, .bor false true)], ref_Value_F nf, []⟩
theorem ref_Value_ok : FnOK Try.prog 56 := ⟨Try.f56, codeOf Try.f56, Try.func56, by kernel_rfl, by kernel_rfl⟩
theorem ref_Value_holds (nf : Nat) : Contract.Holds Try.prog 56 (ref_Value_C nf) :=
  fn_holds (Φ := ref_Value_phi nf) (keep := ref_Value_keep) (n := nf) ⟨tabs.1, tabs.2, ctx_nil, mixed, bk_ok bkls rfl⟩ (fn := Try.f56) ⟨Try.func56, by kernel_rfl, by kernel_rfl, by kernel_rfl⟩ (fun x => ref_Value_eq nf x.1)

/-! codemason codemasonref.TermsCheck -/
def ref_TermsCheck_phi (nf : Nat) : Nat → Option Contract := lookC [(50, ref_Inside_C nf), (56, ref_Value_C nf)]
def ref_TermsCheck_keep : Nat → List Nat := lookK [(0, [0, 1, 23, 24, 25])]
def ref_TermsCheck_b0 (nf : Nat) (vars : Int) (l' : List (Int × Int × Int × Int × Unit)) (g0 : Int → Option (Int × Unit)) (t25 : Int) : Option (Int × Unit) :=
  bif decide (t25 < (↑l'.length : Int)) then
    bif inb t25 l'.length then
      bif decide ((l'.getD t25.toNat (0, 0, 0, 0, ())).fst < 1) then
        some ((6, ()))
      else
        bif decide ((l'.getD t25.toNat (0, 0, 0, 0, ())).fst > 6) then
          some ((6, ()))
        else
          bif (l'.getD t25.toNat (0, 0, 0, 0, ())).fst == 1 then
            Option.bind (ref_Value_f nf ((l'.getD t25.toNat (0, 0, 0, 0, ())).snd.snd.snd.fst)) fun r =>
            bif !r.fst then
              some ((4, ()))
            else
              bif (l'.getD t25.toNat (0, 0, 0, 0, ())).fst == 2 then
                Option.bind (ref_Inside_f nf vars ([(l'.getD t25.toNat (0, 0, 0, 0, ())).snd.snd.snd.fst])) fun r2 =>
                bif !r2.fst then
                  some ((4, ()))
                else
                  bif decide ((l'.getD t25.toNat (0, 0, 0, 0, ())).fst ≥ 3) then
                    Option.bind (ref_Inside_f nf t25 ([(l'.getD t25.toNat (0, 0, 0, 0, ())).snd.fst, (l'.getD t25.toNat (0, 0, 0, 0, ())).snd.snd.fst])) fun r3 =>
                    bif !r3.fst then
                      some ((2, ()))
                    else
                      g0 (IntKind.i64.wrap (t25 + 1))
                  else
                    g0 (IntKind.i64.wrap (t25 + 1))
              else
                bif decide ((l'.getD t25.toNat (0, 0, 0, 0, ())).fst ≥ 3) then
                  Option.bind (ref_Inside_f nf t25 ([(l'.getD t25.toNat (0, 0, 0, 0, ())).snd.fst, (l'.getD t25.toNat (0, 0, 0, 0, ())).snd.snd.fst])) fun r4 =>
                  bif !r4.fst then
                    some ((2, ()))
                  else
                    g0 (IntKind.i64.wrap (t25 + 1))
                else
                  g0 (IntKind.i64.wrap (t25 + 1))
          else
            bif (l'.getD t25.toNat (0, 0, 0, 0, ())).fst == 2 then
              Option.bind (ref_Inside_f nf vars ([(l'.getD t25.toNat (0, 0, 0, 0, ())).snd.snd.snd.fst])) fun r5 =>
              bif !r5.fst then
                some ((4, ()))
              else
                bif decide ((l'.getD t25.toNat (0, 0, 0, 0, ())).fst ≥ 3) then
                  Option.bind (ref_Inside_f nf t25 ([(l'.getD t25.toNat (0, 0, 0, 0, ())).snd.fst, (l'.getD t25.toNat (0, 0, 0, 0, ())).snd.snd.fst])) fun r6 =>
                  bif !r6.fst then
                    some ((2, ()))
                  else
                    g0 (IntKind.i64.wrap (t25 + 1))
                else
                  g0 (IntKind.i64.wrap (t25 + 1))
            else
              bif decide ((l'.getD t25.toNat (0, 0, 0, 0, ())).fst ≥ 3) then
                Option.bind (ref_Inside_f nf t25 ([(l'.getD t25.toNat (0, 0, 0, 0, ())).snd.fst, (l'.getD t25.toNat (0, 0, 0, 0, ())).snd.snd.fst])) fun r7 =>
                bif !r7.fst then
                  some ((2, ()))
                else
                  g0 (IntKind.i64.wrap (t25 + 1))
              else
                g0 (IntKind.i64.wrap (t25 + 1))
    else
      none
  else
    some ((0, ()))
def ref_TermsCheck_p (nf : Nat) (l0 : Int → List (Int × Int × Int × Int × Unit) → Int → Option (Int × Unit)) (vars : Int) (l' : List (Int × Int × Int × Int × Unit)) : Option (Int × Unit) :=
  bif decide (vars < 0) then
    some ((1, ()))
  else
    bif decide (vars > 6) then
      some ((1, ()))
    else
      bif decide ((↑l'.length : Int) < 1) then
        some ((1, ()))
      else
        bif decide ((↑l'.length : Int) > 16) then
          some ((1, ()))
        else
          l0 vars l' 0
def ref_TermsCheck_l0 (nf : Nat) (vars : Int) (l' : List (Int × Int × Int × Int × Unit)) : Nat → Int → Option (Int × Unit)
  | 0, _ => none
  | fu + 1, t25 => ref_TermsCheck_b0 nf  vars l'  (ref_TermsCheck_l0 nf vars l'  fu) t25
def ref_TermsCheck_f (nf : Nat) (vars : Int) (l' : List (Int × Int × Int × Int × Unit)) : Option (Int × Unit) := ref_TermsCheck_p nf (fun p0 p1 v0 => ref_TermsCheck_l0 nf p0 p1 nf v0) vars l'
noncomputable def ref_TermsCheck_L0 (nf : Nat) : LC (Int × Unit) := theL (findL tab (ref_TermsCheck_phi nf) (fun _ F => iter nf F) ref_TermsCheck_keep 0 0 (codeOf Try.f21) (fin tab [(Ty.int IntKind.i64, Md.bor false true)] (resL ([]) Try.f21)) (fun _ _ => none) (fin tab [(Ty.int IntKind.i64, Md.bor false true)] (resL ([]) Try.f21)))
def ref_TermsCheck_m0 (vars : Int) (l' : List (Int × Int × Int × Int × Unit)) (t25 : Int) : St := ⟨fresh, [(0, AV.v (Ty.int IntKind.i64) (Md.bor false true) vars), (1, AV.v ((Ty.int IntKind.i64).pair ((Ty.int IntKind.i64).pair ((Ty.int IntKind.i64).pair ((Ty.int IntKind.i64).pair Ty.unit)))).sl (Md.bor true false) l'), (23, AV.v ((Ty.int IntKind.i64).pair ((Ty.int IntKind.i64).pair ((Ty.int IntKind.i64).pair ((Ty.int IntKind.i64).pair Ty.unit)))).sl (Md.bor true false) l'), (24, AV.v (Ty.int IntKind.i64) (Md.bor false true) (↑l'.length : Int)), (25, AV.v (Ty.int IntKind.i64) (Md.bor false true) t25)]⟩
theorem ref_TermsCheck_h0 (nf : Nat)  (vars : Int) (l' : List (Int × Int × Int × Int × Unit)) (fu : Nat) (t25 : Int) : iter (fu + 1) (LC.F tab (ref_TermsCheck_phi nf) (fun _ F => iter nf F) ref_TermsCheck_keep 0 (ref_TermsCheck_L0 nf )) (ref_TermsCheck_m0 vars l' t25) = ref_TermsCheck_b0 nf  vars l'  (fun t25 => iter fu (LC.F tab (ref_TermsCheck_phi nf) (fun _ F => iter nf F) ref_TermsCheck_keep 0 (ref_TermsCheck_L0 nf )) (ref_TermsCheck_m0 vars l' t25)) t25 := by kernel_rfl
theorem ref_TermsCheck_e0 (nf : Nat)  (vars : Int) (l' : List (Int × Int × Int × Int × Unit)) : ∀ (fu : Nat) (t25 : Int), iter fu (LC.F tab (ref_TermsCheck_phi nf) (fun _ F => iter nf F) ref_TermsCheck_keep 0 (ref_TermsCheck_L0 nf )) (ref_TermsCheck_m0 vars l' t25) = ref_TermsCheck_l0 nf vars l'  fu t25 := by
  intro fu
  induction fu with
  | zero => intros; rfl
  | succ fu ih =>
    intro t25
    rw [ref_TermsCheck_h0 nf  vars l' fu t25]
    simp only [ih]
    rfl
theorem ref_TermsCheck_eq (nf : Nat) (vars : Int) (l' : List (Int × Int × Int × Int × Unit)) : runF tab (ref_TermsCheck_phi nf) ref_TermsCheck_keep nf [PT.val (Ty.int IntKind.i64) (Md.bor true false), PT.val ((Ty.int IntKind.i64).pair ((Ty.int IntKind.i64).pair ((Ty.int IntKind.i64).pair ((Ty.int IntKind.i64).pair Ty.unit)))).sl (Md.bor true false)] [(Ty.int IntKind.i64, Md.bor false true)] (resL ([]) Try.f21) (codeOf Try.f21) ⟨vars, l', ()⟩ = ref_TermsCheck_f nf vars l' := by
  have h : runF tab (ref_TermsCheck_phi nf) ref_TermsCheck_keep nf [PT.val (Ty.int IntKind.i64) (Md.bor true false), PT.val ((Ty.int IntKind.i64).pair ((Ty.int IntKind.i64).pair ((Ty.int IntKind.i64).pair ((Ty.int IntKind.i64).pair Ty.unit)))).sl (Md.bor true false)] [(Ty.int IntKind.i64, Md.bor false true)] (resL ([]) Try.f21) (codeOf Try.f21) ⟨vars, l', ()⟩ = ref_TermsCheck_p nf (fun p0 p1 v0 => iter nf (LC.F tab (ref_TermsCheck_phi nf) (fun _ F => iter nf F) ref_TermsCheck_keep 0 (ref_TermsCheck_L0 nf)) (ref_TermsCheck_m0 p0 p1 v0)) vars l' := by kernel_rfl
  rw [h]
  simp only [ref_TermsCheck_e0]
  rfl
def ref_TermsCheck_F (nf : Nat) (x : denPs [.val (.int .i64) (.bor true false), .val (.sl (.pair (.int .i64) (.pair (.int .i64) (.pair (.int .i64) (.pair (.int .i64) (.unit)))))) (.bor true false)]) : Option (denL [(.int .i64, .bor false true)]) := ref_TermsCheck_f nf x.1 x.2.1
def ref_TermsCheck_C (nf : Nat) : Contract := ⟨[.val (.int .i64) (.bor true false), .val (.sl (.pair (.int .i64) (.pair (.int .i64) (.pair (.int .i64) (.pair (.int .i64) (.unit)))))) (.bor true false)], [(.int .i64, .bor false true)], ref_TermsCheck_F nf, []⟩
theorem ref_TermsCheck_ok : FnOK Try.prog 21 := ⟨Try.f21, codeOf Try.f21, Try.func21, by kernel_rfl, by kernel_rfl⟩
theorem ref_TermsCheck_holds (nf : Nat) : Contract.Holds Try.prog 21 (ref_TermsCheck_C nf) :=
  fn_holds (Φ := ref_TermsCheck_phi nf) (keep := ref_TermsCheck_keep) (n := nf) ⟨tabs.1, tabs.2, (ctx_cons ref_Inside_ok (ref_Inside_holds nf) (ctx_cons ref_Value_ok (ref_Value_holds nf) ctx_nil)), mixed, bk_ok bkls rfl⟩ (fn := Try.f21) ⟨Try.func21, by kernel_rfl, by kernel_rfl, by kernel_rfl⟩ (fun x => ref_TermsCheck_eq nf x.1 x.2.1)

/-! codemason term.Do -/
def term_Do_phi (nf : Nat) : Nat → Option Contract := lookC []
def term_Do_keep : Nat → List Nat := lookK []
def term_Do_p (nf : Nat)  (op : Int) (a : Int) (b : Int) : Option (Int × Unit) :=
  bif op == 3 then
    some ((IntKind.i64.wrap (↑(BitVec.ofInt IntKind.i64.bits (IntKind.i64.wrap (a + b)) &&& BitVec.ofInt IntKind.i64.bits 255).toNat : Int), ()))
  else
    bif op == 4 then
      some ((IntKind.i64.wrap (↑(BitVec.ofInt IntKind.i64.bits (IntKind.i64.wrap (a - b)) &&& BitVec.ofInt IntKind.i64.bits 255).toNat : Int), ()))
    else
      bif op == 5 then
        some ((IntKind.i64.wrap (↑(BitVec.ofInt IntKind.i64.bits (IntKind.i64.wrap (a * b)) &&& BitVec.ofInt IntKind.i64.bits 255).toNat : Int), ()))
      else
        bif decide (a < b) then
          some ((1, ()))
        else
          some ((0, ()))
def term_Do_f (nf : Nat) (op : Int) (a : Int) (b : Int) : Option (Int × Unit) := term_Do_p nf  op a b
theorem term_Do_eq (nf : Nat) (op : Int) (a : Int) (b : Int) : runF tab (term_Do_phi nf) term_Do_keep nf [PT.val (Ty.int IntKind.i64) (Md.bor true false), PT.val (Ty.int IntKind.i64) (Md.bor true false), PT.val (Ty.int IntKind.i64) (Md.bor true false)] [(Ty.int IntKind.i64, Md.bor false true)] (resL ([]) Try.f67) (codeOf Try.f67) ⟨op, a, b, ()⟩ = term_Do_f nf op a b := by
  have h : runF tab (term_Do_phi nf) term_Do_keep nf [PT.val (Ty.int IntKind.i64) (Md.bor true false), PT.val (Ty.int IntKind.i64) (Md.bor true false), PT.val (Ty.int IntKind.i64) (Md.bor true false)] [(Ty.int IntKind.i64, Md.bor false true)] (resL ([]) Try.f67) (codeOf Try.f67) ⟨op, a, b, ()⟩ = term_Do_p nf  op a b := by kernel_rfl
  exact h
def term_Do_F (nf : Nat) (x : denPs [.val (.int .i64) (.bor true false), .val (.int .i64) (.bor true false), .val (.int .i64) (.bor true false)]) : Option (denL [(.int .i64, .bor false true)]) := term_Do_f nf x.1 x.2.1 x.2.2.1
def term_Do_C (nf : Nat) : Contract := ⟨[.val (.int .i64) (.bor true false), .val (.int .i64) (.bor true false), .val (.int .i64) (.bor true false)], [(.int .i64, .bor false true)], term_Do_F nf, []⟩
theorem term_Do_ok : FnOK Try.prog 67 := ⟨Try.f67, codeOf Try.f67, Try.func67, by kernel_rfl, by kernel_rfl⟩
theorem term_Do_holds (nf : Nat) : Contract.Holds Try.prog 67 (term_Do_C nf) :=
  fn_holds (Φ := term_Do_phi nf) (keep := term_Do_keep) (n := nf) ⟨tabs.1, tabs.2, ctx_nil, mixed, bk_ok bkls rfl⟩ (fn := Try.f67) ⟨Try.func67, by kernel_rfl, by kernel_rfl, by kernel_rfl⟩ (fun x => term_Do_eq nf x.1 x.2.1 x.2.2.1)

/-! codemason codemasonref.Op -/
def ref_Op_phi (nf : Nat) : Nat → Option Contract := lookC []
def ref_Op_keep : Nat → List Nat := lookK []
def ref_Op_p (nf : Nat)  (op : Int) (a : Int) (b : Int) : Option (Int × Unit) :=
  bif op == 3 then
    bif op == 4 then
      bif op == 5 then
        bif op == 6 then
          bif decide (a < b) then
            some ((Int.tmod 1 256, ()))
          else
            some (((IntKind.i64.wrap (a * b)).tmod 256, ()))
        else
          some (((IntKind.i64.wrap (a * b)).tmod 256, ()))
      else
        bif op == 6 then
          bif decide (a < b) then
            some ((Int.tmod 1 256, ()))
          else
            some (((IntKind.i64.wrap (IntKind.i64.wrap (a - b) + 256)).tmod 256, ()))
        else
          some (((IntKind.i64.wrap (IntKind.i64.wrap (a - b) + 256)).tmod 256, ()))
    else
      bif op == 5 then
        bif op == 6 then
          bif decide (a < b) then
            some ((Int.tmod 1 256, ()))
          else
            some (((IntKind.i64.wrap (a * b)).tmod 256, ()))
        else
          some (((IntKind.i64.wrap (a * b)).tmod 256, ()))
      else
        bif op == 6 then
          bif decide (a < b) then
            some ((Int.tmod 1 256, ()))
          else
            some (((IntKind.i64.wrap (a + b)).tmod 256, ()))
        else
          some (((IntKind.i64.wrap (a + b)).tmod 256, ()))
  else
    bif op == 4 then
      bif op == 5 then
        bif op == 6 then
          bif decide (a < b) then
            some ((Int.tmod 1 256, ()))
          else
            some (((IntKind.i64.wrap (a * b)).tmod 256, ()))
        else
          some (((IntKind.i64.wrap (a * b)).tmod 256, ()))
      else
        bif op == 6 then
          bif decide (a < b) then
            some ((Int.tmod 1 256, ()))
          else
            some (((IntKind.i64.wrap (IntKind.i64.wrap (a - b) + 256)).tmod 256, ()))
        else
          some (((IntKind.i64.wrap (IntKind.i64.wrap (a - b) + 256)).tmod 256, ()))
    else
      bif op == 5 then
        bif op == 6 then
          bif decide (a < b) then
            some ((Int.tmod 1 256, ()))
          else
            some (((IntKind.i64.wrap (a * b)).tmod 256, ()))
        else
          some (((IntKind.i64.wrap (a * b)).tmod 256, ()))
      else
        bif op == 6 then
          bif decide (a < b) then
            some ((Int.tmod 1 256, ()))
          else
            some ((Int.tmod 0 256, ()))
        else
          some ((Int.tmod 0 256, ()))
def ref_Op_f (nf : Nat) (op : Int) (a : Int) (b : Int) : Option (Int × Unit) := ref_Op_p nf  op a b
theorem ref_Op_eq (nf : Nat) (op : Int) (a : Int) (b : Int) : runF tab (ref_Op_phi nf) ref_Op_keep nf [PT.val (Ty.int IntKind.i64) (Md.bor true false), PT.val (Ty.int IntKind.i64) (Md.bor true false), PT.val (Ty.int IntKind.i64) (Md.bor true false)] [(Ty.int IntKind.i64, Md.bor false true)] (resL ([]) Try.f68) (codeOf Try.f68) ⟨op, a, b, ()⟩ = ref_Op_f nf op a b := by
  have h : runF tab (ref_Op_phi nf) ref_Op_keep nf [PT.val (Ty.int IntKind.i64) (Md.bor true false), PT.val (Ty.int IntKind.i64) (Md.bor true false), PT.val (Ty.int IntKind.i64) (Md.bor true false)] [(Ty.int IntKind.i64, Md.bor false true)] (resL ([]) Try.f68) (codeOf Try.f68) ⟨op, a, b, ()⟩ = ref_Op_p nf  op a b := by kernel_rfl
  exact h
def ref_Op_F (nf : Nat) (x : denPs [.val (.int .i64) (.bor true false), .val (.int .i64) (.bor true false), .val (.int .i64) (.bor true false)]) : Option (denL [(.int .i64, .bor false true)]) := ref_Op_f nf x.1 x.2.1 x.2.2.1
def ref_Op_C (nf : Nat) : Contract := ⟨[.val (.int .i64) (.bor true false), .val (.int .i64) (.bor true false), .val (.int .i64) (.bor true false)], [(.int .i64, .bor false true)], ref_Op_F nf, []⟩
theorem ref_Op_ok : FnOK Try.prog 68 := ⟨Try.f68, codeOf Try.f68, Try.func68, by kernel_rfl, by kernel_rfl⟩
theorem ref_Op_holds (nf : Nat) : Contract.Holds Try.prog 68 (ref_Op_C nf) :=
  fn_holds (Φ := ref_Op_phi nf) (keep := ref_Op_keep) (n := nf) ⟨tabs.1, tabs.2, ctx_nil, mixed, bk_ok bkls rfl⟩ (fn := Try.f68) ⟨Try.func68, by kernel_rfl, by kernel_rfl, by kernel_rfl⟩ (fun x => ref_Op_eq nf x.1 x.2.1 x.2.2.1)

/-! codemason codemasonref.Ints -/
def ref_Ints_phi (nf : Nat) : Nat → Option Contract := lookC []
def ref_Ints_keep : Nat → List Nat := lookK [(0, [0, 1, 5])]
def ref_Ints_b0 (nf : Nat) (a : List Int) (b : List Int) (g0 : Int → Option (Bool × Unit)) (i : Int) : Option (Bool × Unit) :=
  bif decide (i < (↑a.length : Int)) then
    bif inb i a.length then
      bif inb i b.length then
        bif a.getD i.toNat 0 != b.getD i.toNat 0 then
          some ((false, ()))
        else
          g0 (IntKind.i64.wrap (i + 1))
      else
        none
    else
      none
  else
    some ((true, ()))
def ref_Ints_p (nf : Nat) (l0 : List Int → List Int → Int → Option (Bool × Unit)) (a : List Int) (b : List Int) : Option (Bool × Unit) :=
  bif (↑a.length : Int) != (↑b.length : Int) then
    some ((false, ()))
  else
    l0 a b 0
def ref_Ints_l0 (nf : Nat) (a : List Int) (b : List Int) : Nat → Int → Option (Bool × Unit)
  | 0, _ => none
  | fu + 1, i => ref_Ints_b0 nf  a b  (ref_Ints_l0 nf a b  fu) i
def ref_Ints_f (nf : Nat) (a : List Int) (b : List Int) : Option (Bool × Unit) := ref_Ints_p nf (fun p0 p1 v0 => ref_Ints_l0 nf p0 p1 nf v0) a b
noncomputable def ref_Ints_L0 (nf : Nat) : LC (Bool × Unit) := theL (findL tab (ref_Ints_phi nf) (fun _ F => iter nf F) ref_Ints_keep 0 0 (codeOf Try.f34) (fin tab [(Ty.bool, Md.bor false true)] (resL ([]) Try.f34)) (fun _ _ => none) (fin tab [(Ty.bool, Md.bor false true)] (resL ([]) Try.f34)))
def ref_Ints_m0 (a : List Int) (b : List Int) (i : Int) : St := ⟨fresh, [(0, AV.v (Ty.int IntKind.i64).sl (Md.bor true false) a), (1, AV.v (Ty.int IntKind.i64).sl (Md.bor true false) b), (5, AV.v (Ty.int IntKind.i64) (Md.bor false true) i)]⟩
theorem ref_Ints_h0 (nf : Nat)  (a : List Int) (b : List Int) (fu : Nat) (i : Int) : iter (fu + 1) (LC.F tab (ref_Ints_phi nf) (fun _ F => iter nf F) ref_Ints_keep 0 (ref_Ints_L0 nf )) (ref_Ints_m0 a b i) = ref_Ints_b0 nf  a b  (fun i => iter fu (LC.F tab (ref_Ints_phi nf) (fun _ F => iter nf F) ref_Ints_keep 0 (ref_Ints_L0 nf )) (ref_Ints_m0 a b i)) i := by kernel_rfl
theorem ref_Ints_e0 (nf : Nat)  (a : List Int) (b : List Int) : ∀ (fu : Nat) (i : Int), iter fu (LC.F tab (ref_Ints_phi nf) (fun _ F => iter nf F) ref_Ints_keep 0 (ref_Ints_L0 nf )) (ref_Ints_m0 a b i) = ref_Ints_l0 nf a b  fu i := by
  intro fu
  induction fu with
  | zero => intros; rfl
  | succ fu ih =>
    intro i
    rw [ref_Ints_h0 nf  a b fu i]
    simp only [ih]
    rfl
theorem ref_Ints_eq (nf : Nat) (a : List Int) (b : List Int) : runF tab (ref_Ints_phi nf) ref_Ints_keep nf [PT.val (Ty.int IntKind.i64).sl (Md.bor true false), PT.val (Ty.int IntKind.i64).sl (Md.bor true false)] [(Ty.bool, Md.bor false true)] (resL ([]) Try.f34) (codeOf Try.f34) ⟨a, b, ()⟩ = ref_Ints_f nf a b := by
  have h : runF tab (ref_Ints_phi nf) ref_Ints_keep nf [PT.val (Ty.int IntKind.i64).sl (Md.bor true false), PT.val (Ty.int IntKind.i64).sl (Md.bor true false)] [(Ty.bool, Md.bor false true)] (resL ([]) Try.f34) (codeOf Try.f34) ⟨a, b, ()⟩ = ref_Ints_p nf (fun p0 p1 v0 => iter nf (LC.F tab (ref_Ints_phi nf) (fun _ F => iter nf F) ref_Ints_keep 0 (ref_Ints_L0 nf)) (ref_Ints_m0 p0 p1 v0)) a b := by kernel_rfl
  rw [h]
  simp only [ref_Ints_e0]
  rfl
def ref_Ints_F (nf : Nat) (x : denPs [.val (.sl (.int .i64)) (.bor true false), .val (.sl (.int .i64)) (.bor true false)]) : Option (denL [(.bool, .bor false true)]) := ref_Ints_f nf x.1 x.2.1
def ref_Ints_C (nf : Nat) : Contract := ⟨[.val (.sl (.int .i64)) (.bor true false), .val (.sl (.int .i64)) (.bor true false)], [(.bool, .bor false true)], ref_Ints_F nf, []⟩
theorem ref_Ints_ok : FnOK Try.prog 34 := ⟨Try.f34, codeOf Try.f34, Try.func34, by kernel_rfl, by kernel_rfl⟩
theorem ref_Ints_holds (nf : Nat) : Contract.Holds Try.prog 34 (ref_Ints_C nf) :=
  fn_holds (Φ := ref_Ints_phi nf) (keep := ref_Ints_keep) (n := nf) ⟨tabs.1, tabs.2, ctx_nil, mixed, bk_ok bkls rfl⟩ (fn := Try.f34) ⟨Try.func34, by kernel_rfl, by kernel_rfl, by kernel_rfl⟩ (fun x => ref_Ints_eq nf x.1 x.2.1)

/-! codemason term.Have 1 -/
def term_Have_1_phi (nf : Nat) : Nat → Option Contract := lookC []
def term_Have_1_keep : Nat → List Nat := lookK []
def term_Have_1_p (nf : Nat)  (x : Int) : Option (Bool × Unit) :=
  bif decide (x < 0) then
    some ((true, ()))
  else
    some ((decide (x > 255), ()))
def term_Have_1_f (nf : Nat) (x : Int) : Option (Bool × Unit) := term_Have_1_p nf  x
theorem term_Have_1_eq (nf : Nat) (x : Int) : runF tab (term_Have_1_phi nf) term_Have_1_keep nf [PT.val (Ty.int IntKind.i64) (Md.bor true false)] [(Ty.bool, Md.bor false true)] (resL ([]) Try.f92) (codeOf Try.f92) ⟨x, ()⟩ = term_Have_1_f nf x := by
  have h : runF tab (term_Have_1_phi nf) term_Have_1_keep nf [PT.val (Ty.int IntKind.i64) (Md.bor true false)] [(Ty.bool, Md.bor false true)] (resL ([]) Try.f92) (codeOf Try.f92) ⟨x, ()⟩ = term_Have_1_p nf  x := by kernel_rfl
  exact h
def term_Have_1_F (nf : Nat) (x : denPs [.val (.int .i64) (.bor true false)]) : Option (denL [(.bool, .bor false true)]) := term_Have_1_f nf x.1
def term_Have_1_C (nf : Nat) : Contract := ⟨[.val (.int .i64) (.bor true false)], [(.bool, .bor false true)], term_Have_1_F nf, []⟩
theorem term_Have_1_ok : FnOK Try.prog 92 := ⟨Try.f92, codeOf Try.f92, Try.func92, by kernel_rfl, by kernel_rfl⟩
theorem term_Have_1_holds (nf : Nat) : Contract.Holds Try.prog 92 (term_Have_1_C nf) :=
  fn_holds (Φ := term_Have_1_phi nf) (keep := term_Have_1_keep) (n := nf) ⟨tabs.1, tabs.2, ctx_nil, mixed, bk_ok bkls rfl⟩ (fn := Try.f92) ⟨Try.func92, by kernel_rfl, by kernel_rfl, by kernel_rfl⟩ (fun x => term_Have_1_eq nf x.1)

/-! slices.IndexFunc   int int  codemason term.Have 1 -/
def slices_IndexFunc__term_Have_1_phi (nf : Nat) : Nat → Option Contract := lookC [(92, term_Have_1_C nf)]
def slices_IndexFunc__term_Have_1_keep : Nat → List Nat := lookK [(0, [0, 1, 7, 8])]
def slices_IndexFunc__term_Have_1_b0 (nf : Nat) (s : List Int) (g0 : Int → Option (Int × Unit)) (t8 : Int) : Option (Int × Unit) :=
  bif decide (t8 < (↑s.length : Int)) then
    bif inb t8 s.length then
      Option.bind (term_Have_1_f nf (s.getD t8.toNat 0)) fun r =>
      bif r.fst then
        some ((t8, ()))
      else
        g0 (IntKind.i64.wrap (t8 + 1))
    else
      none
  else
    some ((-1, ()))
def slices_IndexFunc__term_Have_1_p (nf : Nat) (l0 : List Int → Int → Option (Int × Unit)) (s : List Int) (f : Unit) : Option (Int × Unit) :=
  l0 s 0
def slices_IndexFunc__term_Have_1_l0 (nf : Nat) (s : List Int) : Nat → Int → Option (Int × Unit)
  | 0, _ => none
  | fu + 1, t8 => slices_IndexFunc__term_Have_1_b0 nf  s  (slices_IndexFunc__term_Have_1_l0 nf s  fu) t8
def slices_IndexFunc__term_Have_1_f (nf : Nat) (s : List Int) (f : Unit) : Option (Int × Unit) := slices_IndexFunc__term_Have_1_p nf (fun p0 v0 => slices_IndexFunc__term_Have_1_l0 nf p0 nf v0) s f
noncomputable def slices_IndexFunc__term_Have_1_L0 (nf : Nat) : LC (Int × Unit) := theL (findL tab (slices_IndexFunc__term_Have_1_phi nf) (fun _ F => iter nf F) slices_IndexFunc__term_Have_1_keep 0 0 (codeOf Try.f97) (fin tab [(Ty.int IntKind.i64, Md.bor false true)] (resL ([]) Try.f97)) (fun _ _ => none) (fin tab [(Ty.int IntKind.i64, Md.bor false true)] (resL ([]) Try.f97)))
def slices_IndexFunc__term_Have_1_m0 (s : List Int) (t8 : Int) : St := ⟨fresh, [(0, AV.v (Ty.int IntKind.i64).sl (Md.bor true false) s), (1, AV.clo 92 []), (7, AV.v (Ty.int IntKind.i64) (Md.bor false true) (↑s.length : Int)), (8, AV.v (Ty.int IntKind.i64) (Md.bor false true) t8)]⟩
theorem slices_IndexFunc__term_Have_1_h0 (nf : Nat)  (s : List Int) (fu : Nat) (t8 : Int) : iter (fu + 1) (LC.F tab (slices_IndexFunc__term_Have_1_phi nf) (fun _ F => iter nf F) slices_IndexFunc__term_Have_1_keep 0 (slices_IndexFunc__term_Have_1_L0 nf )) (slices_IndexFunc__term_Have_1_m0 s t8) = slices_IndexFunc__term_Have_1_b0 nf  s  (fun t8 => iter fu (LC.F tab (slices_IndexFunc__term_Have_1_phi nf) (fun _ F => iter nf F) slices_IndexFunc__term_Have_1_keep 0 (slices_IndexFunc__term_Have_1_L0 nf )) (slices_IndexFunc__term_Have_1_m0 s t8)) t8 := by kernel_rfl
theorem slices_IndexFunc__term_Have_1_e0 (nf : Nat)  (s : List Int) : ∀ (fu : Nat) (t8 : Int), iter fu (LC.F tab (slices_IndexFunc__term_Have_1_phi nf) (fun _ F => iter nf F) slices_IndexFunc__term_Have_1_keep 0 (slices_IndexFunc__term_Have_1_L0 nf )) (slices_IndexFunc__term_Have_1_m0 s t8) = slices_IndexFunc__term_Have_1_l0 nf s  fu t8 := by
  intro fu
  induction fu with
  | zero => intros; rfl
  | succ fu ih =>
    intro t8
    rw [slices_IndexFunc__term_Have_1_h0 nf  s fu t8]
    simp only [ih]
    rfl
theorem slices_IndexFunc__term_Have_1_eq (nf : Nat) (s : List Int) (f : Unit) : runF tab (slices_IndexFunc__term_Have_1_phi nf) slices_IndexFunc__term_Have_1_keep nf [PT.val (Ty.int IntKind.i64).sl (Md.bor true false), PT.clo 92 []] [(Ty.int IntKind.i64, Md.bor false true)] (resL ([]) Try.f97) (codeOf Try.f97) ⟨s, f, ()⟩ = slices_IndexFunc__term_Have_1_f nf s f := by
  have h : runF tab (slices_IndexFunc__term_Have_1_phi nf) slices_IndexFunc__term_Have_1_keep nf [PT.val (Ty.int IntKind.i64).sl (Md.bor true false), PT.clo 92 []] [(Ty.int IntKind.i64, Md.bor false true)] (resL ([]) Try.f97) (codeOf Try.f97) ⟨s, f, ()⟩ = slices_IndexFunc__term_Have_1_p nf (fun p0 v0 => iter nf (LC.F tab (slices_IndexFunc__term_Have_1_phi nf) (fun _ F => iter nf F) slices_IndexFunc__term_Have_1_keep 0 (slices_IndexFunc__term_Have_1_L0 nf)) (slices_IndexFunc__term_Have_1_m0 p0 v0)) s f := by kernel_rfl
  rw [h]
  simp only [slices_IndexFunc__term_Have_1_e0]
  rfl
def slices_IndexFunc__term_Have_1_F (nf : Nat) (x : denPs [.val (.sl (.int .i64)) (.bor true false), .clo 92 []]) : Option (denL [(.int .i64, .bor false true)]) := slices_IndexFunc__term_Have_1_f nf x.1 x.2.1
def slices_IndexFunc__term_Have_1_C (nf : Nat) : Contract := ⟨[.val (.sl (.int .i64)) (.bor true false), .clo 92 []], [(.int .i64, .bor false true)], slices_IndexFunc__term_Have_1_F nf, []⟩
theorem slices_IndexFunc__term_Have_1_ok : FnOK Try.prog 97 := ⟨Try.f97, codeOf Try.f97, Try.func97, by kernel_rfl, by kernel_rfl⟩
theorem slices_IndexFunc__term_Have_1_holds (nf : Nat) : Contract.Holds Try.prog 97 (slices_IndexFunc__term_Have_1_C nf) :=
  fn_holds (Φ := slices_IndexFunc__term_Have_1_phi nf) (keep := slices_IndexFunc__term_Have_1_keep) (n := nf) ⟨tabs.1, tabs.2, (ctx_cons term_Have_1_ok (term_Have_1_holds nf) ctx_nil), mixed, bk_ok bkls rfl⟩ (fn := Try.f97) ⟨Try.func97, by kernel_rfl, by kernel_rfl, by kernel_rfl⟩ (fun x => slices_IndexFunc__term_Have_1_eq nf x.1 x.2.1)

/-! slices.ContainsFunc   int int  codemason term.Have 1 -/
def slices_ContainsFunc__term_Have_1_phi (nf : Nat) : Nat → Option Contract := lookC [(97, slices_IndexFunc__term_Have_1_C nf)]
def slices_ContainsFunc__term_Have_1_keep : Nat → List Nat := lookK []
def slices_ContainsFunc__term_Have_1_p (nf : Nat)  (s : List Int) (f : Unit) : Option (Bool × Unit) :=
  Option.bind (slices_IndexFunc__term_Have_1_f nf s (())) fun r =>
  some ((decide (r.fst ≥ 0), ()))
def slices_ContainsFunc__term_Have_1_f (nf : Nat) (s : List Int) (f : Unit) : Option (Bool × Unit) := slices_ContainsFunc__term_Have_1_p nf  s f
theorem slices_ContainsFunc__term_Have_1_eq (nf : Nat) (s : List Int) (f : Unit) : runF tab (slices_ContainsFunc__term_Have_1_phi nf) slices_ContainsFunc__term_Have_1_keep nf [PT.val (Ty.int IntKind.i64).sl (Md.bor true false), PT.clo 92 []] [(Ty.bool, Md.bor false true)] (resL ([]) Try.f91) (codeOf Try.f91) ⟨s, f, ()⟩ = slices_ContainsFunc__term_Have_1_f nf s f := by
  have h : runF tab (slices_ContainsFunc__term_Have_1_phi nf) slices_ContainsFunc__term_Have_1_keep nf [PT.val (Ty.int IntKind.i64).sl (Md.bor true false), PT.clo 92 []] [(Ty.bool, Md.bor false true)] (resL ([]) Try.f91) (codeOf Try.f91) ⟨s, f, ()⟩ = slices_ContainsFunc__term_Have_1_p nf  s f := by kernel_rfl
  exact h
def slices_ContainsFunc__term_Have_1_F (nf : Nat) (x : denPs [.val (.sl (.int .i64)) (.bor true false), .clo 92 []]) : Option (denL [(.bool, .bor false true)]) := slices_ContainsFunc__term_Have_1_f nf x.1 x.2.1
def slices_ContainsFunc__term_Have_1_C (nf : Nat) : Contract := ⟨[.val (.sl (.int .i64)) (.bor true false), .clo 92 []], [(.bool, .bor false true)], slices_ContainsFunc__term_Have_1_F nf, []⟩
theorem slices_ContainsFunc__term_Have_1_ok : FnOK Try.prog 91 := ⟨Try.f91, codeOf Try.f91, Try.func91, by kernel_rfl, by kernel_rfl⟩
theorem slices_ContainsFunc__term_Have_1_holds (nf : Nat) : Contract.Holds Try.prog 91 (slices_ContainsFunc__term_Have_1_C nf) :=
  fn_holds (Φ := slices_ContainsFunc__term_Have_1_phi nf) (keep := slices_ContainsFunc__term_Have_1_keep) (n := nf) ⟨tabs.1, tabs.2, (ctx_cons slices_IndexFunc__term_Have_1_ok (slices_IndexFunc__term_Have_1_holds nf) ctx_nil), mixed, bk_ok bkls rfl⟩ (fn := Try.f91) ⟨Try.func91, by kernel_rfl, by kernel_rfl, by kernel_rfl⟩ (fun x => slices_ContainsFunc__term_Have_1_eq nf x.1 x.2.1)

/-! codemason term.Have -/
def term_Have_phi (nf : Nat) : Nat → Option Contract := lookC [(91, slices_ContainsFunc__term_Have_1_C nf)]
def term_Have_keep : Nat → List Nat := lookK []
def term_Have_p (nf : Nat)  (vars : Int) (have' : List Int) : Option (Int × Unit) :=
  bif (↑have'.length : Int) != vars then
    some ((3, ()))
  else
    Option.bind (slices_ContainsFunc__term_Have_1_f nf have' (())) fun r =>
    bif r.fst then
      some ((4, ()))
    else
      some ((0, ()))
def term_Have_f (nf : Nat) (vars : Int) (have' : List Int) : Option (Int × Unit) := term_Have_p nf  vars have'
theorem term_Have_eq (nf : Nat) (vars : Int) (have' : List Int) : runF tab (term_Have_phi nf) term_Have_keep nf [PT.val (Ty.int IntKind.i64) (Md.bor true false), PT.val (Ty.int IntKind.i64).sl (Md.bor true false)] [(Ty.int IntKind.i64, Md.bor false true)] (resL ([]) Try.f66) (codeOf Try.f66) ⟨vars, have', ()⟩ = term_Have_f nf vars have' := by
  have h : runF tab (term_Have_phi nf) term_Have_keep nf [PT.val (Ty.int IntKind.i64) (Md.bor true false), PT.val (Ty.int IntKind.i64).sl (Md.bor true false)] [(Ty.int IntKind.i64, Md.bor false true)] (resL ([]) Try.f66) (codeOf Try.f66) ⟨vars, have', ()⟩ = term_Have_p nf  vars have' := by kernel_rfl
  exact h
def term_Have_F (nf : Nat) (x : denPs [.val (.int .i64) (.bor true false), .val (.sl (.int .i64)) (.bor true false)]) : Option (denL [(.int .i64, .bor false true)]) := term_Have_f nf x.1 x.2.1
def term_Have_C (nf : Nat) : Contract := ⟨[.val (.int .i64) (.bor true false), .val (.sl (.int .i64)) (.bor true false)], [(.int .i64, .bor false true)], term_Have_F nf, []⟩
theorem term_Have_ok : FnOK Try.prog 66 := ⟨Try.f66, codeOf Try.f66, Try.func66, by kernel_rfl, by kernel_rfl⟩
theorem term_Have_holds (nf : Nat) : Contract.Holds Try.prog 66 (term_Have_C nf) :=
  fn_holds (Φ := term_Have_phi nf) (keep := term_Have_keep) (n := nf) ⟨tabs.1, tabs.2, (ctx_cons slices_ContainsFunc__term_Have_1_ok (slices_ContainsFunc__term_Have_1_holds nf) ctx_nil), mixed, bk_ok bkls rfl⟩ (fn := Try.f66) ⟨Try.func66, by kernel_rfl, by kernel_rfl, by kernel_rfl⟩ (fun x => term_Have_eq nf x.1 x.2.1)

/-! codemason codemasonref.HaveCheck -/
def ref_HaveCheck_phi (nf : Nat) : Nat → Option Contract := lookC [(56, ref_Value_C nf)]
def ref_HaveCheck_keep : Nat → List Nat := lookK [(0, [1, 11, 12, 13])]
def ref_HaveCheck_b0 (nf : Nat) (have' : List Int) (g0 : Int → Option (Int × Unit)) (t13 : Int) : Option (Int × Unit) :=
  bif decide (t13 < (↑have'.length : Int)) then
    bif inb t13 have'.length then
      Option.bind (ref_Value_f nf (have'.getD t13.toNat 0)) fun r =>
      bif !r.fst then
        some ((4, ()))
      else
        g0 (IntKind.i64.wrap (t13 + 1))
    else
      none
  else
    some ((0, ()))
def ref_HaveCheck_p (nf : Nat) (l0 : List Int → Int → Option (Int × Unit)) (vars : Int) (have' : List Int) : Option (Int × Unit) :=
  bif (↑have'.length : Int) != vars then
    some ((3, ()))
  else
    l0 have' 0
def ref_HaveCheck_l0 (nf : Nat) (have' : List Int) : Nat → Int → Option (Int × Unit)
  | 0, _ => none
  | fu + 1, t13 => ref_HaveCheck_b0 nf  have'  (ref_HaveCheck_l0 nf have'  fu) t13
def ref_HaveCheck_f (nf : Nat) (vars : Int) (have' : List Int) : Option (Int × Unit) := ref_HaveCheck_p nf (fun p0 v0 => ref_HaveCheck_l0 nf p0 nf v0) vars have'
noncomputable def ref_HaveCheck_L0 (nf : Nat) : LC (Int × Unit) := theL (findL tab (ref_HaveCheck_phi nf) (fun _ F => iter nf F) ref_HaveCheck_keep 0 0 (codeOf Try.f28) (fin tab [(Ty.int IntKind.i64, Md.bor false true)] (resL ([]) Try.f28)) (fun _ _ => none) (fin tab [(Ty.int IntKind.i64, Md.bor false true)] (resL ([]) Try.f28)))
def ref_HaveCheck_m0 (have' : List Int) (t13 : Int) : St := ⟨fresh, [(1, AV.v (Ty.int IntKind.i64).sl (Md.bor true false) have'), (11, AV.v (Ty.int IntKind.i64).sl (Md.bor true false) have'), (12, AV.v (Ty.int IntKind.i64) (Md.bor false true) (↑have'.length : Int)), (13, AV.v (Ty.int IntKind.i64) (Md.bor false true) t13)]⟩
theorem ref_HaveCheck_h0 (nf : Nat)  (have' : List Int) (fu : Nat) (t13 : Int) : iter (fu + 1) (LC.F tab (ref_HaveCheck_phi nf) (fun _ F => iter nf F) ref_HaveCheck_keep 0 (ref_HaveCheck_L0 nf )) (ref_HaveCheck_m0 have' t13) = ref_HaveCheck_b0 nf  have'  (fun t13 => iter fu (LC.F tab (ref_HaveCheck_phi nf) (fun _ F => iter nf F) ref_HaveCheck_keep 0 (ref_HaveCheck_L0 nf )) (ref_HaveCheck_m0 have' t13)) t13 := by kernel_rfl
theorem ref_HaveCheck_e0 (nf : Nat)  (have' : List Int) : ∀ (fu : Nat) (t13 : Int), iter fu (LC.F tab (ref_HaveCheck_phi nf) (fun _ F => iter nf F) ref_HaveCheck_keep 0 (ref_HaveCheck_L0 nf )) (ref_HaveCheck_m0 have' t13) = ref_HaveCheck_l0 nf have'  fu t13 := by
  intro fu
  induction fu with
  | zero => intros; rfl
  | succ fu ih =>
    intro t13
    rw [ref_HaveCheck_h0 nf  have' fu t13]
    simp only [ih]
    rfl
theorem ref_HaveCheck_eq (nf : Nat) (vars : Int) (have' : List Int) : runF tab (ref_HaveCheck_phi nf) ref_HaveCheck_keep nf [PT.val (Ty.int IntKind.i64) (Md.bor true false), PT.val (Ty.int IntKind.i64).sl (Md.bor true false)] [(Ty.int IntKind.i64, Md.bor false true)] (resL ([]) Try.f28) (codeOf Try.f28) ⟨vars, have', ()⟩ = ref_HaveCheck_f nf vars have' := by
  have h : runF tab (ref_HaveCheck_phi nf) ref_HaveCheck_keep nf [PT.val (Ty.int IntKind.i64) (Md.bor true false), PT.val (Ty.int IntKind.i64).sl (Md.bor true false)] [(Ty.int IntKind.i64, Md.bor false true)] (resL ([]) Try.f28) (codeOf Try.f28) ⟨vars, have', ()⟩ = ref_HaveCheck_p nf (fun p0 v0 => iter nf (LC.F tab (ref_HaveCheck_phi nf) (fun _ F => iter nf F) ref_HaveCheck_keep 0 (ref_HaveCheck_L0 nf)) (ref_HaveCheck_m0 p0 v0)) vars have' := by kernel_rfl
  rw [h]
  simp only [ref_HaveCheck_e0]
  rfl
def ref_HaveCheck_F (nf : Nat) (x : denPs [.val (.int .i64) (.bor true false), .val (.sl (.int .i64)) (.bor true false)]) : Option (denL [(.int .i64, .bor false true)]) := ref_HaveCheck_f nf x.1 x.2.1
def ref_HaveCheck_C (nf : Nat) : Contract := ⟨[.val (.int .i64) (.bor true false), .val (.sl (.int .i64)) (.bor true false)], [(.int .i64, .bor false true)], ref_HaveCheck_F nf, []⟩
theorem ref_HaveCheck_ok : FnOK Try.prog 28 := ⟨Try.f28, codeOf Try.f28, Try.func28, by kernel_rfl, by kernel_rfl⟩
theorem ref_HaveCheck_holds (nf : Nat) : Contract.Holds Try.prog 28 (ref_HaveCheck_C nf) :=
  fn_holds (Φ := ref_HaveCheck_phi nf) (keep := ref_HaveCheck_keep) (n := nf) ⟨tabs.1, tabs.2, (ctx_cons ref_Value_ok (ref_Value_holds nf) ctx_nil), mixed, bk_ok bkls rfl⟩ (fn := Try.f28) ⟨Try.func28, by kernel_rfl, by kernel_rfl, by kernel_rfl⟩ (fun x => ref_HaveCheck_eq nf x.1 x.2.1)

/-! codemason term.Value -/
def term_Value_phi (nf : Nat) : Nat → Option Contract := lookC [(20, term_Check_C nf), (66, term_Have_C nf), (67, term_Do_C nf)]
def term_Value_keep : Nat → List Nat := lookK [(0, [1, 2, 10, 26, 27, 28, 63])]
def term_Value_b0 (nf : Nat) (l' : List (Int × Int × Int × Int × Unit)) (have' : List Int) (g0 : List Int → Int → Option (Int × Int × Unit)) (v : List Int) (t28 : Int) : Option (Int × Int × Unit) :=
  bif decide (t28 < (↑l'.length : Int)) then
    bif inb t28 l'.length then
      bif (l'.getD t28.toNat (0, 0, 0, 0, ())).fst == 2 then
        bif inb (l'.getD t28.toNat (0, 0, 0, 0, ())).snd.snd.snd.fst have'.length then
          bif bimp false ![have'.getD (Int.toNat (l'.getD t28.toNat (0, 0, 0, 0, ())).snd.snd.snd.fst) 0].isEmpty && (v.length + [have'.getD (Int.toNat (l'.getD t28.toNat (0, 0, 0, 0, ())).snd.snd.snd.fst) 0].length).ble lim then
            g0 (v ++ [have'.getD (Int.toNat (l'.getD t28.toNat (0, 0, 0, 0, ())).snd.snd.snd.fst) 0]) (IntKind.i64.wrap (t28 + 1))
          else
            none
        else
          none
      else
        bif decide ((l'.getD t28.toNat (0, 0, 0, 0, ())).fst > 2) then
          bif inb (l'.getD t28.toNat (0, 0, 0, 0, ())).snd.fst v.length then
            bif inb (l'.getD t28.toNat (0, 0, 0, 0, ())).snd.snd.fst v.length then
              Option.bind (term_Do_f nf ((l'.getD t28.toNat (0, 0, 0, 0, ())).fst) (v.getD (Int.toNat (l'.getD t28.toNat (0, 0, 0, 0, ())).snd.fst) 0) (v.getD (Int.toNat (l'.getD t28.toNat (0, 0, 0, 0, ())).snd.snd.fst) 0)) fun r3 =>
              bif bimp false ![r3.fst].isEmpty && (v.length + [r3.fst].length).ble lim then
                g0 (v ++ [r3.fst]) (IntKind.i64.wrap (t28 + 1))
              else
                none
            else
              none
          else
            none
        else
          bif bimp false ![(l'.getD t28.toNat (0, 0, 0, 0, ())).snd.snd.snd.fst].isEmpty && (v.length + [(l'.getD t28.toNat (0, 0, 0, 0, ())).snd.snd.snd.fst].length).ble lim then
            g0 (v ++ [(l'.getD t28.toNat (0, 0, 0, 0, ())).snd.snd.snd.fst]) (IntKind.i64.wrap (t28 + 1))
          else
            none
    else
      none
  else
    bif inb (IntKind.i64.wrap ((↑v.length : Int) - 1)) v.length then
      some ((v.getD (IntKind.i64.wrap ((↑v.length : Int) - 1)).toNat 0, 0, ()))
    else
      none
def term_Value_p (nf : Nat) (l0 : List (Int × Int × Int × Int × Unit) → List Int → List Int → Int → Option (Int × Int × Unit)) (vars : Int) (l' : List (Int × Int × Int × Int × Unit)) (have' : List Int) : Option (Int × Int × Unit) :=
  Option.bind (term_Check_f nf vars l') fun r =>
  bif r.fst != 0 then
    some ((0, r.fst, ()))
  else
    Option.bind (term_Have_f nf vars have') fun r2 =>
    bif r2.fst != 0 then
      some ((0, r2.fst, ()))
    else
      l0 l' have' [] 0
def term_Value_l0 (nf : Nat) (l' : List (Int × Int × Int × Int × Unit)) (have' : List Int) : Nat → List Int → Int → Option (Int × Int × Unit)
  | 0, _, _ => none
  | fu + 1, v, t28 => term_Value_b0 nf  l' have'  (term_Value_l0 nf l' have'  fu) v t28
def term_Value_f (nf : Nat) (vars : Int) (l' : List (Int × Int × Int × Int × Unit)) (have' : List Int) : Option (Int × Int × Unit) := term_Value_p nf (fun p0 p1 v0 v1 => term_Value_l0 nf p0 p1 nf v0 v1) vars l' have'
noncomputable def term_Value_L0 (nf : Nat) : LC (Int × Int × Unit) := theL (findL tab (term_Value_phi nf) (fun _ F => iter nf F) term_Value_keep 0 0 (codeOf Try.f24) (fin tab [(Ty.int IntKind.i64, Md.bor false true), (Ty.int IntKind.i64, Md.bor false true)] (resL ([]) Try.f24)) (fun _ _ => none) (fin tab [(Ty.int IntKind.i64, Md.bor false true), (Ty.int IntKind.i64, Md.bor false true)] (resL ([]) Try.f24)))
def term_Value_m0 (l' : List (Int × Int × Int × Int × Unit)) (have' : List Int) (v : List Int) (t28 : Int) : St := ⟨fresh, [(1, AV.v ((Ty.int IntKind.i64).pair ((Ty.int IntKind.i64).pair ((Ty.int IntKind.i64).pair ((Ty.int IntKind.i64).pair Ty.unit)))).sl (Md.bor true false) l'), (2, AV.v (Ty.int IntKind.i64).sl (Md.bor true false) have'), (10, AV.ow 500010 (Ty.int IntKind.i64).sl (Md.own false (Md.bor false false)) v), (26, AV.v ((Ty.int IntKind.i64).pair ((Ty.int IntKind.i64).pair ((Ty.int IntKind.i64).pair ((Ty.int IntKind.i64).pair Ty.unit)))).sl (Md.bor true false) l'), (27, AV.v (Ty.int IntKind.i64) (Md.bor false true) (↑l'.length : Int)), (28, AV.v (Ty.int IntKind.i64) (Md.bor false true) t28), (63, AV.dead)]⟩
theorem term_Value_h0 (nf : Nat)  (l' : List (Int × Int × Int × Int × Unit)) (have' : List Int) (fu : Nat) (v : List Int) (t28 : Int) : iter (fu + 1) (LC.F tab (term_Value_phi nf) (fun _ F => iter nf F) term_Value_keep 0 (term_Value_L0 nf )) (term_Value_m0 l' have' v t28) = term_Value_b0 nf  l' have'  (fun v t28 => iter fu (LC.F tab (term_Value_phi nf) (fun _ F => iter nf F) term_Value_keep 0 (term_Value_L0 nf )) (term_Value_m0 l' have' v t28)) v t28 := by kernel_rfl
theorem term_Value_e0 (nf : Nat)  (l' : List (Int × Int × Int × Int × Unit)) (have' : List Int) : ∀ (fu : Nat) (v : List Int) (t28 : Int), iter fu (LC.F tab (term_Value_phi nf) (fun _ F => iter nf F) term_Value_keep 0 (term_Value_L0 nf )) (term_Value_m0 l' have' v t28) = term_Value_l0 nf l' have'  fu v t28 := by
  intro fu
  induction fu with
  | zero => intros; rfl
  | succ fu ih =>
    intro v t28
    rw [term_Value_h0 nf  l' have' fu v t28]
    simp only [ih]
    rfl
theorem term_Value_eq (nf : Nat) (vars : Int) (l' : List (Int × Int × Int × Int × Unit)) (have' : List Int) : runF tab (term_Value_phi nf) term_Value_keep nf [PT.val (Ty.int IntKind.i64) (Md.bor true false), PT.val ((Ty.int IntKind.i64).pair ((Ty.int IntKind.i64).pair ((Ty.int IntKind.i64).pair ((Ty.int IntKind.i64).pair Ty.unit)))).sl (Md.bor true false), PT.val (Ty.int IntKind.i64).sl (Md.bor true false)] [(Ty.int IntKind.i64, Md.bor false true), (Ty.int IntKind.i64, Md.bor false true)] (resL ([]) Try.f24) (codeOf Try.f24) ⟨vars, l', have', ()⟩ = term_Value_f nf vars l' have' := by
  have h : runF tab (term_Value_phi nf) term_Value_keep nf [PT.val (Ty.int IntKind.i64) (Md.bor true false), PT.val ((Ty.int IntKind.i64).pair ((Ty.int IntKind.i64).pair ((Ty.int IntKind.i64).pair ((Ty.int IntKind.i64).pair Ty.unit)))).sl (Md.bor true false), PT.val (Ty.int IntKind.i64).sl (Md.bor true false)] [(Ty.int IntKind.i64, Md.bor false true), (Ty.int IntKind.i64, Md.bor false true)] (resL ([]) Try.f24) (codeOf Try.f24) ⟨vars, l', have', ()⟩ = term_Value_p nf (fun p0 p1 v0 v1 => iter nf (LC.F tab (term_Value_phi nf) (fun _ F => iter nf F) term_Value_keep 0 (term_Value_L0 nf)) (term_Value_m0 p0 p1 v0 v1)) vars l' have' := by kernel_rfl
  rw [h]
  simp only [term_Value_e0]
  rfl
def term_Value_F (nf : Nat) (x : denPs [.val (.int .i64) (.bor true false), .val (.sl (.pair (.int .i64) (.pair (.int .i64) (.pair (.int .i64) (.pair (.int .i64) (.unit)))))) (.bor true false), .val (.sl (.int .i64)) (.bor true false)]) : Option (denL [(.int .i64, .bor false true), (.int .i64, .bor false true)]) := term_Value_f nf x.1 x.2.1 x.2.2.1
def term_Value_C (nf : Nat) : Contract := ⟨[.val (.int .i64) (.bor true false), .val (.sl (.pair (.int .i64) (.pair (.int .i64) (.pair (.int .i64) (.pair (.int .i64) (.unit)))))) (.bor true false), .val (.sl (.int .i64)) (.bor true false)], [(.int .i64, .bor false true), (.int .i64, .bor false true)], term_Value_F nf, []⟩
theorem term_Value_ok : FnOK Try.prog 24 := ⟨Try.f24, codeOf Try.f24, Try.func24, by kernel_rfl, by kernel_rfl⟩
theorem term_Value_holds (nf : Nat) : Contract.Holds Try.prog 24 (term_Value_C nf) :=
  fn_holds (Φ := term_Value_phi nf) (keep := term_Value_keep) (n := nf) ⟨tabs.1, tabs.2, (ctx_cons term_Check_ok (term_Check_holds nf) (ctx_cons term_Have_ok (term_Have_holds nf) (ctx_cons term_Do_ok (term_Do_holds nf) ctx_nil))), mixed, bk_ok bkls rfl⟩ (fn := Try.f24) ⟨Try.func24, by kernel_rfl, by kernel_rfl, by kernel_rfl⟩ (fun x => term_Value_eq nf x.1 x.2.1 x.2.2.1)

/-! codemason codemasonref.Term -/
def ref_Term_phi (nf : Nat) : Nat → Option Contract := lookC [(68, ref_Op_C nf)]
def ref_Term_keep : Nat → List Nat := lookK [(0, [0, 1, 5, 10, 11, 12, 13])]
def ref_Term_b0 (nf : Nat) (l' : List (Int × Int × Int × Int × Unit)) (have' : List Int) (g0 : List Int → Int → Option (Int × Unit)) (v : List Int) (t13 : Int) : Option (Int × Unit) :=
  bif decide (t13 < (↑l'.length : Int)) then
    bif inb t13 l'.length then
      bif (l'.getD t13.toNat (0, 0, 0, 0, ())).fst == 1 then
        bif inb t13 v.length then
          g0 (v.set t13.toNat (l'.getD t13.toNat (0, 0, 0, 0, ())).snd.snd.snd.fst) (IntKind.i64.wrap (t13 + 1))
        else
          none
      else
        bif (l'.getD t13.toNat (0, 0, 0, 0, ())).fst == 2 then
          bif inb (l'.getD t13.toNat (0, 0, 0, 0, ())).snd.snd.snd.fst have'.length then
            bif inb t13 v.length then
              g0 (v.set t13.toNat (have'.getD (Int.toNat (l'.getD t13.toNat (0, 0, 0, 0, ())).snd.snd.snd.fst) 0)) (IntKind.i64.wrap (t13 + 1))
            else
              none
          else
            none
        else
          bif inb (l'.getD t13.toNat (0, 0, 0, 0, ())).snd.fst v.length then
            bif inb (l'.getD t13.toNat (0, 0, 0, 0, ())).snd.snd.fst v.length then
              Option.bind (ref_Op_f nf ((l'.getD t13.toNat (0, 0, 0, 0, ())).fst) (v.getD (Int.toNat (l'.getD t13.toNat (0, 0, 0, 0, ())).snd.fst) 0) (v.getD (Int.toNat (l'.getD t13.toNat (0, 0, 0, 0, ())).snd.snd.fst) 0)) fun r =>
              bif inb t13 v.length then
                g0 (v.set t13.toNat r.fst) (IntKind.i64.wrap (t13 + 1))
              else
                none
            else
              none
          else
            none
    else
      none
  else
    bif inb (IntKind.i64.wrap ((↑l'.length : Int) - 1)) v.length then
      some ((v.getD (IntKind.i64.wrap ((↑l'.length : Int) - 1)).toNat 0, ()))
    else
      none
def ref_Term_p (nf : Nat) (l0 : List (Int × Int × Int × Int × Unit) → List Int → List Int → Int → Option (Int × Unit)) (l' : List (Int × Int × Int × Int × Unit)) (have' : List Int) : Option (Int × Unit) :=
  bif decide (0 ≤ (↑l'.length : Int)) && decide ((↑l'.length : Int) ≤ (↑l'.length : Int)) && decide ((↑l'.length : Int) ≤ (↑lim : Int)) then
    l0 l' have' (List.replicate (↑l'.length : Int).toNat 0) 0
  else
    none
def ref_Term_l0 (nf : Nat) (l' : List (Int × Int × Int × Int × Unit)) (have' : List Int) : Nat → List Int → Int → Option (Int × Unit)
  | 0, _, _ => none
  | fu + 1, v, t13 => ref_Term_b0 nf  l' have'  (ref_Term_l0 nf l' have'  fu) v t13
def ref_Term_f (nf : Nat) (l' : List (Int × Int × Int × Int × Unit)) (have' : List Int) : Option (Int × Unit) := ref_Term_p nf (fun p0 p1 v0 v1 => ref_Term_l0 nf p0 p1 nf v0 v1) l' have'
noncomputable def ref_Term_L0 (nf : Nat) : LC (Int × Unit) := theL (findL tab (ref_Term_phi nf) (fun _ F => iter nf F) ref_Term_keep 0 0 (codeOf Try.f26) (fin tab [(Ty.int IntKind.i64, Md.bor false true)] (resL ([]) Try.f26)) (fun _ _ => none) (fin tab [(Ty.int IntKind.i64, Md.bor false true)] (resL ([]) Try.f26)))
def ref_Term_m0 (l' : List (Int × Int × Int × Int × Unit)) (have' : List Int) (v : List Int) (t13 : Int) : St := ⟨fresh, [(0, AV.v ((Ty.int IntKind.i64).pair ((Ty.int IntKind.i64).pair ((Ty.int IntKind.i64).pair ((Ty.int IntKind.i64).pair Ty.unit)))).sl (Md.bor true false) l'), (1, AV.v (Ty.int IntKind.i64).sl (Md.bor true false) have'), (5, AV.ow 500005 (Ty.int IntKind.i64).sl (Md.own false (Md.bor false false)) v), (10, AV.dead), (11, AV.v ((Ty.int IntKind.i64).pair ((Ty.int IntKind.i64).pair ((Ty.int IntKind.i64).pair ((Ty.int IntKind.i64).pair Ty.unit)))).sl (Md.bor true false) l'), (12, AV.v (Ty.int IntKind.i64) (Md.bor false true) (↑l'.length : Int)), (13, AV.v (Ty.int IntKind.i64) (Md.bor false true) t13)]⟩
theorem ref_Term_h0 (nf : Nat)  (l' : List (Int × Int × Int × Int × Unit)) (have' : List Int) (fu : Nat) (v : List Int) (t13 : Int) : iter (fu + 1) (LC.F tab (ref_Term_phi nf) (fun _ F => iter nf F) ref_Term_keep 0 (ref_Term_L0 nf )) (ref_Term_m0 l' have' v t13) = ref_Term_b0 nf  l' have'  (fun v t13 => iter fu (LC.F tab (ref_Term_phi nf) (fun _ F => iter nf F) ref_Term_keep 0 (ref_Term_L0 nf )) (ref_Term_m0 l' have' v t13)) v t13 := by kernel_rfl
theorem ref_Term_e0 (nf : Nat)  (l' : List (Int × Int × Int × Int × Unit)) (have' : List Int) : ∀ (fu : Nat) (v : List Int) (t13 : Int), iter fu (LC.F tab (ref_Term_phi nf) (fun _ F => iter nf F) ref_Term_keep 0 (ref_Term_L0 nf )) (ref_Term_m0 l' have' v t13) = ref_Term_l0 nf l' have'  fu v t13 := by
  intro fu
  induction fu with
  | zero => intros; rfl
  | succ fu ih =>
    intro v t13
    rw [ref_Term_h0 nf  l' have' fu v t13]
    simp only [ih]
    rfl
theorem ref_Term_eq (nf : Nat) (l' : List (Int × Int × Int × Int × Unit)) (have' : List Int) : runF tab (ref_Term_phi nf) ref_Term_keep nf [PT.val ((Ty.int IntKind.i64).pair ((Ty.int IntKind.i64).pair ((Ty.int IntKind.i64).pair ((Ty.int IntKind.i64).pair Ty.unit)))).sl (Md.bor true false), PT.val (Ty.int IntKind.i64).sl (Md.bor true false)] [(Ty.int IntKind.i64, Md.bor false true)] (resL ([]) Try.f26) (codeOf Try.f26) ⟨l', have', ()⟩ = ref_Term_f nf l' have' := by
  have h : runF tab (ref_Term_phi nf) ref_Term_keep nf [PT.val ((Ty.int IntKind.i64).pair ((Ty.int IntKind.i64).pair ((Ty.int IntKind.i64).pair ((Ty.int IntKind.i64).pair Ty.unit)))).sl (Md.bor true false), PT.val (Ty.int IntKind.i64).sl (Md.bor true false)] [(Ty.int IntKind.i64, Md.bor false true)] (resL ([]) Try.f26) (codeOf Try.f26) ⟨l', have', ()⟩ = ref_Term_p nf (fun p0 p1 v0 v1 => iter nf (LC.F tab (ref_Term_phi nf) (fun _ F => iter nf F) ref_Term_keep 0 (ref_Term_L0 nf)) (ref_Term_m0 p0 p1 v0 v1)) l' have' := by kernel_rfl
  rw [h]
  simp only [ref_Term_e0]
  rfl
def ref_Term_F (nf : Nat) (x : denPs [.val (.sl (.pair (.int .i64) (.pair (.int .i64) (.pair (.int .i64) (.pair (.int .i64) (.unit)))))) (.bor true false), .val (.sl (.int .i64)) (.bor true false)]) : Option (denL [(.int .i64, .bor false true)]) := ref_Term_f nf x.1 x.2.1
def ref_Term_C (nf : Nat) : Contract := ⟨[.val (.sl (.pair (.int .i64) (.pair (.int .i64) (.pair (.int .i64) (.pair (.int .i64) (.unit)))))) (.bor true false), .val (.sl (.int .i64)) (.bor true false)], [(.int .i64, .bor false true)], ref_Term_F nf, []⟩
theorem ref_Term_ok : FnOK Try.prog 26 := ⟨Try.f26, codeOf Try.f26, Try.func26, by kernel_rfl, by kernel_rfl⟩
theorem ref_Term_holds (nf : Nat) : Contract.Holds Try.prog 26 (ref_Term_C nf) :=
  fn_holds (Φ := ref_Term_phi nf) (keep := ref_Term_keep) (n := nf) ⟨tabs.1, tabs.2, (ctx_cons ref_Op_ok (ref_Op_holds nf) ctx_nil), mixed, bk_ok bkls rfl⟩ (fn := Try.f26) ⟨Try.func26, by kernel_rfl, by kernel_rfl, by kernel_rfl⟩ (fun x => ref_Term_eq nf x.1 x.2.1)
end
end Go.Proofs.Ytpnganfbonlphaa.S
